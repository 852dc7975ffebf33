/- tree.SetPath of any tree, where all is as it should be: the walk. -/
import Derived.Test.YtedpljclnpiggaaGreatDoorV20
import Derived.Test.YtedpljclnpiggaaGreatDoorV24
set_option linter.unusedVariables false
set_option linter.unusedSimpArgs false
set_option maxRecDepth 100000
set_option maxHeartbeats 12800000
namespace Go.Proofs.YtedpljclnpiggaaGreatDoor
open Go Go.RowKit
def MinRel (n : Nat) (W : World) (m i : Value) (wr : World) : Prop :=
 ∃ (k : Nat) (x : Int), 1 ≤ k ∧ k ≤ n ∧ i = .int .i64 k ∧ m = .int .i64 x ∧ 1 ≤ x ∧ wr = W
theorem mmin_any (B : Nat) (l : List Int) (hl : l.length ≤ 1000) (h0 : 0 < l.length) (hp : ∀ i, i < l.length → 1 ≤ l.getD i 0) (a : Option Addr) (c : Nat) (w : World) (hN : NumsAt B w a l) :
    Calls Tryz.prog 204 #[.slice a l.length c] w fun r w' => ∃ x : Int, r = .returned (.int .i64 x) ∧ 1 ≤ x ∧ w' = w := by
 obtain ⟨b, o, rfl, _, c0⟩ := hN 0 h0
 rw [Nat.add_zero] at c0
 have hp0 := hp 0 h0
 obtain ⟨n, hn⟩ : ∃ n, n = l.length := ⟨_, rfl⟩
 have HN := hQ hN
 have HP := hQ hp
 rw [← hn] at hl h0 ⊢
 have Hn := hQ hn
 have hlI : (n : Int) ≤ 1000 := by omega
 have hl0 : 0 < n := h0
 have hl1 : ¬ (n : Int) < 1 := by omega
 have hl0I : (0 : Int) < n := by omega
 generalize l.getD 0 0 = y at c0 hp0
 clear hN hp hn
 go_enter Tryz.func204, Tryz.ntmps204
 go_wp2
 go_loopw [3, 4] (fun m i wr => MinRel n w m i wr) (fun _ i _ => n - (intOf i).toNat)
 case atStart => exact ⟨1, y, Nat.le_refl _, by omega, rfl, rfl, hp0, rfl⟩
 case round =>
  obtain ⟨k, x, hk1, hk, rfl, rfl, hx, rfl⟩ := hrel
  by_cases hkl : k < n
  · obtain ⟨b', o', e, _, ck⟩ := HN.out k (by rw [← Hn.out]; exact hkl)
    obtain ⟨rfl, rfl⟩ : b = b' ∧ o = o' := by simpa using e
    have hz := HP.out k (by rw [← Hn.out]; exact hkl)
    have hkI : (k : Int) < n := by omega
    generalize l.getD k 0 = z at ck hz
    clear e c0 hp0
    go_wp2
    exact ⟨⟨k + 1, _, by omega, by omega, by go_num, rfl, by first | omega | (split <;> omega) | (rw [Int.min_def]; split <;> omega), rfl⟩, by simp [intOf]; omega⟩
  · obtain rfl : k = n := by omega
    have hkI : ¬ (k : Int) < k := by omega
    go_wp2
    go_ret
    exact ⟨x, rfl, hx, rfl⟩
def OutC (w : World) (n : Nat) (nd : Nat → NodeD) (v : Value) (W : World) : Prop :=
 ∃ q g cap U, v = .pointer (some ⟨q, 0, none⟩) ∧ W.heap[q]? = some (.cells #[.slice (some ⟨g, 0, none⟩) n cap] 44 (0, 0)) ∧ TreeO w.heap.size W g n cap nd U ∧ w.heap.size ≤ q ∧ q ≠ g ∧ Below w.heap.size w W
theorem outc_a {w w5 : World} {N q g n cap : Nat} {nd : Nat → NodeD} {U : Nat → Value} (hB : BoxZ w5 q (.slice none 0 0) 44) (hT : TreeO N w5 g n cap nd U) (hqN : q < N) (hq : w.heap.size ≤ q) (hb : Below w.heap.size w w5) :
    OutC w n nd (.pointer (some ⟨q, 0, none⟩)) (w5.setCell ⟨q, 0, none⟩ (.slice (some ⟨g, 0, none⟩) n cap)) := by
 have hg := hT.far
 have hT2 : Turned (fun k => k = q) w5 (w5.setCell ⟨q, 0, none⟩ (.slice (some ⟨g, 0, none⟩) n cap)) := (Turned.refl (fun k => k = q) w5).setCell (fun _ => rfl) _
 exact ⟨q, g, cap, U, rfl, rSc hB.row 0 _, (hT.kept hT2 (by omega) (fun i hi b hb e => by have := ((hT.um i hi).2 b hb).1; omega)).base (by omega), hq, by omega, hb.setCell (p := ⟨q, 0, none⟩) hq _⟩
theorem outc_b {w w5 : World} {N g n cap : Nat} {nd : Nat → NodeD} {U : Nat → Value} (hT : TreeO N w5 g n cap nd U) (hN : w.heap.size ≤ N) (hb : Below w.heap.size w w5) :
    OutC w n nd (.pointer (some ⟨w5.heap.size, 0, none⟩)) (w5.alloc (.cells #[.slice (some ⟨g, 0, none⟩) n cap] 44 (0, 0))) := by
 have hb1 := (Below.refl w5.heap.size w5).alloc (Nat.le_refl _) (.cells #[.slice (some ⟨g, 0, none⟩) n cap] 44)
 have hgl := hT.lt
 exact ⟨w5.heap.size, g, cap, U, rfl, rAl _ _ _, (hT.new hb1).base hN, hb.size, by omega, hb.alloc hb.size _⟩
def SetAns (T : List NodeD) (leaf : Nat) (ep pub : Int) (pubs : List Int) (w : World) (e : Ending) (w' : World) : Prop :=
 ∃ g cap U, e = .returned (.tuple #[.agg #[.slice (some ⟨g, 0, none⟩) T.length cap], .int .i64 0]) ∧ TreeO w.heap.size w' g T.length cap (setF T leaf ep pub pubs) U ∧ Below w.heap.size w w'
def ZeRel (N g n cap : Nat) (nd : Nat → NodeD) (dl : List Nat) (W : World) (i : Value) (wr : World) : Prop :=
 ∃ (k : Nat) (U : Nat → Value), k ≤ dl.length ∧ i = .int .i64 k ∧ TreeO N wr g n cap (zeroF nd (dl.take k)) U ∧ Turned (fun k => k = g) W wr
def PuRel (N g n cap : Nat) (nd : Nat → NodeD) (pl : List Nat) (pubs : List Int) (W : World) (i : Value) (wr : World) : Prop :=
 ∃ (k : Nat) (U : Nat → Value), k ≤ pl.length ∧ i = .int .i64 k ∧ TreeO N wr g n cap (pubF nd ((pl.take k).zip (pubs.take k))) U ∧ Turned (fun k => k = g) W wr
theorem TreeO.cells {N0 : Nat} {w : World} {g n cap : Nat} {nd : Nat → NodeD} {U : Nat → Value} (h : TreeO N0 w g n cap nd U) {i : Nat} (hi : i < n) :
    (∃ a, w.cell? ⟨g, i * 4, none⟩ = some a) ∧ (∃ a, w.cell? ⟨g, i * 4 + 1, none⟩ = some a) ∧ (∃ a, w.cell? ⟨g, i * 4 + 2, none⟩ = some a) ∧ (∃ a, w.cell? ⟨g, i * 4 + 3, none⟩ = some a) ∧ ∀ j, w.frozen? ⟨g, j, none⟩ = false := by
 obtain ⟨c, hr, h1, h2⟩ := h.row
 obtain ⟨k0, k1, k2, k3⟩ := h2 i hi
 exact ⟨⟨_, (cRw hr _).trans k0⟩, ⟨_, (cRw hr _).trans k1⟩, ⟨_, (cRw hr _).trans k2⟩, ⟨_, (cRw hr _).trans k3⟩, fun j => fRw hr j⟩
theorem amsetpath_any (B : Nat) (h3 : 3 ≤ B) (T : List NodeD) (hfit : FitT T) (hlen : T.length ≤ 262144) (a : Option Addr) (c : Nat) (leaf ep pub : Int) (ha : askD T leaf = 0) (hep : 0 ≤ ep) (hpub : 1 ≤ pub) (pubs : List Int) (hpl : pubs.length = (pthD T leaf.toNat).length) (hpp : ∀ i, i < pubs.length → 1 ≤ pubs.getD i 0) (pa : Option Addr) (pc : Nat) (w : World) (htz : TzF w) (hB : B ≤ w.heap.size) (hT : TreeAt B w a T) (hN : NumsAt w.heap.size w pa pubs) :
    Calls Tryz.prog 59 #[.agg #[.slice a T.length c], .int .i64 leaf, .int .i64 ep, .int .i64 pub, .slice pa pubs.length pc] w (SetAns T leaf.toNat ep pub pubs w) := by
 obtain ⟨hok, hl0, hlt, hn, hTn, hpn⟩ := ask_zero ha
 have hpk := pth_ok ha
 have hb0 := (Below.refl w.heap.size w).alloc (Nat.le_refl _) (.cells #[.slice a T.length c] 44)
 have hb1 := hb0.alloc hb0.size (.cells #[.slice none 0 0] 44)
 have hs1 : w.heap.size + 1 < ((w.alloc (.cells #[.slice a T.length c] 44)).alloc (.cells #[.slice none 0 0] 44)).heap.size := by simp
 have hct : ((w.alloc (.cells #[.slice a T.length c] 44)).alloc (.cells #[.slice none 0 0] 44)).heap[w.heap.size]? = some (.cells #[.slice a T.length c] 44 (0, 0)) := (heap_alloc_old _ _ (by simp)).trans (rAl _ _ _)
 have hcr : ((w.alloc (.cells #[.slice a T.length c] 44)).alloc (.cells #[.slice none 0 0] 44)).heap[w.heap.size + 1]? = some (.cells #[.slice none 0 0] 44 (0, 0)) := by
  have := rAl (w := w.alloc (.cells #[.slice a T.length c] 44)) #[.slice none 0 0] 44 (0, 0)
  simpa using this
 have hfl : ∀ x, x < T.length → (nodeD T x).um.length ≤ 8 := fun x hx => (um_ok hok hx).2.1
 have hn18 : 1 ≤ lvD T.length ∧ lvD T.length ≤ 8 := by rcases hn with h | h | h | h <;> omega
 have hck := fun (W : World) (hW : Below w.heap.size w W) => acheck_any B T hfit hlen a c W (htz.below (hW.mono hB) h3) h3 (Nat.le_trans hB hW.size) (hT.below (hW.mono hB))
 rw [errD_ok hok] at hck
 have hpath := fun (W : World) (hW : Below w.heap.size w W) => ampath_any B h3 T hfit hlen a c leaf W (htz.below (hW.mono hB) h3) (Nat.le_trans hB hW.size) (hT.below (hW.mono hB))
 unfold PathAns at hpath
 rw [ha, if_pos rfl] at hpath
 have htwin := fun (W : World) (hW : Below w.heap.size w W) => amtwin_any B T hfl (lvD T.length) hTn hn18.1 hn18.2 a c W (Nat.le_trans hB hW.size) (hT.below (hW.mono hB))
 have hdir := fun (W : World) (hW : Below w.heap.size w W) => adirect_any (2 * leaf.toNat) (lvD T.length) hn (by omega) W (htz.below (hW.mono hB) h3) (Nat.le_trans (Nat.le_trans h3 hB) hW.size)
 have e2 : ((2 * leaf.toNat : Nat) : Int) = 2 * leaf := by omega
 rw [e2] at hdir
 have hlv := aleaves_any a T.length c hlen
 have hpe : ¬ ep < 0 := by omega
 have hpb : ¬ pub < 1 := by omega
 have hT15 : T.length ≤ 15 := by omega
 have hTI : (T.length : Int) ≤ 15 := by omega
 have hlfI : leaf ≤ 8 := by omega
 have h2lf : 0 ≤ 2 * leaf := by omega
 have hlfT : 2 * leaf < T.length := by omega
 have hlx : (2 * leaf).toNat < T.length := by omega
 have hgl : (2 * leaf).toNat = 2 * leaf.toNat := by omega
 have hset : setF T leaf.toNat ep pub pubs = pubF (zeroF (leafF T (2 * leaf).toNat ep pub) (drD (2 * leaf.toNat) (lvD T.length))) ((pthD T leaf.toNat).zip pubs) := by rw [hgl]; rfl
 have hpal := fun (k : Nat) (hk : k < (pthD T leaf.toNat).length) (x : Int) => pub_alone hpk (nd := leafF T (2 * leaf).toNat ep pub) hpl hk x
 have hpsub : ∀ x ∈ pthD T leaf.toNat, x < T.length := fun x hx => hpk.dlt x (hpk.sub x hx)
 have hdlt := hpk.dlt
 have hdl3 := hpk.len
 have hpl3 := hpk.plen
 have Hset := hQ hset
 have Hpal := hQ hpal
 obtain ⟨P, hP⟩ : ∃ P, P = SetAns T leaf.toNat ep pub pubs w := ⟨_, rfl⟩
 rw [← hP]
 have HP := hQ hP
 have Hck := hQ hck
 have Hpath := hQ hpath
 have Htwin := hQ htwin
 have Hdir := hQ hdir
 have Hlv := hQ hlv
 have Hb1 := hQ hb1
 have Hs1 := hQ hs1
 have Hct := hQ hct
 have Hcr := hQ hcr
 have HN := hQ hN
 have Hlx := hQ hlx
 have Hpp := hQ hpp
 have HT15 := hQ hT15
 obtain ⟨dl, hdl⟩ : ∃ dl, dl = drD (2 * leaf.toNat) (lvD T.length) := ⟨_, rfl⟩
 obtain ⟨pl, hplE⟩ : ∃ pl, pl = pthD T leaf.toNat := ⟨_, rfl⟩
 rw [← hdl] at Hdir Hset Hpal hdlt hdl3
 rw [← hplE] at Hpath Hset Hpal hpl hpsub hpl3
 have Hpsub := hQ hpsub
 have Hdlt := hQ hdlt
 have hdI : (dl.length : Int) ≤ 3 := by omega
 have hpI : (pl.length : Int) ≤ 3 := by omega
 have hpuI : (pubs.length : Int) = pl.length := by omega
 have Hpl := hQ hpl
 have Hpl3 := hQ hpl3
 generalize lvD T.length = nl at Hlv Htwin Hdir
 clear hset hpal hP hck hpath htwin hdir hlv hb0 hb1 hs1 hct hcr hN hlx hpp hT15 hdl hplE hpsub hdlt hdl3 hpl3 hok hl0 hlt hn hTn hpn hpk hfl hn18 e2 hgl hep hpub hT htz ha hfit hlen hpl
 go_enter Tryz.func59, Tryz.ntmps59
 go_wp2_with fail
 refine (Hck.out _ Hb1.out).mono ?_
 rintro e w2 ⟨rfl, hb2⟩
 have ht2 := (hb2.block w.heap.size (Nat.lt_trans (Nat.lt_succ_self _) Hs1.out)).trans Hct.out
 have hr2 := (hb2.block (w.heap.size + 1) Hs1.out).trans Hcr.out
 have Hb2 := hQ (Hb1.out.trans (hb2.mono Hb1.out.size)); clear hb2 Hck Hs1 Hb1 Hct Hcr
 obtain ⟨q, hq⟩ : ∃ q, q = w.heap.size := ⟨_, rfl⟩
 rw [← hq] at ht2 hr2 ⊢
 have Hq := hQ hq; clear hq
 have Hr2 := hQ hr2; clear hr2
 have Ht2 := hQ ht2; clear ht2
 have k := (cRw Ht2.out 0).trans rfl
 go_wp2_with fail
 refine (Hpath.out _ Hb2.out).mono ?_
 rintro e w3 ⟨ha3, hc3, rfl, hown3, hg3, hb3⟩
 have Hr3 := hQ ((hb3.block (q + 1) (Array.getElem?_eq_some_iff.1 Hr2.out).1).trans Hr2.out)
 have Ht3 := hQ ((hb3.block q (Array.getElem?_eq_some_iff.1 Ht2.out).1).trans Ht2.out)
 have Hb3 := hQ (Hb2.out.trans (hb3.mono Hb2.out.size)); clear hb3 Hr2 Ht2 k hg3
 have Hown3 := hQ hown3; clear hown3
 have HN3 := hQ (HN.out.below Hb3.out)
 clear HN Hpath
 have kt : w3.cell? ⟨q, 0, none⟩ = some (.slice a T.length c) := (cRw Ht3.out 0).trans rfl
 have hql : q < w3.heap.size := (Array.getElem?_eq_some_iff.1 Ht3.out).1
 have Hpa := hQ (show pl.length = 0 → pubs.length = 0 by have := Hpl.out; omega)
 go_upto_region 6 with fail
 go_cut [12, 56] (fun v12 v56 wx => v12 = .slice ha3 pl.length hc3 ∧ v56 = .bool false ∧ wx = w3)
 case first =>
  by_cases hz : pl.length = 0
  · have hpz : pubs.length = 0 := Hpa.out hz
    have hpz2 : (pubs.length : Int) = 0 := by omega
    have hzI : (pl.length : Int) = 0 := by omega
    have hp1 : ((pubs.length : Int) != pl.length) = false := by rw [hpz2, hzI]; rfl
    go_wp2_with fail
    go_meet
    exact ⟨rfl, rfl, rfl⟩
  · have hm := mmin_any w.heap.size pubs (by have := Hpl.out; have := Hpl3.out; omega) (by have := Hpl.out; omega) Hpp.out pa pc w3 HN3.out
    have Hm := hQ hm
    have hp0 : (0 : Int) < pubs.length := by have := Hpl.out; omega
    have hp00 : 0 < pubs.length := by have := Hpl.out; omega
    have hp1 : ((pubs.length : Int) != pl.length) = false := by rw [hpuI]; simp
    clear hm
    go_wp2_with fail
    refine Hm.out.mono ?_
    rintro e wx ⟨x, rfl, hx, hwx⟩
    subst wx
    have hx1 : ¬ x < 1 := by omega
    go_wp2_with fail
    go_meet
    exact ⟨rfl, by simp; omega, rfl⟩
 case rest =>
  obtain ⟨rfl, rfl, hwc⟩ := hcut
  subst wc
  go_upto_region 8 with fail
  go_cut [14] (fun v wx => OutC w3 T.length (nodeD T) v wx)
  case first =>
   go_region_with (first | (go_at_call 206; refine (Hlv.out _).mono ?_; rintro e w4 ⟨rfl, hb4⟩; (try (have Bz := BoxZ.mk' hb4)); (try (have Bz := BoxZ.mkd hb4)); have hB4 : Below w3.heap.size w3 w4 := (by first | exact ⟨hb4.os, hb4.tape, hb4.output, hb4.size, hb4.block⟩ | exact ((Below.refl _ w3).alloc (Nat.le_refl _) _).trans ((show Below (w3.alloc _).heap.size (w3.alloc _) w4 from ⟨hb4.os, hb4.tape, hb4.output, hb4.size, hb4.block⟩).mono (by simp))); have k4 := (hB4.cell (p := ⟨q, 0, none⟩) hql).trans kt; have hql4 := Nat.lt_of_lt_of_le hql hB4.size; (try (have Hq4 := hQ (show w3.heap.size < w4.heap.size by have h7 : (w3.alloc (.cells #[.slice none 0 0] 44)).heap.size ≤ w4.heap.size := hb4.size; simp at h7; omega))); have Hb4 := hQ hB4; clear hB4 hb4) | (go_at_call 205; have hW4 := Hb3.out.trans (Hb4.out.mono Hb3.out.size); refine (Htwin.out _ (by first | exact hW4 | exact ⟨hW4.os, hW4.tape, hW4.output, hW4.size, hW4.block⟩ | exact hW4.alloc hW4.size _ | exact (have h := hW4.alloc hW4.size (.cells #[.slice none 0 0] 44); ⟨h.os, h.tape, h.output, h.size, h.block⟩))).mono ?_; intro e w5 h5; obtain ⟨g5, cap5, U5, rfl, hT5, hb5⟩ := h5; (try (have Bz5 := BoxZ.mk' hb5)); (try (have Bz5 := BoxZ.mkd hb5)); (try (have Bz5 := Bz.kept hb5; clear Bz)); (try (have kz := Bz5.cell; have Fz5 := Bz5.free; (try dsimp only [World.drew, World.drewN] at kz Fz5); have HBz := hQ Bz5; clear Bz5)); have HT5 := hQ hT5; have hB5 : Below w3.heap.size w3 w5 := (by have hX4 := Hb4.out; first | exact hX4.trans ((show Below w4.heap.size w4 w5 from ⟨hb5.os, hb5.tape, hb5.output, hb5.size, hb5.block⟩).mono hX4.size) | exact (hX4.alloc hX4.size (.cells #[.slice none 0 0] 44)).trans ((show Below (w4.alloc _).heap.size (w4.alloc _) w5 from ⟨hb5.os, hb5.tape, hb5.output, hb5.size, hb5.block⟩).mono (by have := hX4.size; simp; omega))); have HB5 := hQ hB5; have Hs4 := hQ Hb4.out.size; clear hT5 hb5 hW4 hB5))
   all_goals (go_wp2_with fail; go_meet)
   all_goals first
    | exact outc_b HT5.out (by have := Hs4.out; first | exact this | (show _ ≤ (World.alloc _ _).heap.size; simp; omega)) HB5.out
    | exact outc_a HBz.out HT5.out (by first | exact Hq4.out | (show _ < (World.alloc _ _).heap.size; simp; done)) (Nat.le_refl _) HB5.out
    | exact outc_a HBz.out HT5.out (by show _ < (World.alloc _ _).heap.size; simp) Hs4.out HB5.out
  case rest =>
   obtain ⟨bx, g, cap, U, rfl, hbx, hTO, hbq, hbg, hbc⟩ := hcut
   have hgl := hTO.lt
   have hgf := hTO.far
   have kb : wc.cell? ⟨bx, 0, none⟩ = some (.slice (some ⟨g, 0, none⟩) T.length cap) := (cRw hbx 0).trans rfl
   have kt : wc.cell? ⟨q, 0, none⟩ = some (.slice a T.length c) := (hbc.cell (p := ⟨q, 0, none⟩) hql).trans kt
   obtain ⟨⟨v0, k0⟩, _, ⟨v2, k2⟩, _, hfr⟩ := hTO.cells Hlx.out
   have f0 := hfr ((2 * leaf).toNat * 4)
   have f2 := hfr ((2 * leaf).toNat * 4 + 2)
   have h6 := (hTO.ep Hlx.out ep).pub Hlx.out pub
   rw [uSm] at h6
   have h6 : TreeO w3.heap.size ((wc.setCell ⟨g, (2 * leaf).toNat * 4 + 2, none⟩ (.int .i64 ep)).setCell ⟨g, (2 * leaf).toNat * 4, none⟩ (.int .i64 pub)) g T.length cap (leafF T (2 * leaf).toNat ep pub) U := h6
   have hT6 : Turned (fun k => k = g) wc ((wc.setCell ⟨g, (2 * leaf).toNat * 4 + 2, none⟩ (.int .i64 ep)).setCell ⟨g, (2 * leaf).toNat * 4, none⟩ (.int .i64 pub)) := ((Turned.refl (fun k => k = g) wc).setCell (fun _ => rfl) _).setCell (fun _ => rfl) _
   have H6 := hQ (And.intro h6 hT6)
   have hbxl : bx < wc.heap.size := (Array.getElem?_eq_some_iff.1 hbx).1
   have Hbx := hQ hbx
   have hqc : q < wc.heap.size := Nat.lt_of_lt_of_le hql hbc.size
   have hqg : q ≠ g := by omega
   have Hx := hQ (And.intro hgl (And.intro hgf (And.intro hbxl (And.intro hqc (And.intro hqg (And.intro hbg (And.intro hbc hbq)))))))
   clear hTO h6 hT6 hbx hgl hgf hbxl hqc hbc hbq hfr Htwin
   go_wp2_with fail
   refine (Hlv.out _).mono ?_
   rintro e w7 ⟨rfl, hb7⟩
   have hT7 : Turned (fun k => k = g) wc w7 := H6.out.2.trans (Turned.new (fun _ => False) hb7) (fun _ _ h => h.elim)
   have H7 := hQ (And.intro (H6.out.1.new hb7) hT7)
   have hW7 : Below w.heap.size w w7 := by
    have h := hT7.below (B := w3.heap.size) Hx.out.2.2.2.2.2.2.1.size (fun k hk => by rw [hk]; exact Hx.out.2.1)
    exact Hb3.out.trans ((Hx.out.2.2.2.2.2.2.1.trans h).mono Hb3.out.size)
   have HW7 := hQ hW7
   clear hb7 H6 kt k0 k2 f0 f2 hT7 hW7 kb
   go_wp2_with fail
   refine (Hdir.out _ HW7.out).mono ?_
   rintro e w8 ⟨da, dc, rfl, hb8, hdc⟩
   have hT8 : Turned (fun k => k = g) wc w8 := H7.out.2.trans (Turned.new (fun _ => False) hb8) (fun _ _ h => h.elim)
   have H8 := hQ (And.intro (H7.out.1.new hb8) hT8)
   have hdc8 : dl ≠ [] → ∃ gd, da = some ⟨gd, 1, none⟩ ∧ gd ≠ g ∧ gd < w8.heap.size ∧ ∀ i, i < dl.length → w8.cell? ⟨gd, 1 + i, none⟩ = some (.int .i64 (dl.getD i 0 : Nat)) := fun h => by
    obtain ⟨gd, cs, e, hgd, hr, hc⟩ := hdc h
    have := H7.out.2.size
    have := Hx.out.1
    exact ⟨gd, e, by omega, (Array.getElem?_eq_some_iff.1 hr).1, hc⟩
   have Hdc := hQ hdc8
   have HW8 := hQ (HW7.out.trans (hb8.mono HW7.out.size))
   clear hb8 hT8 hdc hdc8 H7 HW7
   go_wp2_with fail
   go_loopw [81] (fun i wr => ZeRel w3.heap.size g T.length cap (leafF T (2 * leaf).toNat ep pub) dl w8 i wr) (fun i _ => dl.length - (intOf i).toNat)
   case atStart => exact ⟨0, U, Nat.zero_le _, rfl, H8.out.1, Turned.refl _ _⟩
   case round =>
    obtain ⟨k, U', hk, rfl, hO, hTu⟩ := hrel
    have kb : wr.cell? ⟨bx, 0, none⟩ = some (.slice (some ⟨g, 0, none⟩) T.length cap) := (hTu.cell (p := ⟨bx, 0, none⟩) (Nat.lt_of_lt_of_le Hx.out.2.2.1 H8.out.2.size) Hx.out.2.2.2.2.2.1).trans ((H8.out.2.cell (p := ⟨bx, 0, none⟩) Hx.out.2.2.1 Hx.out.2.2.2.2.2.1).trans ((cRw Hbx.out 0).trans rfl))
    by_cases hkl : k < dl.length
    · obtain ⟨gd, rfl, hgd, hgdl, hdcc⟩ := Hdc.out (by intro h; rw [h] at hkl; simp at hkl)
      have cd := (hTu.cell (p := ⟨gd, 1 + k, none⟩) hgdl hgd).trans (hdcc k hkl)
      have hmem : dl.getD k 0 ∈ dl := by rw [List.getD_eq_getElem?_getD, List.getElem?_eq_getElem hkl]; exact List.getElem_mem _
      have hy := Hdlt.out _ hmem
      have htk : dl.take (k + 1) = dl.take k ++ [dl.getD k 0] := by rw [List.take_add_one, List.getD_eq_getElem?_getD, List.getElem?_eq_getElem hkl]; rfl
      have Htk := hQ htk
      clear htk hmem hdcc
      generalize dl.getD k 0 = y at cd hy Htk
      obtain ⟨⟨v0, k0⟩, ⟨v1, k1⟩, ⟨v2, k2⟩, ⟨v3, k3⟩, hfr⟩ := hO.cells hy
      have f0 := hfr (y * 4)
      have f1 := hfr (y * 4 + 1)
      have f2 := hfr (y * 4 + 2)
      have f3 := hfr (y * 4 + 3)
      have hkI : (k : Int) < dl.length := by omega
      have hyI : (y : Int) < T.length := by omega
      have HO := hQ (And.intro (hO.put hy 0) (hTu.trans (set4_turned wr g (y * 4) 0) (fun _ _ h => h)))
      clear hfr hO hTu hgdl hy
      go_wp2
      exact ⟨⟨k + 1, _, by omega, by go_num, by rw [Htk.out, zeroF_snoc]; exact HO.out.1, HO.out.2⟩, by simp [intOf]; omega⟩
    · obtain rfl : k = dl.length := by omega
      rw [List.take_length] at hO
      have HO := hQ hO
      have HTu := hQ hTu
      have hkI : ¬ (dl.length : Int) < dl.length := by omega
      clear hO hTu kb
      obtain ⟨w9, hw9⟩ : ∃ w9, w9 = wr := ⟨wr, rfl⟩
      subst hw9
      have hold : ∀ (p : Addr), p.block < w3.heap.size → ∀ W, Turned (fun k => k = g) w9 W → W.cell? p = w3.cell? p := fun p hp W hW => by
       have hT : Turned (fun k => k = g) wc W := (H8.out.2.trans HTu.out (fun _ _ h => h)).trans hW (fun _ _ h => h)
       exact (hT.cell (p := p) (Nat.lt_of_lt_of_le hp Hx.out.2.2.2.2.2.2.1.size) (by have := Hx.out.2.1; omega)).trans (Hx.out.2.2.2.2.2.2.1.cell hp)
      have hkb : ∀ W, Turned (fun k => k = g) w9 W → W.cell? ⟨bx, 0, none⟩ = some (.slice (some ⟨g, 0, none⟩) T.length cap) := fun W hW => by
       have hT : Turned (fun k => k = g) wc W := (H8.out.2.trans HTu.out (fun _ _ h => h)).trans hW (fun _ _ h => h)
       exact (hT.cell (p := ⟨bx, 0, none⟩) Hx.out.2.2.1 Hx.out.2.2.2.2.2.1).trans ((cRw Hbx.out 0).trans rfl)
      have Hold := hQ hold
      have Hkb := hQ hkb
      clear hold hkb
      go_wp2_with fail
      go_loopw [93] (fun i wr => PuRel w3.heap.size g T.length cap (zeroF (leafF T (2 * leaf).toNat ep pub) dl) pl pubs w9 i wr) (fun i _ => pl.length - (intOf i).toNat)
      case atStart => exact ⟨0, U', Nat.zero_le _, rfl, HO.out, Turned.refl _ _⟩
      case round =>
       obtain ⟨k, U2, hk, rfl, hO, hTu⟩ := hrel
       have kb := Hkb.out wr hTu
       by_cases hkl : k < pl.length
       · obtain ⟨b1, o1, e1, c1⟩ := ownI_at Hown3.out k (by rw [nIl]; exact hkl)
         have hb1l := World.block_lt_of_cell? w3 _ c1
         have d1 := (Hold.out ⟨b1, o1 + k, none⟩ hb1l wr hTu).trans c1
         have hkp : k < pubs.length := by have := Hpl.out; omega
         obtain ⟨b2, o2, e3, hb2l, c2⟩ := HN3.out k hkp
         have d2 := (Hold.out ⟨b2, o2 + k, none⟩ (Nat.lt_of_lt_of_le hb2l Hb3.out.size) wr hTu).trans c2
         have hy := Hpsub.out _ (List.getElem_mem hkl)
         have hpal := Hpal.out k hkl (pubs[k])
         have hzt := zip_take Hpl.out hkl
         rw [natI_get, List.getD_eq_getElem?_getD, List.getElem?_eq_getElem hkl] at d1
         rw [List.getD_eq_getElem?_getD, List.getElem?_eq_getElem hkp] at d2
         simp only [Option.getD_some] at d1 d2
         generalize pl[k] = y at d1 hy hpal hzt
         generalize pubs[k] = x at d2 hpal hzt
         obtain ⟨⟨v0, k0⟩, _, _, _, hfr⟩ := hO.cells hy
         have f0 := hfr (y * 4)
         have hkI : (k : Int) < pl.length := by omega
         have hyI : (y : Int) < T.length := by omega
         have h9 := hO.pub hy x
         have hsn := pubF_snoc (zeroF (leafF T (2 * leaf).toNat ep pub) dl) ((pl.take k).zip (pubs.take k)) (y, x)
         rw [← hzt] at hsn
         simp only at hsn
         rw [hpal, ← hsn] at h9
         have HO9 := hQ (And.intro h9 (hTu.setCell (p := ⟨g, y * 4, none⟩) (fun _ => rfl) (.int .i64 x)))
         subst e1
         subst e3
         clear hfr hO hTu hy c1 c2 hb1l hb2l hpal hzt h9 hkp hsn
         go_wp2_with fail
         go_region
         all_goals
          go_wp2
          exact ⟨⟨k + 1, U2, by omega, by go_num, HO9.out.1.new ⟨rfl, rfl, rfl, Nat.le_refl _, fun _ _ => rfl⟩, HO9.out.2.drew⟩, by simp [intOf]; omega⟩
       · obtain rfl : k = pl.length := by omega
         rw [List.take_length, show pubs.take pl.length = pubs by rw [← Hpl.out, List.take_length], ← Hset.out] at hO
         have hkI : ¬ (pl.length : Int) < pl.length := by omega
         have hq1l : q + 1 < w3.heap.size := (Array.getElem?_eq_some_iff.1 Hr3.out).1
         have hTall : Turned (fun k => k = g) wc wr := (H8.out.2.trans HTu.out (fun _ _ h => h)).trans hTu (fun _ _ h => h)
         have hrr : wr.heap[q + 1]? = some (.cells #[.slice none 0 0] 44 (0, 0)) := (hTall.block (q + 1) (Nat.lt_of_lt_of_le hq1l Hx.out.2.2.2.2.2.2.1.size) (by have := Hx.out.2.1; omega)).trans ((Hx.out.2.2.2.2.2.2.1.block (q + 1) hq1l).trans Hr3.out)
         have kr : wr.cell? ⟨q + 1, 0, none⟩ = some (.slice none 0 0) := (cRw hrr 0).trans rfl
         have fr := fRw hrr 0
         have hT2 : Turned (fun k => k = q + 1) wr (wr.setCell ⟨q + 1, 0, none⟩ (.slice (some ⟨g, 0, none⟩) T.length cap)) := (Turned.refl (fun k => k = q + 1) wr).setCell (fun _ => rfl) _
         have hqw := Hq.out
         have hgf := Hx.out.2.1
         have hb3s := Hb3.out.size
         have hfin := (hO.kept hT2 (by omega) (fun i hi b hb e => by have := ((hO.um i hi).2 b hb).1; omega)).base hb3s
         have hbw : Below w.heap.size w wr := Hb3.out.trans ((Hx.out.2.2.2.2.2.2.1.trans (hTall.below (B := w3.heap.size) Hx.out.2.2.2.2.2.2.1.size (fun k hk => by rw [hk]; exact hgf))).mono hb3s)
         have hbw2 := hbw.trans (hT2.below (B := w.heap.size) hbw.size (fun k e => by omega))
         have Hrr := hQ hrr
         have HF := hQ (And.intro hfin hbw2)
         clear hO hTu hq1l hTall hrr hT2 hqw hgf hb3s hfin hbw hbw2
         go_wp2
         refine bodyPost_ret_by (set_results _ _ (q + 1) (.slice (some ⟨g, 0, none⟩) T.length cap) 0 rfl rfl (by exact rSc Hrr.out 0 _)) rfl ?_
         rw [HP.out]
         exact ⟨g, cap, U2, rfl, HF.out.1, HF.out.2⟩
end Go.Proofs.YtedpljclnpiggaaGreatDoor
