/- The document's Targets, where a leaf may be asked about: the walk. -/
import Derived.Test.YtedpljclnpiggaaGreatDoorV22
import Derived.Test.YtedpljclnpiggaaGreatDoorV37
import Derived.Test.YtedpljclnpiggaaGreatDoorV31
set_option linter.unusedVariables false
set_option linter.unusedSimpArgs false
set_option maxRecDepth 100000
set_option maxHeartbeats 12800000
namespace Go.Proofs.YtedpljclnpiggaaGreatDoor
section
open Go Go.RowKit
def RTwRel (T : List NodeD) (W0 : World) (v i : Value) (wr : World) : Prop :=
 ∃ (k : Nat) (U : Nat → Value), k ≤ T.length ∧ i = .int .i64 k ∧ TwD W0.heap.size (nodeD T) k v U wr ∧ Below W0.heap.size W0 wr
theorem vals_new (w : World) (d : NodeD) (v : Value) (t : TypeId) : ∀ j u, (d.vals v)[j]? = some u → (w.alloc (.cells #[.int .i64 d.pub, .int .i64 d.mem, .int .i64 d.ep, v] t)).cell? ((⟨w.heap.size, 0, none⟩ : Addr).add j) = some u := by
 intro j u hj
 rw [add_plain', Nat.zero_add, cRw (rAl _ _ _)]
 rw [show (#[Value.int .i64 d.pub, .int .i64 d.mem, .int .i64 d.ep, v] : Array Value) = (d.vals v).toArray from rfl, List.getElem?_toArray]
 exact hj
theorem mrtwin_any (B : Nat) (T : List NodeD) (hul : ∀ x, x < T.length → (nodeD T x).um.length ≤ 8) (h15 : T.length ≤ 15) (h0 : 0 < T.length) (a : Option Addr) (c : Nat) (w : World) (hB : B ≤ w.heap.size) (hT : TreeAt B w a T) :
    Calls Tryz.prog 211 #[.agg #[.slice a T.length c]] w fun e w' => ∃ g cap U, e = .returned (.agg #[.slice (some ⟨g, 0, none⟩) T.length cap]) ∧ TreeO w.heap.size w' g T.length cap (nodeD T) U ∧ Below w.heap.size w w' := by
 obtain ⟨i0, hi0, hz0, hz1, hz2⟩ := info_parts mInfoNode
 obtain ⟨W0, hW⟩ : ∃ W0, W0 = (w.alloc (.cells #[.slice a T.length c] 44)).alloc (.cells #[.slice none 0 0] 44) := ⟨_, rfl⟩
 have hb1 : Below w.heap.size w W0 := by rw [hW]; exact ((Below.refl w.heap.size w).alloc (Nat.le_refl _) _).alloc (by simp) _
 have hrow : W0.heap[w.heap.size]? = some (.cells #[.slice a T.length c] 44 (0, 0)) := by rw [hW]; exact (heap_alloc_old _ _ (by simp)).trans (rAl _ _ _)
 have hres : W0.heap[w.heap.size + 1]? = some (.cells #[.slice none 0 0] 44 (0, 0)) := by
  rw [hW]
  have := rAl (w := w.alloc (.cells #[.slice a T.length c] 44)) #[.slice none 0 0] 44 (0, 0)
  simpa using this
 have hA : RRA B w.heap.size a c T W0 := ⟨hT.below (hb1.mono hB), hrow, Nat.le_trans hB hb1.size⟩
 have HA := hQ hA
 have Hb1 := hQ hb1
 have Hul := hQ hul
 have Hres := hQ hres
 have hTI : (T.length : Int) ≤ 15 := by omega
 have H0 := hQ h0
 have hW2 := hW
 clear hb1 hrow hA hul hT hres hW h0
 go_enter Tryz.func211, Tryz.ntmps211
 go_wp2_with fail
 rw [← hW2]
 clear hW2
 go_loopw [3, 4] (fun v i wr => RTwRel T W0 v i wr) (fun _ i _ => T.length - (intOf i).toNat)
 case atStart => exact ⟨0, fun _ => undef, Nat.zero_le _, rfl, TwD.nil _ _ _ _, Below.refl _ _⟩
 case round =>
  obtain ⟨k, U, hk, rfl, hin, hbr⟩ := hrel
  obtain ⟨oa, oc, rfl⟩ := hin.len
  have Hin := hQ hin
  have Hbr := hQ hbr
  have HAr := hQ (HA.out.low hbr HA.out.lt HA.out.size)
  have kb := (cRw HAr.out.box 0).trans rfl
  by_cases hkl : k < T.length
  · obtain ⟨b, o, rfl, hnd⟩ := HAr.out.tr k hkl
    obtain ⟨ua, uc, k3, hN⟩ := hnd.c3
    have k0 := hnd.c0
    have k1 := hnd.c1
    have k2 := hnd.c2
    have hum := Hul.out k hkl
    have hstep := fun (w3 w5 : World) (val : Value) (o : Obj) (g c : Nat) => TwD.more (w3 := w3) (w5 := w5) (val := val) (o := o) (g := g) (c := c) hin hbr.size
    have hkI : (k : Int) < T.length := by omega
    generalize nodeD T k = d at k0 k1 k2 k3 hN hum hstep
    obtain ⟨dp, dm, de, du⟩ := d
    simp only at k0 k1 k2 k3 hN hum hstep
    have HN := hQ hN
    have Hstep := hQ hstep
    have humI : (du.length : Int) ≤ 8 := by omega
    have hbz : Below wr.heap.size wr ((wr.alloc (.cells #[.int .i64 dp, .int .i64 dm, .int .i64 de, .slice ua du.length uc] 125)).alloc (.cells #[] 3)) := ((Below.refl wr.heap.size wr).alloc (Nat.le_refl _) _).alloc (by simp) _
    have hz : OwnI (.slice (some ⟨wr.heap.size + 1, 0, none⟩) 0 0) [] ((wr.alloc (.cells #[.int .i64 dp, .int .i64 dm, .int .i64 de, .slice ua du.length uc] 125)).alloc (.cells #[] 3)) := by
     have := ownI_zero (wr.alloc (.cells #[.int .i64 dp, .int .i64 dm, .int .i64 de, .slice ua du.length uc] 125))
     simpa using this
    have hnb : ((wr.alloc (.cells #[.int .i64 dp, .int .i64 dm, .int .i64 de, .slice ua du.length uc] 125)).alloc (.cells #[] 3)).heap[wr.heap.size]? = some (.cells #[.int .i64 dp, .int .i64 dm, .int .i64 de, .slice ua du.length uc] 125 (0, 0)) := (heap_alloc_old _ _ (by simp)).trans (rAl _ _ _)
    have hN2 := hN.below (hbz.mono HAr.out.size)
    have Hz := hQ hz
    have HN2 := hQ hN2
    have Hnb := hQ hnb
    have Hbz := hQ hbz
    have hws : wr.heap.size < ((wr.alloc (.cells #[.int .i64 dp, .int .i64 dm, .int .i64 de, .slice ua du.length uc] 125)).alloc (.cells #[] 3)).heap.size := by simp; omega
    have Hws := hQ hws
    have hsz2 : ((wr.alloc (.cells #[.int .i64 dp, .int .i64 dm, .int .i64 de, .slice ua du.length uc] 125)).alloc (.cells #[] 3)).heap.size = wr.heap.size + 1 + 1 := by simp
    have Hsz2 := hQ hsz2
    clear hnd hN hum hstep hin hbr hbz hz hnb hN2 hws hsz2
    have hOB := fun (W : World) (h : Below wr.heap.size wr W) => ownsRow_below (w' := W) Hin.out.own h
    have HOB := hQ hOB
    clear hOB
    go_wp2_with (first
     | (at_builtin; refine wpList_append_nums rfl (.tmp 18) (.tmp 20) rfl rfl Hz.out HN2.out rfl rfl (by simp; omega) ?_; intro v' w5 hown hgrow hat; rw [List.nil_append] at hown; obtain ⟨la, lc, rfl, _⟩ := ownI_len hown; have hr5 := (hgrow.block wr.heap.size Hws.out (by simp [Value.ownBlock])).trans Hnb.out; have q0 := (cRw hr5 0).trans rfl; have q1 := (cRw hr5 1).trans rfl; have q2 := (cRw hr5 2).trans rfl; have q3 := (cRw hr5 3).trans rfl; have f3 := fRw hr5 3; have hb3 : Below wr.heap.size wr (w5.setCell ⟨wr.heap.size, 3, none⟩ (.slice la du.length lc)) := (Hbz.out.grown hgrow (by rw [Hsz2.out]; omega) (fun j hj => by simp [Value.ownBlock] at hj; omega)).setCell (Nat.le_refl _) _; have hvg : ∀ g, (Value.slice la du.length lc).ownBlock = some g → wr.heap.size < g := (fun g hg => hat.elim (fun e => by (rw [hg] at e; simp [Value.ownBlock] at e; omega)) (fun e => by (rw [hg, Hsz2.out] at e; simp at e; omega))); have hval : OwnI (.slice la du.length lc) du (w5.setCell ⟨wr.heap.size, 3, none⟩ (.slice la du.length lc)) := oIk hown (Turned.setCell (F := fun x => x = wr.heap.size) (Turned.refl _ _) (p := ⟨wr.heap.size, 3, none⟩) (fun _ => rfl) _) (fun x hx e => by have := hvg x hx; omega); have HF := hQ (And.intro hb3 (And.intro hval (fun g hg => Nat.le_of_lt (hvg g hg)))); have HO := hQ (HOB.out _ hb3); clear hown hgrow hat hr5 hb3 hval hvg)
     | (at_builtin; refine wpList_append_lies _ rfl (.tmp 23) (.tmp 25) 42 rfl 0 125 i0 (.agg #[.int .i64 0, .int .i64 0, .int .i64 0, .slice none 0 0]) 4 48 Tryz.underlying42 hi0 hz0 hz1 hz2 rfl (by decide) (.slice oa k oc) k _ rfl (World.ownsRow.alloc HO.out _) ⟨w5.heap.size, 0, none⟩ 1 1 ((⟨dp, dm, de, du⟩ : NodeD).vals (.slice la du.length lc)) rfl rfl (by (have h := vals_new (w5.setCell ⟨wr.heap.size, 3, none⟩ (.slice la du.length lc)) ⟨dp, dm, de, du⟩ (.slice la du.length lc) 125; simpa using h)) (by intro u hu; simp [NodeD.vals] at hu; rcases hu with rfl | rfl | rfl | rfl <;> rfl) (by omega) (by unfold maxLen; omega) (by omega) (Nat.zero_le _) (w5.heap.size + 1) (by simp) ?_; intro g2 c2 w6 hown2 hgrow2 hat2 hlt2; have HM := hQ (Hstep.out _ _ _ _ _ _ HF.out.1 HF.out.2.1 HF.out.2.2 hown2 hgrow2 (by simpa using hat2)); clear hown2 hgrow2 hat2 hlt2))
    exact ⟨⟨k + 1, _, by omega, by go_num, HM.out.1, Hbr.out.trans HM.out.2⟩, by simp [intOf]; omega⟩
  · obtain rfl : k = T.length := by omega
    have hkI : ¬ (T.length : Int) < T.length := by omega
    obtain ⟨g, cap, e, hTO⟩ := hin.tree H0.out
    obtain ⟨rfl, rfl⟩ : oa = some ⟨g, 0, none⟩ ∧ oc = cap := by simpa using e
    have hql : w.heap.size + 1 < W0.heap.size := (Array.getElem?_eq_some_iff.1 Hres.out).1
    have hrr := (hbr.block (w.heap.size + 1) hql).trans Hres.out
    have kr := (cRw hrr 0).trans rfl
    have fr := fRw hrr 0
    have hT2 : Turned (fun k => k = w.heap.size + 1) wr (wr.setCell ⟨w.heap.size + 1, 0, none⟩ (.slice (some ⟨g, 0, none⟩) T.length oc)) := (Turned.refl (fun k => k = w.heap.size + 1) wr).setCell (fun _ => rfl) _
    have hfin := (hTO.kept hT2 (by have := hTO.far; omega) (fun i hi b hb e => by have := ((hTO.um i hi).2 b hb).1; omega)).base (show w.heap.size ≤ W0.heap.size from Hb1.out.size)
    have hbw := (Hb1.out.trans (hbr.mono Hb1.out.size)).trans (hT2.below (B := w.heap.size) (Nat.le_trans Hb1.out.size hbr.size) (fun k e => by omega))
    have HF := hQ (And.intro hfin hbw)
    have Hrr := hQ hrr
    clear hin hbr e hTO hrr hT2 hfin hbw hql
    go_wp2
    refine bodyPost_ret_by (results_cell_row rfl _ _ (w.heap.size + 1) _ #[.slice (some ⟨g, 0, none⟩) T.length oc] (0, 0) _ rfl (by exact rSc Hrr.out 0 _) Tryz.underlying44 rfl (by kernel_rfl)) rfl ?_
    first
     | exact ⟨g, oc, U, rfl, HF.out.1, HF.out.2⟩
     | exact ⟨g, oc, rfl, ⟨U, HF.out.1⟩, HF.out.2⟩
     | exact ⟨g, oc, rfl, U, HF.out.1, HF.out.2⟩
end
section
open Go Go.RowKit
theorem rset_results (tmps : Array Value) (w : World) (r : Nat) (v : Value) (x : Int) (h4 : tmps.getD 10 undef = .pointer (some ⟨r, 0, none⟩)) (h5 : tmps.getD 11 undef = .int .i64 x)
    (hg : w.heap[r]? = some (.cells #[v] 44 (0, 0))) : (results Tryz.f63 tmps).run Tryz.prog w = .ok (.tuple #[.agg #[v], .int .i64 x]) w := by
 have hl := run_loadVar_row (P := Tryz.prog) w r 44 44 #[v] (0, 0) _ hg Tryz.underlying44 rfl (by kernel_rfl)
 have ha : (asAddr (.pointer (some ⟨r, 0, none⟩))).run Tryz.prog w = .ok ⟨r, 0, none⟩ w := by simp [asAddr]
 rw [results_cell_tmp (p := 10) (u := 11) (ty := 44) (by kernel_rfl), h4, h5, ha]
 simp [Result.andThen, hl]
def PbRel (n : Nat) (W : World) (i : Value) (wr : World) : Prop := ∃ k : Nat, k ≤ n ∧ i = .int .i64 k ∧ wr = W
theorem mrsetpath_any (B : Nat) (T : List NodeD) (hfit : FitT T) (hlen : T.length ≤ 262144) (a : Option Addr) (c : Nat) (leaf ep pub : Int) (ha : askD T leaf = 0) (hep : 0 ≤ ep) (hpub : 1 ≤ pub) (pubs : List Int) (hpl : pubs.length = (pthD T leaf.toNat).length) (hpp : ∀ i, i < pubs.length → 1 ≤ pubs.getD i 0) (pa : Option Addr) (pc : Nat) (w : World) (hB : B ≤ w.heap.size) (hT : TreeAt B w a T) (hN : NumsAt w.heap.size w pa pubs) :
    Calls Tryz.prog 63 #[.agg #[.slice a T.length c], .int .i64 leaf, .int .i64 ep, .int .i64 pub, .slice pa pubs.length pc] w (SetAns T leaf.toNat ep pub pubs w) := by
 obtain ⟨hok, hl0, hlt, hn, hTn, hpn⟩ := ask_zero ha
 have hpk := pth_ok ha
 obtain ⟨W0, hW⟩ : ∃ W0, W0 = (w.alloc (.cells #[.slice a T.length c] 44)).alloc (.cells #[.slice none 0 0] 44) := ⟨_, rfl⟩
 have hb1 : Below w.heap.size w W0 := by rw [hW]; exact ((Below.refl w.heap.size w).alloc (Nat.le_refl _) _).alloc (by simp) _
 have hrow : W0.heap[w.heap.size]? = some (.cells #[.slice a T.length c] 44 (0, 0)) := by rw [hW]; exact (heap_alloc_old _ _ (by simp)).trans (rAl _ _ _)
 have hres : W0.heap[w.heap.size + 1]? = some (.cells #[.slice none 0 0] 44 (0, 0)) := by
  rw [hW]
  have := rAl (w := w.alloc (.cells #[.slice a T.length c] 44)) #[.slice none 0 0] 44 (0, 0)
  simpa using this
 have hA : RRA B w.heap.size a c T W0 := ⟨hT.below (hb1.mono hB), hrow, Nat.le_trans hB hb1.size⟩
 have hfl : ∀ x, x < T.length → (nodeD T x).um.length ≤ 8 := fun x hx => (um_ok hok hx).2.1
 have hn18 : 1 ≤ lvD T.length ∧ lvD T.length ≤ 8 := by rcases hn with h | h | h | h <;> omega
 have hck := fun W (hW : RRA B w.heap.size a c T W) => archeck_any B T hfit hlen a c W hW.size hW.tr
 rw [errD_ok hok] at hck
 have hpath := fun W (hW : RRA B w.heap.size a c T W) => mrpath_any B T hfit hlen a c leaf W hW.size hW.tr
 unfold PathAns at hpath
 rw [ha, if_pos rfl] at hpath
 have hT15 : T.length ≤ 15 := by omega
 have htwin := fun W (hW : RRA B w.heap.size a c T W) => mrtwin_any B T hfl hT15 (by omega) a c W hW.size hW.tr
 have hdir := fun W => ardirect_any (2 * leaf.toNat) (lvD T.length) hn (by omega) W
 have e2 : ((2 * leaf.toNat : Nat) : Int) = 2 * leaf := by omega
 rw [e2] at hdir
 have hlv := arleaves_any a T.length c
 have hpe : ¬ ep < 0 := by omega
 have hpb : ¬ pub < 1 := by omega
 have hTI : (T.length : Int) ≤ 15 := by omega
 have hlfI : leaf ≤ 8 := by omega
 have h2lf : 0 ≤ 2 * leaf := by omega
 have hlfT : 2 * leaf < T.length := by omega
 have hlx : (2 * leaf).toNat < T.length := by omega
 have hgl : (2 * leaf).toNat = 2 * leaf.toNat := by omega
 have hset : setF T leaf.toNat ep pub pubs = pubF (zeroF (leafF T (2 * leaf).toNat ep pub) (drD (2 * leaf.toNat) (lvD T.length))) ((pthD T leaf.toNat).zip pubs) := by rw [hgl]; rfl
 have hpsub : ∀ x ∈ pthD T leaf.toNat, x < T.length := fun x hx => hpk.dlt x (hpk.sub x hx)
 have hdlt := hpk.dlt
 have hdl3 := hpk.len
 have hpl3 := hpk.plen
 have Hset := hQ hset
 obtain ⟨P, hP⟩ : ∃ P, P = SetAns T leaf.toNat ep pub pubs w := ⟨_, rfl⟩
 rw [← hP]
 have HP := hQ hP
 have Hck := hQ hck
 have Hpath := hQ hpath
 have Htwin := hQ htwin
 have Hdir := hQ hdir
 have Hlv := hQ hlv
 have Hb1 := hQ hb1
 have HA := hQ hA
 have Hres := hQ hres
 have HN := hQ hN
 have Hlx := hQ hlx
 have Hpp := hQ hpp
 have HT15 := hQ hT15
 obtain ⟨dl, hdl⟩ : ∃ dl, dl = drD (2 * leaf.toNat) (lvD T.length) := ⟨_, rfl⟩
 obtain ⟨pl, hplE⟩ : ∃ pl, pl = pthD T leaf.toNat := ⟨_, rfl⟩
 rw [← hdl] at Hdir Hset hdlt hdl3
 rw [← hplE] at Hpath Hset hpl hpsub hpl3
 have Hpsub := hQ hpsub
 have Hdlt := hQ hdlt
 have hdI : (dl.length : Int) ≤ 3 := by omega
 have hpI : (pl.length : Int) ≤ 3 := by omega
 have hpuI : (pubs.length : Int) = pl.length := by omega
 have Hpl := hQ hpl
 have Hpl3 := hQ hpl3
 generalize lvD T.length = nl at Hlv Hdir
 have hW2 := hW
 clear hset hP hck hpath htwin hdir hlv hb1 hrow hres hA hN hlx hpp hT15 hdl hplE hpsub hdlt hdl3 hpl3 hok hl0 hlt hn hTn hpn hpk hfl hn18 e2 hgl hep hpub hT ha hfit hlen hpl hW
 have hp1 : ((pubs.length : Int) != pl.length) = false := by rw [hpuI]; simp
 have hpuL : (pubs.length : Int) ≤ 3 := by omega
 clear hpuI
 go_enter Tryz.func63, Tryz.ntmps63
 go_wp2_with fail
 rw [← hW2]
 clear hW2
 refine (Hck.out _ HA.out).mono ?_
 rintro e w2 ⟨rfl, hb2⟩
 have hql0 := HA.out.lt
 have hq1l0 : w.heap.size + 1 < W0.heap.size := (Array.getElem?_eq_some_iff.1 Hres.out).1
 have Hr2 := hQ ((hb2.block (w.heap.size + 1) hq1l0).trans Hres.out)
 have HA2 := hQ (HA.out.new hb2)
 have Hb2 := hQ (Hb1.out.trans (hb2.mono Hb1.out.size)); clear hb2 Hck Hb1 Hres hql0 hq1l0 HA
 obtain ⟨q, hq⟩ : ∃ q, q = w.heap.size := ⟨_, rfl⟩
 rw [← hq] at HA2 Hr2 Hpath Htwin ⊢
 have Hq := hQ hq; clear hq
 have k := (cRw HA2.out.box 0).trans rfl
 go_wp2_with fail
 refine (Hpath.out _ HA2.out).mono ?_
 rintro e w3 ⟨ha3, hc3, rfl, hown3, hg3, hb3⟩
 have Hr3 := hQ ((hb3.block (q + 1) (Array.getElem?_eq_some_iff.1 Hr2.out).1).trans Hr2.out)
 have HA3 := hQ (HA2.out.new hb3)
 have Hb3 := hQ (Hb2.out.trans (hb3.mono Hb2.out.size)); clear hb3 Hr2 HA2 k hg3
 have Hown3 := hQ hown3; clear hown3
 have HN3 := hQ (HN.out.below Hb3.out)
 clear HN Hpath
 have kt : w3.cell? ⟨q, 0, none⟩ = some (.slice a T.length c) := (cRw HA3.out.box 0).trans rfl
 have hql : q < w3.heap.size := HA3.out.lt
 have Hql := hQ hql
 go_wp2_with fail
 go_loopw [14] (fun i wr => PbRel pubs.length w3 i wr) (fun i _ => pubs.length - (intOf i).toNat)
 case atStart => exact ⟨0, Nat.zero_le _, rfl, rfl⟩
 case round =>
  obtain ⟨k, hk, rfl, hwr⟩ := hrel
  subst wr
  by_cases hkl : k < pubs.length
  · obtain ⟨b1, o1, e1, _, c1⟩ := HN3.out k hkl
    subst e1
    have h1 := Hpp.out k hkl
    have hkI : (k : Int) < pubs.length := by omega
    generalize pubs.getD k 0 = x at c1 h1
    have hx1 : ¬ x < 1 := by omega
    go_wp2
    exact ⟨⟨k + 1, by omega, by go_num, rfl⟩, by simp [intOf]; omega⟩
  · obtain rfl : k = pubs.length := by omega
    have hkI : ¬ (pubs.length : Int) < pubs.length := by omega
    clear hkl hk
    go_upto_region 13 with fail
    go_cut [15] (fun v wx => OutC w3 T.length (nodeD T) v wx)
    case first =>
     go_wp2_with fail
     refine (Htwin.out _ HA3.out).mono ?_
     rintro e w5 ⟨g5, cap5, U5, rfl, hT5, hb5⟩
     have HT5 := hQ hT5
     have Hb5 := hQ hb5
     clear hT5 hb5
     go_wp2_with fail
     go_meet
     exact outc_b HT5.out (Nat.le_refl _) Hb5.out
    case rest =>
     obtain ⟨bx, g, cap, U, rfl, hbx, hTO, hbq, hbg, hbc⟩ := hcut
     have hgl := hTO.lt
     have hgf := hTO.far
     have kb : wc.cell? ⟨bx, 0, none⟩ = some (.slice (some ⟨g, 0, none⟩) T.length cap) := (cRw hbx 0).trans rfl
     have kt : wc.cell? ⟨q, 0, none⟩ = some (.slice a T.length c) := (hbc.cell (p := ⟨q, 0, none⟩) hql).trans kt
     obtain ⟨⟨v0, k0⟩, _, ⟨v2, k2⟩, _, hfr⟩ := hTO.cells Hlx.out
     have f0 := hfr ((2 * leaf).toNat * 4)
     have f2 := hfr ((2 * leaf).toNat * 4 + 2)
     have h6 := (hTO.ep Hlx.out ep).pub Hlx.out pub
     rw [uSm] at h6
     have h6 : TreeO w3.heap.size ((wc.setCell ⟨g, (2 * leaf).toNat * 4 + 2, none⟩ (.int .i64 ep)).setCell ⟨g, (2 * leaf).toNat * 4, none⟩ (.int .i64 pub)) g T.length cap (leafF T (2 * leaf).toNat ep pub) U := h6
     have hT6 : Turned (fun k => k = g) wc ((wc.setCell ⟨g, (2 * leaf).toNat * 4 + 2, none⟩ (.int .i64 ep)).setCell ⟨g, (2 * leaf).toNat * 4, none⟩ (.int .i64 pub)) := ((Turned.refl (fun k => k = g) wc).setCell (fun _ => rfl) _).setCell (fun _ => rfl) _
     have H6 := hQ (And.intro h6 hT6)
     have hbxl : bx < wc.heap.size := (Array.getElem?_eq_some_iff.1 hbx).1
     have Hbx := hQ hbx
     have hqc : q < wc.heap.size := Nat.lt_of_lt_of_le hql hbc.size
     have hqg : q ≠ g := by omega
     have Hx := hQ (And.intro hgl (And.intro hgf (And.intro hbxl (And.intro hqc (And.intro hqg (And.intro hbg (And.intro hbc hbq)))))))
     clear hTO h6 hT6 hbx hgl hgf hbxl hqc hbc hbq hfr Htwin
     go_wp2_with fail
     refine (Hlv.out _).mono ?_
     rintro e w7 ⟨rfl, hb7⟩
     have hT7 : Turned (fun k => k = g) wc w7 := H6.out.2.trans (Turned.new (fun _ => False) hb7) (fun _ _ h => h.elim)
     have H7 := hQ (And.intro (H6.out.1.new hb7) hT7)
     have hW7 : Below w.heap.size w w7 := by
      have h := hT7.below (B := w3.heap.size) Hx.out.2.2.2.2.2.2.1.size (fun k hk => by rw [hk]; exact Hx.out.2.1)
      exact Hb3.out.trans ((Hx.out.2.2.2.2.2.2.1.trans h).mono Hb3.out.size)
     have HW7 := hQ hW7
     clear hb7 H6 kt k0 k2 f0 f2 hT7 hW7 kb
     go_wp2_with fail
     refine (Hdir.out _).mono ?_
     rintro e w8 ⟨v8, rfl, hown8, hg8, hb8⟩
     have hT8 : Turned (fun k => k = g) wc w8 := H7.out.2.trans (Turned.new (fun _ => False) hb8) (fun _ _ h => h.elim)
     have H8 := hQ (And.intro (H7.out.1.new hb8) hT8)
     obtain ⟨da, dc, rfl, _⟩ := ownI_len hown8
     have hdc8 : ∀ i, i < dl.length → ∃ gd o, da = some ⟨gd, o, none⟩ ∧ gd ≠ g ∧ gd < w8.heap.size ∧ w8.cell? ⟨gd, o + i, none⟩ = some (.int .i64 (dl.getD i 0 : Nat)) := fun i hi => by
      obtain ⟨gd, o, e, hc⟩ := ownI_at hown8 i (by rw [nIl]; exact hi)
      rw [natI_get] at hc
      have h1 := ownI_at hown8 i (by rw [nIl]; exact hi)
      have hge : w7.heap.size ≤ gd := by
       rcases hown8.2 with ⟨e0, h0⟩ | ⟨g0, cap0, cur0, e0, _⟩
       · simp at e0
         rw [e0.1] at e; cases e
       · obtain ⟨rfl, _⟩ : da = some ⟨g0, 0, none⟩ ∧ _ := by simpa using e0
         obtain ⟨rfl, rfl⟩ : g0 = gd ∧ 0 = o := by simpa using e
         exact hg8 g0 rfl
      have := H7.out.2.size
      have := Hx.out.1
      exact ⟨gd, o, e, by omega, World.block_lt_of_cell? w8 _ hc, hc⟩
     have Hdc := hQ hdc8
     have HW8 := hQ (HW7.out.trans (hb8.mono HW7.out.size))
     clear hb8 hT8 hdc8 H7 HW7 hown8 hg8
     rw [nIl]
     go_wp2_with fail
     go_loopw [18] (fun i wr => ZeRel w3.heap.size g T.length cap (leafF T (2 * leaf).toNat ep pub) dl w8 i wr) (fun i _ => dl.length - (intOf i).toNat)
     case atStart => exact ⟨0, U, Nat.zero_le _, rfl, H8.out.1, Turned.refl _ _⟩
     case round =>
      obtain ⟨k, U', hk, rfl, hO, hTu⟩ := hrel
      have kb : wr.cell? ⟨bx, 0, none⟩ = some (.slice (some ⟨g, 0, none⟩) T.length cap) := (hTu.cell (p := ⟨bx, 0, none⟩) (Nat.lt_of_lt_of_le Hx.out.2.2.1 H8.out.2.size) Hx.out.2.2.2.2.2.1).trans ((H8.out.2.cell (p := ⟨bx, 0, none⟩) Hx.out.2.2.1 Hx.out.2.2.2.2.2.1).trans ((cRw Hbx.out 0).trans rfl))
      by_cases hkl : k < dl.length
      · obtain ⟨gd, od, e1, hgd, hgdl, hdcc⟩ := Hdc.out k hkl
        have cd := (hTu.cell (p := ⟨gd, od + k, none⟩) hgdl hgd).trans hdcc
        have hmem : dl.getD k 0 ∈ dl := by rw [List.getD_eq_getElem?_getD, List.getElem?_eq_getElem hkl]; exact List.getElem_mem _
        have hy := Hdlt.out _ hmem
        have htk : dl.take (k + 1) = dl.take k ++ [dl.getD k 0] := by rw [List.take_add_one, List.getD_eq_getElem?_getD, List.getElem?_eq_getElem hkl]; rfl
        have Htk := hQ htk
        clear htk hmem hdcc
        generalize dl.getD k 0 = y at cd hy Htk
        obtain ⟨⟨v0, k0⟩, ⟨v1, k1⟩, ⟨v2, k2⟩, ⟨v3, k3⟩, hfr⟩ := hO.cells hy
        have f0 := hfr (y * 4)
        have f1 := hfr (y * 4 + 1)
        have f2 := hfr (y * 4 + 2)
        have f3 := hfr (y * 4 + 3)
        have hkI : (k : Int) < dl.length := by omega
        have hyI : (y : Int) < T.length := by omega
        have HO := hQ (And.intro ((hO.new (w' := wr.drew) ⟨rfl, rfl, rfl, Nat.le_refl _, fun _ _ => rfl⟩).put hy 0) (hTu.drew.trans (set4_turned wr.drew g (y * 4) 0) (fun _ _ h => h)))
        subst e1
        clear hfr hO hTu hgdl hy hgd
        go_wp2_with fail
        go_region
        all_goals
         go_wp2
         exact ⟨⟨k + 1, _, by omega, by go_num, by rw [Htk.out, zeroF_snoc]; exact HO.out.1, HO.out.2⟩, by simp [intOf]; omega⟩
      · obtain rfl : k = dl.length := by omega
        rw [List.take_length] at hO
        have HO := hQ hO
        have HTu := hQ hTu
        have hkI : ¬ (dl.length : Int) < dl.length := by omega
        clear hO hTu kb
        obtain ⟨w9, hw9⟩ : ∃ w9, w9 = wr := ⟨wr, rfl⟩
        subst hw9
        have hold : ∀ (p : Addr), p.block < w3.heap.size → ∀ W, Turned (fun k => k = g) w9 W → W.cell? p = w3.cell? p := fun p hp W hW => by
         have hT : Turned (fun k => k = g) wc W := (H8.out.2.trans HTu.out (fun _ _ h => h)).trans hW (fun _ _ h => h)
         exact (hT.cell (p := p) (Nat.lt_of_lt_of_le hp Hx.out.2.2.2.2.2.2.1.size) (by have := Hx.out.2.1; omega)).trans (Hx.out.2.2.2.2.2.2.1.cell hp)
        have hkb : ∀ W, Turned (fun k => k = g) w9 W → W.cell? ⟨bx, 0, none⟩ = some (.slice (some ⟨g, 0, none⟩) T.length cap) := fun W hW => by
         have hT : Turned (fun k => k = g) wc W := (H8.out.2.trans HTu.out (fun _ _ h => h)).trans hW (fun _ _ h => h)
         exact (hT.cell (p := ⟨bx, 0, none⟩) Hx.out.2.2.1 Hx.out.2.2.2.2.2.1).trans ((cRw Hbx.out 0).trans rfl)
        have Hold := hQ hold
        have Hkb := hQ hkb
        clear hold hkb
        go_wp2_with fail
        go_loopw [19] (fun i wr => PuRel w3.heap.size g T.length cap (zeroF (leafF T (2 * leaf).toNat ep pub) dl) pl pubs w9 i wr) (fun i _ => pl.length - (intOf i).toNat)
        case atStart => exact ⟨0, U', Nat.zero_le _, rfl, HO.out, Turned.refl _ _⟩
        case round =>
         obtain ⟨k, U2, hk, rfl, hO, hTu⟩ := hrel
         have kb := Hkb.out wr hTu
         by_cases hkl : k < pl.length
         · obtain ⟨b1, o1, e1, c1⟩ := ownI_at Hown3.out k (by rw [nIl]; exact hkl)
           have hb1l := World.block_lt_of_cell? w3 _ c1
           have d1 := (Hold.out ⟨b1, o1 + k, none⟩ hb1l wr hTu).trans c1
           have hkp : k < pubs.length := by have := Hpl.out; omega
           obtain ⟨b2, o2, e3, hb2l, c2⟩ := HN3.out k hkp
           have d2 := (Hold.out ⟨b2, o2 + k, none⟩ (Nat.lt_of_lt_of_le hb2l Hb3.out.size) wr hTu).trans c2
           have hy := Hpsub.out _ (List.getElem_mem hkl)
           have hzt := zip_take Hpl.out hkl
           rw [natI_get, List.getD_eq_getElem?_getD, List.getElem?_eq_getElem hkl] at d1
           rw [List.getD_eq_getElem?_getD, List.getElem?_eq_getElem hkp] at d2
           simp only [Option.getD_some] at d1 d2
           generalize pl[k] = y at d1 hy hzt
           generalize pubs[k] = x at d2 hzt
           obtain ⟨⟨v0, k0⟩, ⟨v1, k1⟩, ⟨v2, k2⟩, ⟨v3, k3⟩, hfr⟩ := hO.cells hy
           have f0 := hfr (y * 4)
           have f1 := hfr (y * 4 + 1)
           have f2 := hfr (y * 4 + 2)
           have f3 := hfr (y * 4 + 3)
           have hkI : (k : Int) < pl.length := by omega
           have hyI : (y : Int) < T.length := by omega
           have h9 := (hO.new (w' := wr.drew) ⟨rfl, rfl, rfl, Nat.le_refl _, fun _ _ => rfl⟩).put hy x
           have hsn := pubF_snoc (zeroF (leafF T (2 * leaf).toNat ep pub) dl) ((pl.take k).zip (pubs.take k)) (y, x)
           rw [← hzt] at hsn
           simp only at hsn
           rw [← hsn] at h9
           have HO9 := hQ (And.intro h9 (hTu.drew.trans (set4_turned wr.drew g (y * 4) x) (fun _ _ h => h)))
           subst e1
           subst e3
           have hkpI : (k : Int) < pubs.length := by omega
           clear hfr hO hTu hy c1 c2 hb1l hb2l hzt h9 hsn
           go_wp2_with fail
           go_region
           all_goals
            go_wp2
            exact ⟨⟨k + 1, _, by omega, by go_num, HO9.out.1, HO9.out.2⟩, by simp [intOf]; omega⟩
         · obtain rfl : k = pl.length := by omega
           rw [List.take_length, show pubs.take pl.length = pubs by rw [← Hpl.out, List.take_length], ← Hset.out] at hO
           have hkI : ¬ (pl.length : Int) < pl.length := by omega
           have hq1l : q + 1 < w3.heap.size := (Array.getElem?_eq_some_iff.1 Hr3.out).1
           have hTall : Turned (fun k => k = g) wc wr := (H8.out.2.trans HTu.out (fun _ _ h => h)).trans hTu (fun _ _ h => h)
           have hrr : wr.heap[q + 1]? = some (.cells #[.slice none 0 0] 44 (0, 0)) := (hTall.block (q + 1) (Nat.lt_of_lt_of_le hq1l Hx.out.2.2.2.2.2.2.1.size) (by have := Hx.out.2.1; omega)).trans ((Hx.out.2.2.2.2.2.2.1.block (q + 1) hq1l).trans Hr3.out)
           have kr : wr.cell? ⟨q + 1, 0, none⟩ = some (.slice none 0 0) := (cRw hrr 0).trans rfl
           have fr := fRw hrr 0
           have hT2 : Turned (fun k => k = q + 1) wr (wr.setCell ⟨q + 1, 0, none⟩ (.slice (some ⟨g, 0, none⟩) T.length cap)) := (Turned.refl (fun k => k = q + 1) wr).setCell (fun _ => rfl) _
           have hqw := Hq.out
           have hgf := Hx.out.2.1
           have hb3s := Hb3.out.size
           have hfin := (hO.kept hT2 (by omega) (fun i hi b hb e => by have := ((hO.um i hi).2 b hb).1; omega)).base hb3s
           have hbw : Below w.heap.size w wr := Hb3.out.trans ((Hx.out.2.2.2.2.2.2.1.trans (hTall.below (B := w3.heap.size) Hx.out.2.2.2.2.2.2.1.size (fun k hk => by rw [hk]; exact hgf))).mono hb3s)
           have hbw2 := hbw.trans (hT2.below (B := w.heap.size) hbw.size (fun k e => by omega))
           have Hrr := hQ hrr
           have HF := hQ (And.intro hfin hbw2)
           clear hO hTu hq1l hTall hrr hT2 hqw hgf hb3s hfin hbw hbw2
           go_wp2
           refine bodyPost_ret_by (rset_results _ _ (q + 1) (.slice (some ⟨g, 0, none⟩) T.length cap) 0 rfl rfl (by exact rSc Hrr.out 0 _)) rfl ?_
           rw [HP.out]
           exact ⟨g, cap, U2, rfl, HF.out.1, HF.out.2⟩
end
section
open Go Go.RowKit
theorem half_int (y : Nat) : ((y / 2 : Nat) : Int) = (y : Int) / 2 := by omega
theorem mrtargets_any (B : Nat) (T : List NodeD) (hfit : FitT T) (hlen : T.length ≤ 262144) (a : Option Addr) (c : Nat) (leaf : Int) (ha : askD T leaf = 0) (fresh : List Int) (hfl : fresh.length ≤ 1000000000) (fa : Option Addr) (fc : Nat) (w : World) (hB : B ≤ w.heap.size) (hT : TreeAt B w a T) (hN : NumsAt B w fa fresh) :
    Calls Tryz.prog 61 #[.agg #[.slice a T.length c], .int .i64 leaf, .slice fa fresh.length fc] w (TgtAns T leaf fresh w) := by
 obtain ⟨i0, hi0, hz0, hz1, hz2⟩ := info_parts infoI
 obtain ⟨j0, hj0, hy0, hy1, hy2⟩ := info_parts mInfoSl
 have hb1 := (Below.refl w.heap.size w).alloc (Nat.le_refl _) (.cells #[.slice a T.length c] 44)
 have hrow := rAl (w := w) #[.slice a T.length c] 44 (0, 0)
 have hA : RRA B w.heap.size a c T (w.alloc (.cells #[.slice a T.length c] 44)) := ⟨hT.below (hb1.mono hB), hrow, Nat.le_trans hB hb1.size⟩
 have hpath := mrpath_any B T hfit hlen a c leaf _ hA.size hA.tr
 obtain ⟨hok, hl0, hlt, hn, hTn, hpn⟩ := ask_zero ha
 have hpk := pth_ok ha
 have hres := fun y hy W (hW : RRA B w.heap.size a c T W) => mrres_any B T hok hlen a c 4 (by omega) y (lev_lt y) hy W hW.size hW.tr
 have hot := fun x hx W => mrother_any (lvD T.length) leaf.toNat x hn hlt hx W
 have e3 : ((leaf.toNat : Nat) : Int) = leaf := by omega
 rw [e3] at hot
 have hof := (oth_facts hn hlt).2.2
 have hoT : ∀ x ∈ pthD T leaf.toNat, oth leaf.toNat x < T.length := fun x hx => by have := hof x (hpk.sub x hx); omega
 have hot' : ∀ x ∈ pthD T leaf.toNat, _ := fun x hx => hot x (hpk.sub x hx)
 have hpT : ∀ x ∈ pthD T leaf.toNat, x < T.length := fun x hx => hpk.dlt x (hpk.sub x hx)
 have hrl := fun y hy => res_len hok 4 y hy
 have hrm := fun y hy => res_mem hok 4 y hy
 have hlfI : leaf ≤ 8 := by rcases hn with h | h | h | h <;> omega
 have hl0I : 0 ≤ leaf := hl0
 have hT15 : T.length ≤ 15 := by rcases hn with h | h | h | h <;> omega
 have hTI : (T.length : Int) ≤ 15 := by omega
 have hpl3 := hpk.plen
 unfold PathAns at hpath
 rw [ha, if_pos rfl] at hpath
 have hans : TgtAns T leaf fresh w = fun e w' => ∃ v Ts, e = .returned (.tuple #[v, .int .i64 0]) ∧ TgIn w.heap.size w' v Ts ∧ Ts.map (·.other) = (pthD T leaf.toNat).map (fun x => keepL fresh (resD T 4 (oth leaf.toNat x))) ∧ Below w.heap.size w w' := by
  unfold TgtAns
  rw [ha, if_pos rfl, tgt_pth]
 obtain ⟨P, hP⟩ : ∃ P, P = TgtAns T leaf fresh w := ⟨_, rfl⟩
 rw [← hP] at hans ⊢
 have HP := hQ hans
 have HA := hQ hA
 have Hb1 := hQ hb1
 have Hpath := hQ hpath
 have Hres := hQ hres
 have Hot := hQ hot'
 have Hrl := hQ hrl
 have Hrm := hQ hrm
 have HoT := hQ hoT
 have HpT := hQ hpT
 have HB := hQ hB
 have HN := hQ hN
 obtain ⟨pl, hple⟩ : ∃ pl, pl = pthD T leaf.toNat := ⟨_, rfl⟩
 rw [← hple] at Hpath Hot HoT HpT hpl3 HP
 have hpI : (pl.length : Int) ≤ 3 := by omega
 have Hpl3 := hQ hpl3
 have HT15 := hQ hT15
 clear hb1 hrow hA hpath hres hot hot' hof hoT hpT hrl hrm hpl3 hans hP hple hpk hok hl0 hlt hn hTn hpn e3 ha hfit hlen hT hB hN hT15
 go_enter Tryz.func61, Tryz.ntmps61
 go_wp2_with fail
 refine Hpath.out.mono ?_
 rintro r w2 ⟨da, dc, rfl, hown2, hg2, hb2⟩
 have hat2 := fun i hi => ownI_at hown2 i hi
 rw [nIl] at hat2
 have Hat := hQ hat2
 have Hb2 := hQ (Hb1.out.trans (hb2.mono Hb1.out.size))
 have HA2 := hQ (HA.out.new hb2); clear hb2 HA hown2 hg2 hat2 Hpath
 go_wp2_with fail
 go_loopw [10, 11] (fun v i wr => RTgRel T leaf.toNat fresh pl w2 v i wr) (fun _ i _ => pl.length - (intOf i).toNat)
 case atStart => exact ⟨0, [], Nat.zero_le _, rfl, TgIn.nil _ _, rfl, Below.refl _ _⟩
 case round =>
  obtain ⟨k, Ts, hk, rfl, hin, hmap, hbr⟩ := hrel
  obtain ⟨oa, oc, rfl⟩ := hin.len
  have hTl : Ts.length = k := by
   have e := congrArg List.length hmap
   rw [List.length_map, List.length_map, List.length_take] at e
   omega
  have Hin := hQ hin
  have Hmap := hQ hmap
  have Hbr := hQ hbr
  have HTl := hQ hTl
  have HAr := hQ (HA2.out.low hbr HA2.out.lt HA2.out.size)
  clear hTl hmap
  by_cases hkl : k < pl.length
  · obtain ⟨b1, o1, rfl, c1⟩ := Hat.out k hkl
    have d1 := (hbr.cell (p := ⟨b1, o1 + k, none⟩) (World.block_lt_of_cell? w2 _ c1)).trans c1
    rw [natI_get] at d1
    have hmem : pl.getD k 0 ∈ pl := by rw [List.getD_eq_getElem?_getD, List.getElem?_eq_getElem hkl]; exact List.getElem_mem _
    have hot := Hot.out _ hmem
    have hz := HoT.out _ hmem
    have hy := HpT.out _ hmem
    have hr1 := Hres.out _ hz
    have hl16 := Hrl.out _ hz
    have hrm := Hrm.out _ hz
    have hstep : (pl.take (k + 1)).map (fun x => keepL fresh (resD T 4 (oth leaf.toNat x))) = (pl.take k).map (fun x => keepL fresh (resD T 4 (oth leaf.toNat x))) ++ [keepL fresh (resD T 4 (oth leaf.toNat (pl.getD k 0)))] := by
     rw [List.take_add_one, List.getD_eq_getElem?_getD, List.getElem?_eq_getElem hkl, List.map_append]
     rfl
    generalize pl.getD k 0 = y at d1 hot hz hy hr1 hl16 hrm hstep
    have hstep2 : (pl.take (k + 1)).map (fun x => keepL fresh (resD T 4 (oth leaf.toNat x))) = Ts.map (·.other) ++ [keepL fresh (resD T 4 (oth leaf.toNat y))] := by rw [hstep, Hmap.out]
    clear hstep
    generalize resD T 4 (oth leaf.toNat y) = l at hr1 hl16 hrm hstep2
    generalize oth leaf.toNat y = z at hot hr1 hz hrm
    have hkI : (k : Int) < pl.length := by omega
    have hyI : (y : Int) ≤ 15 := by have := HT15.out; omega
    have hlI : (l.length : Int) ≤ 144 := by omega
    have Hl16 := hQ hl16
    have Hr1 := hQ hr1
    have Hot1 := hQ hot
    have Hstep := hQ hstep2
    have Hrm1 := hQ hrm
    have kb := (cRw HAr.out.box 0).trans rfl
    clear c1 hmem hot hz hy hr1 hl16 hrm hin hbr hstep2
    go_wp2_with fail
    go_region_with (first
     | (go_at_call 209; refine (Hot1.out _).mono ?_; rintro e wx ⟨rfl, hwx⟩; subst wx)
     | (go_at_call 208; refine (Hr1.out wr.drew (HAr.out.new ⟨rfl, rfl, rfl, Nat.le_refl _, fun _ _ => rfl⟩)).mono ?_; rintro e w8 ⟨v8, rfl, hol, hgl, hbl⟩; obtain ⟨la, lc, rfl, _⟩ := ownI_len hol; rw [nIl] at hol hgl ⊢; have hbl' : Below wr.heap.size wr w8 := ⟨hbl.os, hbl.tape, hbl.output, hbl.size, hbl.block⟩; have Hbl := hQ hbl'; have Hol := hQ hol; clear hol hgl hbl hbl'))
    all_goals
     clear d1 kb
     have hlat := fun i hi => ownI_at Hol.out i hi
     rw [nIl] at hlat
     have Hlat := hQ hlat
     clear hlat
     go_wp2_with fail
     go_loopw [13, 14] (fun v i wr' => RowRel fresh l w8 v i wr') (fun _ i _ => l.length - (intOf i).toNat)
     case atStart => exact ⟨0, Nat.zero_le _, rfl, ResIn.start (ownI_nil w8)⟩
     case round =>
      obtain ⟨j, hj, rfl, hjn⟩ := hrel
      obtain ⟨ra, rc, rfl⟩ := hjn.len
      have hbj := hjn.tur.below (Nat.le_refl _) (fun k e => by simp [Value.ownBlock] at e)
      have Hjn := hQ hjn
      have Hbj := hQ hbj
      by_cases hjl : j < l.length
      · obtain ⟨b2, o2, rfl, c2⟩ := Hlat.out j hjl
        have d2 := (hbj.cell (p := ⟨b2, o2 + j, none⟩) (World.block_lt_of_cell? w8 _ c2)).trans c2
        rw [natI_get] at d2
        have hkeep := keepL_step (fresh := fresh) hjl
        have hmy : l.getD j 0 ∈ l := by rw [List.getD_eq_getElem?_getD, List.getElem?_eq_getElem hjl]; exact List.getElem_mem _
        have hx15 := Hrm1.out _ hmy
        have hll : (keepL fresh (l.take j)).length ≤ 144 := by
         unfold keepL
         refine Nat.le_trans (List.length_filter_le _ _) ?_
         rw [List.length_take]
         have := Hl16.out
         omega
        generalize l.getD j 0 = x at d2 hkeep hx15
        generalize keepL fresh (l.take j) = lst at hkeep hll Hjn ⊢
        have hjI : (j : Int) < l.length := by omega
        have hxI : (x : Int) ≤ 15 := by have := HT15.out; omega
        have Hkeep := hQ hkeep
        have Hll := hQ hll
        have hhas := mhas_any B ((x / 2 : Nat) : Int) fresh hfl fa fc wr (HN.out.below ((Hb2.out.mono HB.out).trans ((Hbr.out.mono (Nat.le_trans HB.out Hb2.out.size)).trans ((Hbl.out.mono HAr.out.size).trans (Hbj.out.mono (Nat.le_trans HAr.out.size Hbl.out.size))))))
        rw [half_int] at hhas
        have Hhas := hQ hhas
        clear c2 hmy hkeep hll hhas hx15 hjn hbj
        by_cases hpar : x % 2 = 1
        · have hpI : (x : Int) % 2 = 1 := by omega
          have hdel : delD fresh x = false := by unfold delD; simp; omega
          have hk2 := Hkeep.out
          rw [hdel, if_neg (by decide)] at hk2
          have Hk2 := hQ hk2
          clear hdel hk2 hpar Hhas Hkeep
          go_wp2_with (at_builtin; refine wpList_append_lies _ rfl (.tmp 60) (.tmp 65) 27 rfl 0 3 i0 (.int .i64 0) 1 8 Tryz.underlying27 hi0 hz0 hz1 hz2 rfl (by decide) (.slice ra lst.length rc) lst.length ((natI lst).map intV) rfl (World.ownsRow.alloc Hjn.out.own _) ⟨wr.heap.size, 0, none⟩ 1 1 [intV (x : Int)] rfl rfl (cell_one_new _ _ _) (by intro u hu; simp [intV] at hu; rw [hu]; rfl) (by omega) (by have := Hll.out; unfold maxLen; omega) (by have := Hll.out; omega) (Nat.zero_le _) (wr.heap.size + 1) (by simp) ?_; intro g2 c2 w6 hown2 hgrow2 hat2 hlt2; have HN2 := hQ (Hjn.out.more (y := x) hown2 hgrow2 hat2); clear hown2 hgrow2 hat2 hlt2)
          exact ⟨⟨j + 1, by omega, by go_num, by rw [Hk2.out]; exact HN2.out⟩, by simp [intOf]; omega⟩
        · have hpI : (x : Int) % 2 = 0 := by omega
          by_cases hfr : (x : Int) / 2 ∈ fresh
          · have hdel : delD fresh x = true := by unfold delD; rw [half_int]; simp [hfr]; omega
            have hk2 := Hkeep.out
            rw [hdel, if_pos rfl, List.append_nil] at hk2
            have Hk2 := hQ hk2
            have hh2 := Hhas.out
            rw [decide_eq_true hfr] at hh2
            have Hh2 := hQ hh2
            clear hdel hk2 hpar Hhas Hkeep hfr hh2
            go_wp2_with fail
            refine Hh2.out.mono ?_
            rintro e wx ⟨rfl, hwx⟩
            subst wx
            go_wp2
            exact ⟨⟨j + 1, by omega, by go_num, by rw [Hk2.out]; exact Hjn.out⟩, by simp [intOf]; omega⟩
          · have hdel : delD fresh x = false := by unfold delD; rw [half_int]; simp [hfr]
            have hk2 := Hkeep.out
            rw [hdel, if_neg (by decide)] at hk2
            have Hk2 := hQ hk2
            have hh2 := Hhas.out
            rw [decide_eq_false hfr] at hh2
            have Hh2 := hQ hh2
            clear hdel hk2 hpar Hhas Hkeep hfr hh2
            go_wp2_with fail
            refine Hh2.out.mono ?_
            rintro e wx ⟨rfl, hwx⟩
            subst wx
            go_wp2_with (at_builtin; refine wpList_append_lies _ rfl (.tmp 60) (.tmp 65) 27 rfl 0 3 i0 (.int .i64 0) 1 8 Tryz.underlying27 hi0 hz0 hz1 hz2 rfl (by decide) (.slice ra lst.length rc) lst.length ((natI lst).map intV) rfl (World.ownsRow.alloc Hjn.out.own _) ⟨wr.heap.size, 0, none⟩ 1 1 [intV (x : Int)] rfl rfl (cell_one_new _ _ _) (by intro u hu; simp [intV] at hu; rw [hu]; rfl) (by omega) (by have := Hll.out; unfold maxLen; omega) (by have := Hll.out; omega) (Nat.zero_le _) (wr.heap.size + 1) (by simp) ?_; intro g2 c2 w6 hown2 hgrow2 hat2 hlt2; have HN2 := hQ (Hjn.out.more (y := x) hown2 hgrow2 hat2); clear hown2 hgrow2 hat2 hlt2)
            exact ⟨⟨j + 1, by omega, by go_num, by rw [Hk2.out]; exact HN2.out⟩, by simp [intOf]; omega⟩
      · obtain rfl : j = l.length := by omega
        have hkI2 : ¬ (l.length : Int) < l.length := by omega
        rw [List.take_length] at hjn
        have hval := hjn.ownI
        have hvg := hjn.blk
        have Hval := hQ hval
        have Hvg := hQ hvg
        have hstep := Hstep.out
        rw [List.take_length] at Hjn ⊢
        have Hol3 := hQ (ownsRow_below (ownsRow_below Hin.out.own Hbl.out) Hbj.out)
        generalize keepL fresh l = lst at Hval Hvg hstep Hjn ⊢
        have Hst2 := hQ hstep
        clear hjn hbj hval hvg hstep Hstep Hjn
        go_wp2_with (at_builtin; refine wpList_append_lies _ rfl (.tmp 67) (.tmp 69) 139 rfl 0 27 j0 (.slice none 0 0) 1 24 Tryz.underlying139 hj0 hy0 hy1 hy2 rfl (by decide) (.slice oa Ts.length oc) Ts.length (Ts.map (·.val)) rfl (World.ownsRow.alloc Hol3.out _) ⟨wr.heap.size, 0, none⟩ 1 1 [.slice ra lst.length rc] rfl rfl (cell_one_new _ _ _) (by intro u hu; simp at hu; rw [hu]; rfl) (by omega) (by have := HTl.out; unfold maxLen; omega) (by have := HTl.out; omega) (Nat.zero_le _) (wr.heap.size + 1) (by simp) ?_; intro g2 c2 w5 hown2 hgrow2 hat2 hlt2; have HM := hQ (TgIn.more Hin.out Hbr.out.size (Hbl.out.trans (Hbj.out.mono Hbl.out.size)) Hval.out (fun g hg => (Hvg.out g hg).elim (fun h => by simp [Value.ownBlock] at h) (fun h => Nat.le_trans Hbl.out.size h)) hown2 hgrow2 hat2); clear hown2 hgrow2 hat2 hlt2)
        exact ⟨⟨k + 1, _, by omega, by go_num, HM.out.1, by rw [List.map_append, Hst2.out]; rfl, Hbr.out.trans HM.out.2⟩, by simp [intOf]; omega⟩
  · obtain rfl : k = pl.length := by omega
    have hkI : ¬ (pl.length : Int) < pl.length := by omega
    clear hin hbr
    go_wp2
    rw [HP.out]
    exact ⟨_, Ts, rfl, Hin.out.base Hb2.out.size, by rw [Hmap.out, List.take_length], Hb2.out.trans (Hbr.out.mono Hb2.out.size)⟩
end
end Go.Proofs.YtedpljclnpiggaaGreatDoor
