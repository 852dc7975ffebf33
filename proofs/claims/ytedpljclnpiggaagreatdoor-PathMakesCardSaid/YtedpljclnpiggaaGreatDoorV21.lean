/- The document's resolution: the walk. -/
import Derived.Test.YtedpljclnpiggaaGreatDoorV16
set_option linter.unusedVariables false
set_option linter.unusedSimpArgs false
set_option maxRecDepth 100000
set_option maxHeartbeats 12800000
namespace Go.Proofs.YtedpljclnpiggaaGreatDoor
section
open Go Go.RowKit
theorem NumsAt.mono' {B B' : Nat} {w : World} {a : Option Addr} {l : List Int} (h : NumsAt B w a l) (hB : B ≤ B') : NumsAt B' w a l := fun i hi => let ⟨b, o, e, hl, hc⟩ := h i hi; ⟨b, o, e, Nat.lt_of_lt_of_le hl hB, hc⟩
theorem oKp {w w' : World} {F : Nat → Prop} {b : Nat} {t : TypeId} {sz : Nat} {v : Value} {n : Nat} {xs : List Value} (h : w.ownsRow b t sz v n xs) (hT : Turned F w w') (hn : ∀ k, v.ownBlock = some k → ¬ F k) : w'.ownsRow b t sz v n xs := by
 refine ⟨h.1, ?_⟩
 rcases h.2 with h0 | ⟨g, cap, cur, e, hB, hg, rest⟩
 · exact .inl h0
 · exact .inr ⟨g, cap, cur, e, hB, (hT.block g (Array.getElem?_eq_some_iff.1 hg).1 (hn g (by rw [e]; rfl))).trans hg, rest⟩
theorem slInfo : (Tryz.prog.info? 143).map (fun i => (i.zero, i.size, i.bytes)) = some (some (.agg #[.int .i64 0, .int .i64 0, .int .i64 0]), 3, 24) := by kernel_rfl
def markI (n : Nat) : Int := -1000 - n
theorem markNumber_any (n : Nat) (hn : n ≤ 300000) (w : World) : Calls Tryz.prog 55 #[.int .i64 n] w fun e w' => e = .returned (.int .i64 (markI n)) ∧ w' = w := by
 have hnI : (n : Int) ≤ 300000 := by omega
 go_enter Tryz.func55, Tryz.ntmps55
 go_wp2
 go_ret
 exact ⟨rfl, rfl⟩
theorem isNumber_any (n : Nat) (hn : n ≤ 300000) (w : World) : Calls Tryz.prog 65 #[.int .i64 (markI n), .int .i64 n] w fun e w' => e = .returned (.bool true) ∧ w' = w := by
 have Hm := hQ (markNumber_any n hn w)
 generalize markI n = m at Hm
 go_enter Tryz.func65, Tryz.ntmps65
 go_wp2_with fail
 refine Hm.out.mono ?_
 rintro e wx ⟨rfl, hwx⟩
 subst wx
 go_wp2
 go_ret
 exact ⟨by simp, rfl⟩
def SameRel (l : List Int) (w : World) (i : Value) (wr : World) : Prop := ∃ k d : Nat, k ≤ l.length ∧ i = .int .i64 k ∧ wr = w.drewN d
theorem sameNumbers_any (B : Nat) (l : List Int) (hl : l.length ≤ 300000) (a b : Option Addr) (ca cb : Nat) (w : World) (ha : NumsAt B w a l) (hb : NumsAt B w b l) :
    Calls Tryz.prog 66 #[.slice a l.length ca, .slice b l.length cb] w fun e w' => e = .returned (.bool true) ∧ ∃ d, w' = w.drewN d := by
 have Ha := hQ ha; clear ha
 have Hb := hQ hb; clear hb
 have hlI : (l.length : Int) ≤ 300000 := by omega
 go_enter Tryz.func66, Tryz.ntmps66
 go_wp2
 go_loopw [13] (fun i wr => SameRel l w i wr) (fun i _ => l.length - (intOf i).toNat)
 case atStart => exact ⟨0, 0, Nat.zero_le _, rfl, rfl⟩
 case round =>
  obtain ⟨k, d, hk, rfl, hwr⟩ := hrel
  have hcell : ∀ p, wr.cell? p = w.cell? p := fun p => by rw [hwr]; rfl
  have Hwr := hQ hwr; clear hwr
  by_cases hkl : k < l.length
  · obtain ⟨b1, o1, rfl, _, c1⟩ := Ha.out k hkl
    obtain ⟨b2, o2, rfl, _, c2⟩ := Hb.out k hkl
    rw [← hcell] at c1 c2
    clear hcell
    have hkI : (k : Int) < l.length := by omega
    generalize l.getD k 0 = x at c1 c2
    have hxx : (x != x) = false := by simp
    go_wp2_with fail
    go_quiet (fail)
    go_wp2
    exact ⟨⟨k + 1, d + nq, by omega, by go_num, by rw [Hwr.out, World.drewN_drewN]⟩, by simp [intOf]; omega⟩
  · obtain rfl : k = l.length := by omega
    have hkI : ¬ (l.length : Int) < l.length := by omega
    clear hcell
    go_wp2
    go_ret
    exact ⟨rfl, d, Hwr.out⟩
def TwN (w : World) (g : Nat) (l : List Int) : Prop := ∃ c, w.heap[g]? = some (.cells c 3 (0, 0)) ∧ c.size = l.length + 2 ∧ (∀ i, i < l.length → c[i]? = some (.int .i64 (l.getD i 0))) ∧ c[l.length]? = some (.int .i64 (markI l.length)) ∧ c[l.length + 1]? = some (.int .i64 (markI (l.length + 1)))
theorem TwN.kept {w w' : World} {g : Nat} {l : List Int} (h : TwN w g l) (e : w'.heap[g]? = w.heap[g]?) : TwN w' g l := let ⟨c, h1, h2⟩ := h; ⟨c, e.trans h1, h2⟩
theorem TwN.nums {w : World} {g : Nat} {l : List Int} {B : Nat} (h : TwN w g l) (hg : g < B) : NumsAt B w (some ⟨g, 0, none⟩) l := fun i hi => by
 obtain ⟨c, h1, _, h3, _⟩ := h
 exact ⟨g, 0, rfl, hg, by rw [Nat.zero_add, cRw h1]; exact h3 i hi⟩
def zeroI (m : Nat) : Array Value := madeCells #[.int .i64 0] m
theorem run_make_twin (n : Nat) (hn : n ≤ 262144) (w : World) :
    (Instr.makeSlice 27 (.int .i64 n) (.int .i64 (n + 2))).run Tryz.prog w = .ok (.slice (some ⟨w.heap.size, 0, none⟩) n (n + 2)) (w.alloc (.cells (zeroI ((n + 2) * 1)) 3)) := by
 obtain ⟨i0, hi, hz0, hz1, hz2⟩ := info_parts infoI
 have h := run_make (P := Tryz.prog) w 27 3 i0 _ Tryz.underlying27 hi hz0 .i64 .i64 n (n + 2) (by omega) (by omega) (by rw [hz2]; omega) (by omega)
 rw [hz1] at h
 exact h
def TwNRel (l : List Int) (w : World) (i : Value) (wr : World) : Prop :=
 ∃ (k : Nat) (c : Array Value), l.length ≤ k ∧ k ≤ l.length + 2 ∧ i = .int .i64 k ∧ wr.heap[w.heap.size]? = some (.cells c 3 (0, 0)) ∧ c.size = l.length + 2 ∧
  (∀ j, j < l.length → c[j]? = some (.int .i64 (l.getD j 0))) ∧ (∀ j, l.length ≤ j → j < k → c[j]? = some (.int .i64 (markI j))) ∧ Below w.heap.size w wr
theorem twinNumbers_any (B : Nat) (l : List Int) (hl : l.length ≤ 262144) (a : Option Addr) (c : Nat) (w : World) (hB : B ≤ w.heap.size) (hN : NumsAt B w a l) :
    Calls Tryz.prog 21 #[.slice a l.length c] w fun e w' => e = .returned (.slice (some ⟨w.heap.size, 0, none⟩) l.length (l.length + 2)) ∧ TwN w' w.heap.size l ∧ Below w.heap.size w w' := by
 obtain ⟨i0, hi, hz0, hz1, hz2⟩ := info_parts infoI
 have hmk := run_make_twin l.length hl w
 obtain ⟨cs, hcs⟩ : ∃ cs, cs = l.map intV := ⟨_, rfl⟩
 have hcl : cs.length = l.length := by rw [hcs]; simp
 obtain ⟨z, hz⟩ : ∃ z, z = zeroI ((l.length + 2) * 1) := ⟨_, rfl⟩
 have hzs : z.size = l.length + 2 := by rw [hz]; simp [zeroI, madeCells]
 have Hsrc : Hid (∀ a', a = some a' → ∀ j v, cs[j]? = some v → (w.alloc (.cells z 3)).cell? (a'.add j) = some v) := by
  refine hQ ?_
  intro a' ha j v hj
  have hj5 : j < l.length := by rw [← hcl]; exact (List.getElem?_eq_some_iff.1 hj).1
  obtain ⟨b, o, e, hb, h0⟩ := hN j hj5
  obtain rfl : a' = ⟨b, o, none⟩ := Option.some.inj (ha.symm.trans e)
  rw [add_plain', World.cell?_alloc_past _ _ _ (Nat.lt_of_lt_of_le hb hB), h0, ← hj, hcs, List.getElem?_map, List.getElem?_eq_getElem hj5, List.getD_eq_getElem?_getD, List.getElem?_eq_getElem hj5]
  rfl
 have Hone : Hid (∀ v ∈ cs, v.oneCell' = true) := by
  refine hQ ?_
  intro v hv
  rw [hcs] at hv
  obtain ⟨x, _, rfl⟩ := List.mem_map.1 hv
  rfl
 have hnil : a = none → l.length = 0 := fun h => by
  apply Classical.byContradiction
  intro h2
  obtain ⟨b, o, e, _⟩ := hN 0 (by omega)
  rw [h] at e
  cases e
 have Hlen : Hid (cs.length = Nat.min l.length l.length * 1) := hQ (by rw [hcl, show Nat.min l.length l.length = l.length from Nat.min_self _, Nat.mul_one])
 have Hfit : Hid (0 + cs.length ≤ z.size) := hQ (by rw [hcl, hzs]; omega)
 rw [← hz] at hmk
 have Hrow : Hid ((w.alloc (.cells z 3)).heap[w.heap.size]? = some (.cells z 3 (0, 0))) := hQ (rAl _ _ _)
 have Hcs := hQ hcs
 have Hcl := hQ hcl
 have Hzs := hQ hzs
 obtain ⟨n, hn⟩ : ∃ n, n = l.length := ⟨_, rfl⟩
 have hlI : (n : Int) ≤ 262144 := by omega
 have Hn := hQ hn
 rw [← hn] at hmk hl hnil Hlen ⊢
 clear hcs hcl hz hzs hN hn
 go_enter Tryz.func21, Tryz.ntmps21
 go_wp2_with (with_reducible refine wpList_copy_any rfl (.tmp 12) (.tmp 13) 27 27 rfl 3 i0 1 Tryz.underlying27 hi hz1 w.heap.size 0 n (n + 2) a n c rfl rfl z 3 Hrow.out cs Hlen.out Hsrc.out hnil Hfit.out Hone.out ?_)
 have hB0 : Below w.heap.size w ((w.alloc (.cells z 3)).setRow w.heap.size (splice z.toList 0 cs).toArray) := below_setRow ((Below.refl _ _).alloc (Nat.le_refl _) _) (Nat.le_refl _) _
 have HB0 := hQ hB0; clear hB0
 go_loopw [5] (fun i wr => TwNRel l w i wr) (fun i _ => n + 2 - (intOf i).toNat)
 case atStart =>
  refine ⟨n, (splice z.toList 0 cs).toArray, by rw [Hn.out]; exact Nat.le_refl _, by rw [Hn.out]; omega, rfl, row_setRow Hrow.out, ?_, ?_, fun j h1 h2 => ?_, HB0.out⟩
  · have h := length_splice z.toList 0 cs (by have := Hfit.out; simpa using this)
    have h2 := Hzs.out
    simpa [h2] using h
  · intro j hj
    rw [List.getElem?_toArray]
    unfold splice
    rw [List.take_zero, List.nil_append, List.getElem?_append_left (by rw [Hcl.out]; exact hj), Hcs.out, List.getElem?_map, List.getElem?_eq_getElem hj, List.getD_eq_getElem?_getD, List.getElem?_eq_getElem hj]
    rfl
  · have := Hn.out; omega
 case round =>
  obtain ⟨k, cur, hk0, hk1, rfl, hrow, hcur, hall, hmk2, hb⟩ := hrel
  rw [← Hn.out] at hk0 hk1
  have hlt0 : w.heap.size < wr.heap.size := (Array.getElem?_eq_some_iff.1 hrow).1
  have Hall := hQ hall; clear hall
  have Hmk2 := hQ hmk2; clear hmk2
  have Hb := hQ hb; clear hb
  have Hcur := hQ hcur; clear hcur
  by_cases hlt : k < n + 2
  · have hm := markNumber_any k (by omega) wr
    have Hm := hQ hm; clear hm
    obtain ⟨v0, c0⟩ : ∃ v, wr.cell? ⟨w.heap.size, k, none⟩ = some v := by
     rw [cRw hrow]
     exact ⟨_, Array.getElem?_eq_getElem (by rw [Hcur.out, ← Hn.out]; omega)⟩
    have f0 := fRw hrow k
    have hkI : (k : Int) < n + 2 := by omega
    have hkI2 : (n : Int) ≤ k := by omega
    have Hrow1 := hQ hrow; clear hrow
    generalize hmx : markI k = mx at Hm
    have Hmx := hQ hmx; clear hmx
    go_wp2_with (go_at_call 55; refine Hm.out.mono ?_; rintro e wx ⟨rfl, hwx⟩; subst wx)
    refine ⟨⟨k + 1, _, by rw [← Hn.out]; omega, by rw [← Hn.out]; omega, by go_num, rSc Hrow1.out k _, by rw [Array.size_setIfInBounds]; exact Hcur.out, fun j hj => ?_, fun j h1 h2 => ?_, Hb.out.setCell (Nat.le_refl _) _⟩, by simp [intOf]; omega⟩
    · rw [Array.getElem?_setIfInBounds, if_neg (by have := Hn.out; omega)]
      exact Hall.out j hj
    · rw [Array.getElem?_setIfInBounds]
      by_cases e : k = j
      · subst e
        rw [if_pos rfl, if_pos (by rw [Hcur.out, ← Hn.out]; omega), ← Hmx.out]
      · rw [if_neg e]
        exact Hmk2.out j h1 (by omega)
  · obtain rfl : k = n + 2 := by omega
    have Hrow1 := hQ hrow; clear hrow
    go_wp2
    go_ret
    refine ⟨rfl, ⟨cur, Hrow1.out, Hcur.out, Hall.out, ?_, ?_⟩, Hb.out⟩
    · exact Hmk2.out _ (Nat.le_refl _) (by rw [Hn.out]; omega)
    · exact Hmk2.out _ (by omega) (by rw [Hn.out]; omega)
def LeftNRel (n : Nat) (w : World) (i : Value) (wr : World) : Prop := ∃ k : Nat, n ≤ k ∧ k ≤ n + 2 ∧ i = .int .i64 k ∧ wr = w
theorem leftNumbers_any (B : Nat) (l : List Int) (hl : l.length ≤ 262144) (g : Nat) (a : Option Addr) (c : Nat) (w : World) (hg : TwN w g l) (hN : NumsAt B w a l) :
    Calls Tryz.prog 27 #[.slice (some ⟨g, 0, none⟩) l.length (l.length + 2), .slice a l.length c] w fun e w' => e = .returned (.bool true) ∧ ∃ d, w' = w.drewN d := by
 have hgl : g < w.heap.size := by obtain ⟨c, h, _⟩ := hg; exact (Array.getElem?_eq_some_iff.1 h).1
 have hsame := sameNumbers_any (Nat.max B w.heap.size) l (by omega) (some ⟨g, 0, none⟩) a (l.length + 2) c w (hg.nums (Nat.lt_of_lt_of_le hgl (Nat.le_max_right _ _))) (hN.mono' (Nat.le_max_left _ _))
 have Hsame := hQ hsame
 have hm : ∀ k, l.length ≤ k → k < l.length + 2 → w.cell? ⟨g, k, none⟩ = some (.int .i64 (markI k)) := fun k h1 h2 => by
  obtain ⟨cc, r1, r2, r3, r4, r5⟩ := hg
  rw [cRw r1]
  rcases (by omega : k = l.length ∨ k = l.length + 1) with rfl | rfl
  · exact r4
  · exact r5
 have Hm := hQ hm
 have hlI : (l.length : Int) ≤ 262144 := by omega
 clear hsame hm hg hN
 go_enter Tryz.func27, Tryz.ntmps27
 go_wp2
 go_loopw [6] (fun i wr => LeftNRel l.length w i wr) (fun i _ => l.length + 2 - (intOf i).toNat)
 case atStart => exact ⟨l.length, Nat.le_refl _, by omega, rfl, rfl⟩
 case round =>
  obtain ⟨k, hk0, hk1, rfl, rfl⟩ := hrel
  by_cases hlt : k < l.length + 2
  · have c0 := Hm.out k hk0 hlt
    have his := isNumber_any k (by omega) wr
    have hkI : (k : Int) < l.length + 2 := by omega
    have hkI2 : (l.length : Int) ≤ k := by omega
    generalize markI k = mx at c0 his
    have His := hQ his; clear his
    go_wp2_with (go_at_call 65; refine His.out.mono ?_; rintro e wx ⟨rfl, hwx⟩; subst wx)
    exact ⟨⟨k + 1, by omega, by omega, by go_num, rfl⟩, by simp [intOf]; omega⟩
  · obtain rfl : k = l.length + 2 := by omega
    go_wp2_with (go_at_call 66; refine Hsame.out.mono ?_; rintro e wx ⟨rfl, hwx⟩)
    go_ret
    exact ⟨rfl, hwx⟩
end
section
open Go Go.RowKit
theorem lr_all : ∀ x ∈ List.range 15, x % 2 = 1 → lefX x ≠ rigX x := by decide
theorem lr_ne (x : Nat) (hx : x < 15) (ho : x % 2 = 1) : lefX x ≠ rigX x := lr_all x (List.mem_range.2 hx) ho
def RResC (B : Nat) (T : List NodeD) (a : Option Addr) (c f : Nat) : Prop :=
 ∀ x, levD x < f → x < T.length → ∀ (w : World), B ≤ w.heap.size → TreeAt B w a T →
  Calls Tryz.prog 208 #[.agg #[.slice a T.length c], .int .i64 x] w (NewI (natI (resD T f x)) w)
def RRsRel (w : World) (x : Nat) (us : List Int) (v' i : Value) (wr : World) : Prop :=
 ∃ k : Nat, k ≤ us.length ∧ i = .int .i64 k ∧ ResIn w (.slice none 0 0) v' (x :: (us.take k).map (fun u => (2 * u).toNat)) wr
structure RZ (B : Nat) (T : List NodeD) (a : Option Addr) (c : Nat) (W0 w : World) : Prop where
 bl : Below W0.heap.size W0 w
 lt : W0.heap.size < w.heap.size
 box : w.heap[W0.heap.size]? = some (.cells #[.slice a T.length c] 44 (0, 0))
 tr : TreeAt B w a T
theorem RZ.new {B : Nat} {T : List NodeD} {a : Option Addr} {c : Nat} {W0 w w' : World} (h : RZ B T a c W0 w) (hB : B ≤ W0.heap.size) (hb : Below w.heap.size w w') : RZ B T a c W0 w' :=
 ⟨h.bl.trans (hb.mono h.bl.size), Nat.lt_of_lt_of_le h.lt hb.size, (hb.block _ h.lt).trans h.box, h.tr.below (hb.mono (Nat.le_trans hB h.bl.size))⟩
theorem mrres_any (B : Nat) (T : List NodeD) (hok : OkT' T) (hlen : T.length ≤ 262144) (a : Option Addr) (c : Nat) : ∀ f, f ≤ 7 → RResC B T a c f
 | 0, _ => fun x hx => by omega
 | f + 1, hf7 => by
  have IH := hQ (mrres_any B T hok hlen a c f (by omega))
  intro x hlev hx w hB hT
  obtain ⟨i0, hi0, hz0, hz1, hz2⟩ := info_parts infoI
  have hum := um_ok hok hx
  obtain ⟨hn, hTn⟩ := leaves_isN (ok_leaves hok (by omega))
  have h15 : T.length ≤ 15 := by rcases hn with h | h | h | h <;> omega
  have hb1 := (Below.refl w.heap.size w).alloc (Nat.le_refl _) (.cells #[.slice a T.length c] 44)
  have hrow := rAl (w := w) #[.slice a T.length c] 44 (0, 0)
  have hz1' : RZ B T a c w (w.alloc (.cells #[.slice a T.length c] 44)) := ⟨hb1, by simp, hrow, hT.below (hb1.mono hB)⟩
  obtain ⟨b, o, rfl, hnode⟩ := hT x hx
  obtain ⟨ua, uc, k3, hnum⟩ := hnode.c3
  have k0 := hnode.c0
  have k1 := hnode.c1
  have k2 := hnode.c2
  have hbl : b < w.heap.size := Nat.lt_of_lt_of_le hnode.lt hB
  have hdef : resD T (f + 1) x = if (nodeD T x).pub ≠ 0 then x :: um2 (nodeD T x) else if x % 2 = 1 then resD T f (lefX x) ++ resD T f (rigX x) else [] := rfl
  have hxI : (x : Int) < T.length := by omega
  have h15I : (T.length : Int) ≤ 15 := by omega
  have hkids := fun ho => kid hn (by omega : x < 2 * lvD T.length - 1) ho
  have hrl := fun y hy => res_len hok f y hy
  have hp2 : 2 ^ f ≤ 2 ^ 6 := Nat.pow_le_pow_right (by decide) (by omega)
  have hz2' := hz1'.new hB ((Below.refl _ _).alloc (Nat.le_refl _) (.cells #[.int .i64 (nodeD T x).pub, .int .i64 (nodeD T x).mem, .int .i64 (nodeD T x).ep, .slice ua (nodeD T x).um.length uc] 125))
  have hnum2 := hnum.below ((hb1.alloc (by simp) (.cells #[.int .i64 (nodeD T x).pub, .int .i64 (nodeD T x).mem, .int .i64 (nodeD T x).ep, .slice ua (nodeD T x).um.length uc] 125)).mono hB)
  have Hnum2 := hQ hnum2
  have HZ := hQ hz2'
  have Hdef := hQ hdef
  have Hum := hQ hum
  have HB := hQ hB
  have Hkids := hQ hkids
  have Hrl := hQ hrl
  have H15 := hQ h15
  have Hx := hQ hx
  have Hlev := hQ hlev
  have Hp2 := hQ hp2
  have Hkl := hQ (show T.length = 2 * lvD T.length - 1 by omega)
  clear hdef hT hlev hum hB hkids hrl hb1 hrow hnum hnum2 hz2' hz1' hnode hn hTn hok hlen h15 hx hf7 hp2
  by_cases hp : (nodeD T x).pub ≠ 0
  · have hres : resD T (f + 1) x = x :: (nodeD T x).um.map (fun u => (2 * u).toNat) := by rw [Hdef.out, if_pos hp]; rfl
    have hp0 : ((nodeD T x).pub == 0) = false := beq_eq_false_iff_ne.2 hp
    have Hres := hQ hres
    have Hu := hQ Hum.out.2
    clear hres Hdef Hum hp
    generalize (nodeD T x).um = us at k3 Hres Hu Hnum2 HZ
    generalize (nodeD T x).pub = p at k0 hp0 Hnum2 HZ
    generalize (nodeD T x).mem = m at k1 Hnum2 HZ
    generalize (nodeD T x).ep = ee at k2 Hnum2 HZ
    have husl : us.length ≤ 8 := Hu.out.1
    have husI : (us.length : Int) ≤ 8 := by omega
    have hp00 : (p != 0) = true := by simp [bne, hp0]
    have hnd := rAl (w := w.alloc (.cells #[.slice (some ⟨b, o, none⟩) T.length c] 44)) #[.int .i64 p, .int .i64 m, .int .i64 ee, .slice ua us.length uc] 125 (0, 0)
    have Hnd := hQ hnd; clear hnd
    go_enter Tryz.func208, Tryz.ntmps208
    go_wp2
    have Hin0 := hQ (show ResIn ((w.alloc (.cells #[.slice (some ⟨b, o, none⟩) T.length c] 44)).alloc (.cells #[.int .i64 p, .int .i64 m, .int .i64 ee, .slice ua us.length uc] 125)) (.slice none 0 0) (.slice (some ⟨((w.alloc (.cells #[.slice (some ⟨b, o, none⟩) T.length c] 44)).alloc (.cells #[.int .i64 p, .int .i64 m, .int .i64 ee, .slice ua us.length uc] 125)).heap.size, 0, none⟩) 1 1) [x] (((w.alloc (.cells #[.slice (some ⟨b, o, none⟩) T.length c] 44)).alloc (.cells #[.int .i64 p, .int .i64 m, .int .i64 ee, .slice ua us.length uc] 125)).alloc (.cells #[.int .i64 x] 3)) from ⟨ownI_one _ (x : Int), fun g hg => .inr (Nat.le_of_eq (by simpa [Value.ownBlock] using hg)), (Turned.refl _ _).alloc _⟩)
    generalize hW2 : (w.alloc (.cells #[.slice (some ⟨b, o, none⟩) T.length c] 44)).alloc (.cells #[.int .i64 p, .int .i64 m, .int .i64 ee, .slice ua us.length uc] 125) = W2 at *
    have hW2s : W2.heap.size = w.heap.size + 2 := by rw [← hW2]; simp
    have hnil : ∀ k, (Value.slice none 0 0).ownBlock = some k → False := fun k h => by simp [Value.ownBlock] at h
    have hnd2 : W2.heap[w.heap.size + 1]? = some (.cells #[.int .i64 p, .int .i64 m, .int .i64 ee, .slice ua us.length uc] 125 (0, 0)) := by simpa using Hnd.out
    have hnumr : ∀ (v' : Value) (l : List Nat) (wr : World), ResIn W2 (.slice none 0 0) v' l wr → NumsAt B wr ua us ∧ wr.cell? ⟨w.heap.size + 1, 3, none⟩ = some (.slice ua us.length uc) ∧ Below w.heap.size w wr := fun v' l wr h => by
     refine ⟨Hnum2.out.below (h.tur.below (by have := HB.out; omega) (fun k e => (hnil k e).elim)), ?_, HZ.out.bl.trans (h.tur.below (by omega) (fun k e => (hnil k e).elim))⟩
     exact (cRw ((h.tur.block (w.heap.size + 1) (by omega) (fun e => hnil _ e)).trans hnd2) 3).trans rfl
    have Hnumr := hQ hnumr
    have HW2s := hQ hW2s
    clear hW2 hW2s hnil hnumr hnd2 Hnd HZ Hnum2 k0 k1 k2 k3
    rw [HW2s.out] at Hin0
    go_loopw [6, 7] (fun v' i wr => RRsRel W2 x us v' i wr) (fun _ i _ => us.length - (intOf i).toNat)
    case atStart => exact ⟨0, Nat.zero_le _, rfl, by rw [List.take_zero]; exact Hin0.out⟩
    case round =>
     obtain ⟨k, hk, rfl, hin⟩ := hrel
     obtain ⟨hnm, k3, hbw⟩ := Hnumr.out _ _ _ hin
     obtain ⟨oa, oc, rfl⟩ := hin.len
     have Hin := hQ hin
     have Hbw := hQ hbw
     clear hbw
     by_cases hkl : k < us.length
     · obtain ⟨ub, uo, rfl, hub, ku⟩ := hnm k hkl
       have hmem : us.getD k 0 ∈ us := by rw [List.getD_eq_getElem?_getD, List.getElem?_eq_getElem hkl]; exact List.getElem_mem _
       have hu2 := Hu.out.2 _ hmem
       have htk : us.take (k + 1) = us.take k ++ [us.getD k 0] := by rw [List.take_add_one, List.getD_eq_getElem?_getD, List.getElem?_eq_getElem hkl]; rfl
       generalize us.getD k 0 = u at ku hu2 htk
       obtain ⟨y, rfl⟩ : ∃ y : Nat, u = y := ⟨u.toNat, by omega⟩
       have hkI : (k : Int) < us.length := by omega
       have hyI : (y : Int) ≤ 15 := by have := H15.out; omega
       have hyy : 2 * (y : Int) = ((2 * y : Nat) : Int) := by omega
       have hll : (x :: (us.take k).map (fun u => (2 * u).toNat)).length ≤ 9 := by
        rw [List.length_cons, List.length_map, List.length_take]; omega
       have hnew : x :: (us.take (k + 1)).map (fun u => (2 * u).toNat) = (x :: (us.take k).map (fun u => (2 * u).toNat)) ++ [2 * y] := by
        rw [htk, List.map_append]
        rfl
       have Hnew := hQ hnew
       have Hll := hQ hll
       have Hyy := hQ hyy
       clear htk hnew hll hmem hin hnm hyy hu2
       generalize x :: (us.take k).map (fun u => (2 * u).toNat) = lst at Hin Hnew Hll ⊢
       go_wp2_with (at_builtin; refine wpList_append_lies _ rfl (.tmp 29) (.tmp 36) 27 rfl 0 3 i0 (.int .i64 0) 1 8 Tryz.underlying27 hi0 hz0 hz1 hz2 rfl (by decide) (.slice oa lst.length oc) lst.length ((natI lst).map intV) rfl (World.ownsRow.alloc Hin.out.own _) ⟨wr.heap.size, 0, none⟩ 1 1 [intV (2 * (y : Int))] rfl rfl (cell_one_new _ _ _) (by intro u hu; simp [intV] at hu; rw [hu]; rfl) (by omega) (by have := Hll.out; unfold maxLen; omega) (by have := Hll.out; omega) (Nat.zero_le _) (wr.heap.size + 1) (by simp) ?_; intro g2 c2 w6 hown2 hgrow2 hat2 hlt2; have HN2 := hQ (Hin.out.more (y := 2 * y) (by rw [← Hyy.out]; exact hown2) (by rw [← Hyy.out]; exact hgrow2) hat2); clear hown2 hgrow2 hat2 hlt2)
       exact ⟨⟨k + 1, by omega, by go_num, by rw [Hnew.out]; exact HN2.out⟩, by simp [intOf]; omega⟩
     · obtain rfl : k = us.length := by omega
       have hkI : ¬ (us.length : Int) < us.length := by omega
       have hl : x :: (us.take us.length).map (fun u => (2 * u).toNat) = resD T (f + 1) x := by rw [Hres.out, List.take_length]
       clear hin hnm
       generalize x :: (us.take us.length).map (fun u => (2 * u).toNat) = lst at Hin hl ⊢
       generalize lst.length = nn at Hin ⊢
       subst hl
       go_wp2
       go_ret
       exact ⟨_, rfl, Hin.out.ownI, fun g hg => (Hin.out.blk g hg).elim (fun h => by simp [Value.ownBlock] at h) (fun h => by have := HW2s.out; omega), Hbw.out⟩
  · have hp0 : (nodeD T x).pub = 0 := by omega
    have hdef2 := Hdef.out
    rw [if_neg (by omega)] at hdef2
    rw [hp0] at k0 HZ
    have Hdef2 := hQ hdef2
    have hx15 : x < 15 := by have := H15.out; have := Hx.out; omega
    have Hx15 := hQ hx15
    clear hp hp0 Hum Hdef Hnum2 hx15 hdef2
    generalize (nodeD T x).um = us at k3 HZ
    generalize (nodeD T x).mem = m at k1 HZ
    generalize (nodeD T x).ep = ee at k2 HZ
    by_cases ho : x % 2 = 1
    · have hev : (x : Int) % 2 = 1 := by omega
      have hk := Hkids.out ho
      obtain ⟨hk1, hk2, hk3, hk4⟩ := hk
      have hkl1 : lefX x < T.length := by have := Hkl.out; omega
      have hkr1 : rigX x < T.length := by have := Hkl.out; omega
      have hl1 := Hrl.out (lefX x) hkl1
      have hl2 := Hrl.out (rigX x) hkr1
      have hres : resD T (f + 1) x = resD T f (lefX x) ++ resD T f (rigX x) := by rw [Hdef2.out, if_pos ho]
      have IHl := hQ (IH.out (lefX x) (by have := Hlev.out; omega) hkl1)
      have IHr := hQ (IH.out (rigX x) (by have := Hlev.out; omega) hkr1)
      have hll : (natI (resD T f (lefX x))).length + (natI (resD T f (rigX x))).length ≤ 100000 := by rw [nIl, nIl]; have := Hp2.out; omega
      have hap : natI (resD T (f + 1) x) = natI (resD T f (lefX x)) ++ natI (resD T f (rigX x)) := by rw [hres]; simp [natI]
      have hlr := lr_ne x Hx15.out ho
      have hlft := mrleft_odd x Hx15.out ho
      have hrgt := mrright_odd x Hx15.out ho
      generalize natI (resD T (f + 1) x) = lz at hap ⊢
      generalize natI (resD T f (lefX x)) = la at IHl hll hap
      generalize natI (resD T f (rigX x)) = lb at IHr hll hap
      generalize lefX x = lx at IHl hlft hlr
      generalize rigX x = rx at IHr hrgt hlr
      have Hap := hQ hap
      have Hll := hQ hll
      have Hlft := hQ hlft
      have Hrgt := hQ hrgt
      have IHb := hQ (show ∀ y, y = lx ∨ y = rx → ∀ (w : World), B ≤ w.heap.size → TreeAt B w (some ⟨b, o, none⟩) T → Calls Tryz.prog 208 #[.agg #[.slice (some ⟨b, o, none⟩) T.length c], .int .i64 y] w fun e w' => ∃ v, e = .returned v ∧ (y = lx → OwnI v la w') ∧ (y = rx → OwnI v lb w') ∧ (∀ g, v.ownBlock = some g → w.heap.size ≤ g) ∧ Below w.heap.size w w' from fun y hy w h1 h2 => by
       rcases hy with rfl | rfl
       · exact (IHl.out w h1 h2).mono (by rintro e w' ⟨v, h3, h4, h5, h6⟩; exact ⟨v, h3, fun _ => h4, fun h => absurd h hlr, h5, h6⟩)
       · exact (IHr.out w h1 h2).mono (by rintro e w' ⟨v, h3, h4, h5, h6⟩; exact ⟨v, h3, fun h => absurd h.symm hlr, fun _ => h4, h5, h6⟩))
      clear hlr IHl IHr hk1 hk2 hk3 hk4 hkl1 hkr1 hl1 hl2 hres hap hll hlft hrgt ho Hdef2 Hrl Hkids IH
      go_enter Tryz.func208, Tryz.ntmps208
      go_wp2_with fail
      refine (Hlft.out _).mono ?_
      rintro r wx ⟨rfl, hwx⟩
      subst wx
      go_wp2_with fail
      refine (Hrgt.out _).mono ?_
      rintro r wx ⟨rfl, hwx⟩
      subst wx
      go_wp2_with fail
      generalize hW2 : (w.alloc (.cells #[.slice (some ⟨b, o, none⟩) T.length c] 44)).alloc (.cells #[.int .i64 0, .int .i64 m, .int .i64 ee, .slice ua us.length uc] 125) = W2 at *
      have kb := (cRw HZ.out.box 0).trans rfl
      clear hW2 k0 k1 k2 k3
      have HZ := hQ (HZ.out.new HB.out (show Below W2.heap.size W2 W2.drew from ⟨rfl, rfl, rfl, Nat.le_refl _, fun _ _ => rfl⟩))
      go_region_law (first
       | (go_simp; go_at_call 208; refine (IHb.out _ ?hy _ (Nat.le_trans HB.out HZ.out.bl.size) HZ.out.tr).mono ?_; (case hy => first | exact Or.inl rfl | exact Or.inr rfl); rintro e w3 ⟨vl, rfl, ho1, ho2, hgl, hbw⟩; (first
        | (have hol := ho1 rfl; have HL := hQ hol; have HGl := hQ (show ∀ g, vl.ownBlock = some g → w.heap.size ≤ g from fun g hg => Nat.le_trans HZ.out.bl.size (hgl g hg)); (try (have HR := hQ (ownI_below HR.out hbw))))
        | (have hol := ho2 rfl; have HR := hQ hol; (try (have HL := hQ (ownI_below HL.out hbw))))); have HZ := hQ (HZ.out.new HB.out hbw); have kb : w3.cell? ⟨w.heap.size, 0, none⟩ = some (.slice (some ⟨b, o, none⟩) T.length c) := (cRw HZ.out.box 0).trans rfl; clear hol hgl hbw ho1 ho2)
       | (go_loud (refine step_append_ints rfl (.tmp 54) (.tmp 57) rfl rfl HL.out HR.out (by simp [Act.eval, Act.put]) (by simp [Act.eval, Act.put]) Hll.out ?_); intro v9 w9 hown9 hgrow9 hat9; have HF := hQ (show OwnI v9 lz w9 ∧ (∀ g, v9.ownBlock = some g → w.heap.size ≤ g) ∧ Below w.heap.size w w9 from ⟨by rw [Hap.out]; exact hown9, fun g hg => hat9.elim (fun e => HGl.out g (e.symm.trans hg)) (fun e => by obtain rfl := Option.some.inj (e.symm.trans hg); exact HZ.out.bl.size), ((Turned.new (fun _ => False) HZ.out.bl).grown hgrow9 (fun k hk e => absurd (HGl.out k e) (Nat.not_le_of_lt hk))).below (Nat.le_refl _) (fun _ h => h.elim)⟩); clear hown9 hgrow9 hat9))
      all_goals
       go_wp2
       go_ret
       exact ⟨_, rfl, HF.out.1, HF.out.2.1, HF.out.2.2⟩
    · have hres : resD T (f + 1) x = [] := by rw [Hdef2.out, if_neg ho]
      have Hres := hQ hres
      have hev : (x : Int) % 2 = 0 := by omega
      clear hres ho Hdef2
      go_enter Tryz.func208, Tryz.ntmps208
      go_wp2
      go_ret
      exact ⟨_, rfl, by rw [Hres.out]; exact ownI_nil _, fun g hg => by simp [Value.ownBlock] at hg, HZ.out.bl⟩
end
end Go.Proofs.YtedpljclnpiggaaGreatDoor
