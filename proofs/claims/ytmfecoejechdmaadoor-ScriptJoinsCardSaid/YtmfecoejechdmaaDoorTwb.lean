/-
  Beyond of one number, TwinSteps and LeftSteps.
-/
import Derived.Test.YtmfecoejechdmaaDoorTw
import Derived.Test.YtmfecoejechdmaaDoorMem
namespace Go.Proofs.YtmfecoejechdmaaDoor
open Go.RowKit

set_option maxHeartbeats 400000 in
theorem beyond_one (b : Nat) (n : Nat) (w : World) (hc : w.cell? ⟨b, 0, none⟩ = some (.int .i64 n)) (hn : n ≤ 262144) :
    Calls Tryd.prog 6 #[.slice (some ⟨b, 0, none⟩) 1 1] w fun e w' => e = .returned (.bool false) ∧ w = w' := by
  have h2 : (n : Int) ≤ 262144 := by omega
  go_enter Tryd.func6, Tryd.ntmps6
  go_wp2
  refine wp_loop_rounds 2 ?_
  rw [rounds_succ]
  go_wp2
  rw [rounds_succ]
  go_wp2
  go_ret
  exact ⟨rfl, rfl⟩

set_option maxHeartbeats 400000 in
theorem beyond_yes (b : Nat) (n : Nat) (w : World) (hc : w.cell? ⟨b, 0, none⟩ = some (.int .i64 n)) (hn : 262144 < n) (hm : n ≤ 9223372036854775807) :
    Calls Tryd.prog 6 #[.slice (some ⟨b, 0, none⟩) 1 1] w fun e w' => e = .returned (.bool true) ∧ w = w' := by
  have h2 : 262144 < (n : Int) := by omega
  go_enter Tryd.func6, Tryd.ntmps6
  go_wp2
  refine wp_loop_rounds 1 ?_
  rw [rounds_succ]
  go_wp2
  go_ret
  exact ⟨rfl, rfl⟩

/-- What a twin has: the steps, two marks behind. -/
def TwinAt (w : World) (b : Nat) (n : Nat) (f : Nat → StepD) : Prop :=
  (∀ i, i < n → StepAt w b (i * 5) (f i)) ∧ StepAt w b (n * 5) (mark n) ∧ StepAt w b ((n + 1) * 5) (mark (n + 1 : Nat))

theorem StepAt.lt {w : World} {b o : Nat} {s : StepD} (h : StepAt w b o s) : b < w.heap.size := World.block_lt_of_cell? w _ h.1
theorem StepAt.below {B : Nat} {w w' : World} {b o : Nat} {s : StepD} (h : StepAt w b o s) (hb : Below B w w') (hB : b < B) : StepAt w' b o s := by
  obtain ⟨h0, h1, h2, h3, h4⟩ := h
  exact ⟨(hb.cell hB).trans h0, (hb.cell hB).trans h1, (hb.cell hB).trans h2, (hb.cell hB).trans h3, (hb.cell hB).trans h4⟩
theorem Steps.below {B : Nat} {w w' : World} {a : Option Addr} {n : Nat} {f : Nat → StepD} (h : Steps w a n f) (hb : Below B w w') (hB : w.heap.size ≤ B) : Steps w' a n f := fun i hi => by
  obtain ⟨b, o, e, hs⟩ := h i hi
  exact ⟨b, o, e, hs.below hb (Nat.lt_of_lt_of_le hs.lt hB)⟩
theorem TwinAt.below {B : Nat} {w w' : World} {b n : Nat} {f : Nat → StepD} (h : TwinAt w b n f) (hb : Below B w w') (hB : b < B) : TwinAt w' b n f :=
  ⟨fun i hi => (h.1 i hi).below hb hB, h.2.1.below hb hB, h.2.2.below hb hB⟩

def LeftRel (n : Nat) (w : World) (i : Value) (wr : World) : Prop := ∃ k : Nat, n ≤ k ∧ k ≤ n + 2 ∧ i = .int .i64 k ∧ Below w.heap.size w wr

set_option maxHeartbeats 400000 in
theorem leftSteps_any (b : Nat) (a' : Option Addr) (n c' : Nat) (f : Nat → StepD) (hn : n ≤ 262144) (w : World) (ht : TwinAt w b n f) (hg : Steps w a' n f) :
    Calls Tryd.prog 10 #[.slice (some ⟨b, 0, none⟩) n (n + 2), .slice a' n c'] w fun e w' => e = .returned (.bool true) ∧ Below w.heap.size w w' := by
  have hbl : b < w.heap.size := ht.2.1.lt
  have Ht := Lib.hid ht; clear ht
  have Hg := Lib.hid hg; clear hg
  go_enter Tryd.func10, Tryd.ntmps10
  go_wp2
  go_loopw [6] (fun i wr => LeftRel n w i wr) (fun i _ => n + 2 - (intOf i).toNat)
  case atStart => exact ⟨n, Nat.le_refl _, by omega, rfl, Below.refl _ _⟩
  case round =>
    obtain ⟨k, hk0, hk1, rfl, hb⟩ := hrel
    by_cases hlt : k < n + 2
    · have hs : StepAt wr b (k * 5) (mark k) := by
        have h := Ht.out
        rcases Nat.lt_or_ge n k with h' | h'
        · obtain rfl : k = n + 1 := by omega
          exact h.2.2.below hb hbl
        · obtain rfl : k = n := by omega
          exact h.2.1.below hb hbl
      have Hb := Lib.hid hb; clear hb
      obtain ⟨a0, a1, a2, a3, a4⟩ := hs
      go_wp2_with (go_at_call 21; refine (isStep_any (mark k) k (by omega) (by omega) _).mono ?_; rintro e w1 ⟨rfl, hb1⟩)
      exact ⟨⟨k + 1, by omega, by omega, by go_num, Hb.out.trans (hb1.mono Hb.out.size)⟩, by simp [intOf]; omega⟩
    · have hs : ∀ i, i < n → StepAt wr b (i * 5) (f i) := fun i hi => (Ht.out.1 i hi).below hb hbl
      have hs' : Steps wr (some ⟨b, 0, none⟩) n f := fun i hi => ⟨b, 0, rfl, by rw [Nat.zero_add]; exact hs i hi⟩
      have hs2 : Steps wr a' n f := Hg.out.below hb (Nat.le_refl _)
      have Hb := Lib.hid hb; clear hb hs
      have Hs' := Lib.hid hs'; clear hs'
      have Hs2 := Lib.hid hs2; clear hs2
      go_wp2_with (go_at_call 13; refine (same_walk _ a' n _ _ f f (by omega) _ Hs'.out Hs2.out).mono ?_; rintro e w1 ⟨rfl, hb1⟩)
      obtain ⟨d, rfl⟩ := hb1
      go_wp2
      go_ret
      exact ⟨by rw [show sameB f f n = true from decide_eq_true (fun _ _ => rfl)]; rfl, below_drewN Hb.out _⟩
theorem info38 : (Tryd.prog.info? 38).map (fun i => (i.zero, i.size, i.bytes)) = some (some (.agg #[.int .u8 0, .int .i64 0, .int .i64 0, .int .i64 0, .int .i64 0]), 5, 40) := by kernel_rfl

def zeroCells (m : Nat) : Array Value := madeCells #[.int .u8 0, .int .i64 0, .int .i64 0, .int .i64 0, .int .i64 0] m

theorem run_make_steps (n : Nat) (hn : n ≤ 262144) (w : World) :
    (Instr.makeSlice 22 (.int .i64 n) (.int .i64 (n + 2))).run Tryd.prog w = .ok (.slice (some ⟨w.heap.size, 0, none⟩) n (n + 2)) (w.alloc (.cells (zeroCells ((n + 2) * 5)) 38)) := by
  obtain ⟨i0, hi, hz0, hz1, hz2⟩ := info_parts info38
  have h := run_make (P := Tryd.prog) w 22 38 i0 _ Tryd.underlying22 hi hz0 .i64 .i64 n (n + 2) (by omega) (by omega) (by rw [hz2]; omega) (by omega)
  rw [hz1] at h
  exact h

def StepD.vals (s : StepD) : List Value := [.int .u8 s.kind, .int .i64 s.node, .int .i64 s.a, .int .i64 s.b, .int .i64 s.l]

/-- The same of an array of cells. -/
def ArrStep (c : Array Value) (o : Nat) (s : StepD) : Prop :=
  c[o]? = some (.int .u8 s.kind) ∧ c[o + 1]? = some (.int .i64 s.node) ∧ c[o + 2]? = some (.int .i64 s.a) ∧ c[o + 3]? = some (.int .i64 s.b) ∧ c[o + 4]? = some (.int .i64 s.l)

theorem ArrStep.at {w : World} {g : Nat} {c : Array Value} {e : TypeId} {fz : Nat × Nat} {o : Nat} {s : StepD} (h : ArrStep c o s) (hg : w.heap[g]? = some (.cells c e fz)) : StepAt w g o s := by
  obtain ⟨h0, h1, h2, h3, h4⟩ := h
  exact ⟨by rw [cell_row hg, h0], by rw [cell_row hg, h1], by rw [cell_row hg, h2], by rw [cell_row hg, h3], by rw [cell_row hg, h4]⟩

/-- Five cells written. -/
def put5 (c : Array Value) (o : Nat) (s : StepD) : Array Value :=
  ((((c.setIfInBounds o (.int .u8 s.kind)).setIfInBounds (o + 1) (.int .i64 s.node)).setIfInBounds (o + 2) (.int .i64 s.a)).setIfInBounds (o + 3) (.int .i64 s.b)).setIfInBounds (o + 4) (.int .i64 s.l)

theorem put5_size (c : Array Value) (o : Nat) (s : StepD) : (put5 c o s).size = c.size := by simp [put5]
theorem put5_same {c : Array Value} {o : Nat} (s : StepD) (h : o + 5 ≤ c.size) : ArrStep (put5 c o s) o s := by
  unfold ArrStep put5
  simp only [Array.getElem?_setIfInBounds]
  refine ⟨?_, ?_, ?_, ?_, ?_⟩ <;> simp <;> omega
theorem put5_other {c : Array Value} {o m : Nat} {s t : StepD} (h : ArrStep c m t) (ho : m + 5 ≤ o ∨ o + 5 ≤ m) : ArrStep (put5 c o s) m t := by
  obtain ⟨h0, h1, h2, h3, h4⟩ := h
  unfold ArrStep put5
  simp only [Array.getElem?_setIfInBounds]
  refine ⟨?_, ?_, ?_, ?_, ?_⟩
  all_goals
    rw [if_neg (by omega), if_neg (by omega), if_neg (by omega), if_neg (by omega), if_neg (by omega)]
    assumption

theorem add_plain (b o j : Nat) : (⟨b, o, none⟩ : Addr).add j = ⟨b, o + j, none⟩ := by unfold Addr.add; split <;> simp_all

/-- What a copy of n steps lays. -/
theorem splice_steps (c : Array Value) (f : Nat → StepD) (n : Nat) (i : Nat) (hi : i < n) : ArrStep (splice c.toList 0 ((List.range n).flatMap fun i => (f i).vals)).toArray (i * 5) (f i) := by
  have hl := flat_len (fun i => (f i).vals) 5 (fun _ => rfl) n
  have h : ∀ j, j < 5 → (splice c.toList 0 ((List.range n).flatMap fun i => (f i).vals)).toArray[i * 5 + j]? = (f i).vals[j]? := by
    intro j hj
    have hm : (i + 1) * 5 ≤ n * 5 := Nat.mul_le_mul_right 5 hi
    rw [List.getElem?_toArray]
    unfold splice
    rw [List.take_zero, List.nil_append, List.getElem?_append_left (by rw [hl]; omega)]
    exact flat_get (fun i => (f i).vals) 5 (fun _ => rfl) n i j hi hj
  exact ⟨h 0 (by omega), h 1 (by omega), h 2 (by omega), h 3 (by omega), h 4 (by omega)⟩

def twD (n : Nat) (f : Nat → StepD) (m : Nat) : StepD := if m < n then f m else mark m

def TwRel (n : Nat) (f : Nat → StepD) (w : World) (i : Value) (wr : World) : Prop :=
  ∃ (k : Nat) (cur : Array Value), n ≤ k ∧ k ≤ n + 2 ∧ i = .int .i64 k ∧ wr.heap[w.heap.size]? = some (.cells cur 38 (0, 0)) ∧ cur.size = (n + 2) * 5 ∧
    (∀ m, m < k → ArrStep cur (m * 5) (twD n f m)) ∧ Below w.heap.size w wr

theorem twRel_step {n k : Nat} {f : Nat → StepD} {w wr w1 : World} {cur : Array Value} (hk0 : n ≤ k) (hlt : k < n + 2) (hrow : w1.heap[w.heap.size]? = some (.cells cur 38 (0, 0))) (hcur : cur.size = (n + 2) * 5)
    (hall : ∀ m, m < k → ArrStep cur (m * 5) (twD n f m)) (hb : Below w.heap.size w wr) (hb1 : Below wr.heap.size wr w1) :
    TwRel n f w (.int .i64 (k + 1)) (((((w1.setCell ⟨w.heap.size, k * 5, none⟩ (.int .u8 (mark k).kind)).setCell ⟨w.heap.size, k * 5 + 1, none⟩ (.int .i64 (mark k).node)).setCell ⟨w.heap.size, k * 5 + 2, none⟩ (.int .i64 (mark k).a)).setCell
      ⟨w.heap.size, k * 5 + 3, none⟩ (.int .i64 (mark k).b)).setCell ⟨w.heap.size, k * 5 + 4, none⟩ (.int .i64 (mark k).l)) := by
  refine ⟨k + 1, put5 cur (k * 5) (mark k), by omega, by omega, rfl, row_setCell (row_setCell (row_setCell (row_setCell (row_setCell hrow _ _) _ _) _ _) _ _) _ _, by rw [put5_size, hcur], ?_, ?_⟩
  · intro m hm
    by_cases h : m = k
    · subst h
      rw [show twD n f m = mark m from if_neg (by omega)]
      exact put5_same _ (by rw [hcur]; omega)
    · exact put5_other (hall m (by omega)) (by omega)
  · have h := hb.trans (hb1.mono hb.size)
    exact ((((h.setCell (Nat.le_refl _) _).setCell (Nat.le_refl _) _).setCell (Nat.le_refl _) _).setCell (Nat.le_refl _) _).setCell (Nat.le_refl _) _

set_option maxRecDepth 100000 in
set_option maxHeartbeats 400000 in
theorem twinSteps_any (a : Option Addr) (n c : Nat) (f : Nat → StepD) (hn : n ≤ 262144) (w : World) (hg : Steps w a n f) (hnil : a = none → n = 0) :
    Calls Tryd.prog 7 #[.slice a n c] w fun e w' => e = .returned (.slice (some ⟨w.heap.size, 0, none⟩) n (n + 2)) ∧ TwinAt w' w.heap.size n f ∧ w.heap.size < w'.heap.size ∧ Below w.heap.size w w' := by
  obtain ⟨i0, hi, hz0, hz1, hz2⟩ := info_parts info38
  have hmk := run_make_steps n hn w
  obtain ⟨cs, hcs⟩ : ∃ cs, cs = (List.range n).flatMap fun i => (f i).vals := ⟨_, rfl⟩
  have hl : cs.length = n * 5 := by rw [hcs]; exact flat_len (fun i => (f i).vals) 5 (fun _ => rfl) n
  obtain ⟨z, hz⟩ : ∃ z, z = zeroCells ((n + 2) * 5) := ⟨_, rfl⟩
  have hzs : z.size = (n + 2) * 5 := by rw [hz]; simp [zeroCells, madeCells]
  have Hsrc : Hid (∀ a', a = some a' → ∀ j v, cs[j]? = some v → (w.alloc (.cells z 38)).cell? (a'.add j) = some v) := by
    refine Lib.hid ?_
    intro a' ha j v hj
    have hj5 : j < n * 5 := by rw [← hl]; exact (List.getElem?_eq_some_iff.1 hj).1
    have hi5 : j / 5 < n := by omega
    obtain ⟨b, o, e, h0, h1, h2, h3, h4⟩ := hg (j / 5) hi5
    obtain rfl : a' = ⟨b, o, none⟩ := Option.some.inj (ha.symm.trans e)
    rw [add_plain]
    have hb : b < w.heap.size := World.block_lt_of_cell? w _ h0
    have hf := flat_get (fun i => (f i).vals) 5 (fun _ => rfl) n (j / 5) (j % 5) hi5 (by omega)
    rw [show j / 5 * 5 + j % 5 = j by omega, ← hcs, hj] at hf
    rw [World.cell?_alloc_past _ _ _ hb, show o + j = o + j / 5 * 5 + j % 5 by omega]
    have h5 : j % 5 < 5 := by omega
    generalize j % 5 = r at hf h5
    match r, h5 with
    | 0, _ => rw [Nat.add_zero, h0, hf]; rfl
    | 1, _ => rw [h1, hf]; rfl
    | 2, _ => rw [h2, hf]; rfl
    | 3, _ => rw [h3, hf]; rfl
    | 4, _ => rw [h4, hf]; rfl
  have Hone : Hid (∀ v ∈ cs, v.oneCell' = true) := by
    refine Lib.hid ?_
    intro v hv
    rw [hcs] at hv
    obtain ⟨i, _, hv⟩ := List.mem_flatMap.1 hv
    simp only [StepD.vals, List.mem_cons, List.not_mem_nil, or_false] at hv
    rcases hv with rfl | rfl | rfl | rfl | rfl <;> rfl
  have Hlen : Hid (cs.length = Nat.min n n * 5) := Lib.hid (by rw [hl, show Nat.min n n = n from Nat.min_self n])
  have Hfit : Hid (0 + cs.length ≤ z.size) := Lib.hid (by rw [hl, hzs]; omega)
  rw [← hz] at hmk
  have Hrow : Hid ((w.alloc (.cells z 38)).heap[w.heap.size]? = some (.cells z 38 (0, 0))) := Lib.hid (row_alloc _ _ _)
  have Hcs := Lib.hid hcs; clear hcs
  have Hl := Lib.hid hl; clear hl
  have Hz := Lib.hid hz; clear hz
  have Hzs := Lib.hid hzs; clear hzs
  have Hg := Lib.hid hg; clear hg
  go_enter Tryd.func7, Tryd.ntmps7
  go_wp2_with (with_reducible refine wpList_copy_any rfl (.tmp 12) (.tmp 13) 22 22 rfl 38 i0 5 Tryd.underlying22 hi hz1 w.heap.size 0 n (n + 2) a n c rfl rfl z 38 Hrow.out cs Hlen.out Hsrc.out hnil Hfit.out Hone.out ?_)
  have hB0 : Below w.heap.size w ((w.alloc (.cells z 38)).setRow w.heap.size (splice z.toList 0 cs).toArray) := below_setRow ((Below.refl _ _).alloc (Nat.le_refl _) _) (Nat.le_refl _) _
  have HB0 := Lib.hid hB0; clear hB0
  go_loopw [5] (fun i wr => TwRel n f w i wr) (fun i _ => n + 2 - (intOf i).toNat)
  case atStart =>
    refine ⟨n, (splice z.toList 0 cs).toArray, Nat.le_refl _, by omega, rfl, row_setRow Hrow.out, ?_, ?_, HB0.out⟩
    · have h := length_splice z.toList 0 cs (by have := Hfit.out; simpa using this)
      have h2 := Hzs.out
      simpa [h2] using h
    · intro m hm
      rw [Hcs.out, show twD n f m = f m from if_pos hm]
      exact splice_steps z f n m hm
  case round =>
    obtain ⟨k, cur, hk0, hk1, rfl, hrow, hcur, hall, hb⟩ := hrel
    have hsz := hb.size
    have hlt0 : w.heap.size < wr.heap.size := (Array.getElem?_eq_some_iff.1 hrow).1
    have Hall := Lib.hid hall; clear hall
    have Hb := Lib.hid hb; clear hb
    have Hrow := Lib.hid hrow; clear hrow
    have Hcur := Lib.hid hcur; clear hcur
    by_cases hlt : k < n + 2
    · go_wp2_with (go_at_call 14; refine (markStep_any k (by omega) (by omega) _).mono ?_; rintro e w1 ⟨rfl, hb1⟩; have Hb1 := Lib.hid hb1; clear hb1; refine Hid.out ?_)
      refine Lib.hid ?_
      have hrow1 : w1.heap[w.heap.size]? = some (.cells cur 38 (0, 0)) := (Hb1.out.block _ hlt0).trans Hrow.out
      have hc : ∀ j, j < 5 → ∃ v, w1.cell? ⟨w.heap.size, k * 5 + j, none⟩ = some v := fun j hj => by
        rw [cell_row hrow1]
        exact ⟨_, Array.getElem?_eq_getElem (by rw [Hcur.out]; omega)⟩
      obtain ⟨v0, c0⟩ := hc 0 (by omega)
      obtain ⟨v1, c1⟩ := hc 1 (by omega)
      obtain ⟨v2, c2⟩ := hc 2 (by omega)
      obtain ⟨v3, c3⟩ := hc 3 (by omega)
      obtain ⟨v4, c4⟩ := hc 4 (by omega)
      rw [Nat.add_zero] at c0
      clear hc
      have f0 := free_row hrow1 (k * 5)
      have f1 := free_row hrow1 (k * 5 + 1)
      have f2 := free_row hrow1 (k * 5 + 2)
      have f3 := free_row hrow1 (k * 5 + 3)
      have f4 := free_row hrow1 (k * 5 + 4)
      have Hrow1 := Lib.hid hrow1; clear hrow1
      go_wp2
      exact ⟨twRel_step hk0 hlt Hrow1.out Hcur.out Hall.out Hb.out Hb1.out, by simp [intOf]; omega⟩
    · go_wp2
      go_ret
      refine ⟨rfl, ?_, hlt0, Hb.out⟩
      obtain rfl : k = n + 2 := by omega
      refine ⟨fun i hi => ?_, ?_, ?_⟩
      · have h := (Hall.out i (by omega)).at Hrow.out
        rwa [show twD n f i = f i from if_pos hi] at h
      · have h := (Hall.out n (by omega)).at Hrow.out
        rwa [show twD n f n = mark n from if_neg (by omega)] at h
      · have h := (Hall.out (n + 1) (by omega)).at Hrow.out
        rwa [show twD n f (n + 1) = mark (n + 1 : Nat) from if_neg (by omega)] at h
end Go.Proofs.YtmfecoejechdmaaDoor
