/-
  Steps in memory.
-/
import Derived.Test.YtbdcgdjhkcnekaaGreatDoorTw
import Derived.Test.YtbdcgdjhkcnekaaGreatDoorMem
namespace Go.Proofs.YtbdcgdjhkcnekaaGreatDoor
open Go.RowKit

/-- What a twin has: the steps, two marks behind. -/
def TwinAt (w : World) (b : Nat) (n : Nat) (f : Nat → StepD) : Prop :=
  (∀ i, i < n → StepAt w b (i * 5) (f i)) ∧ StepAt w b (n * 5) (mark n) ∧ StepAt w b ((n + 1) * 5) (mark (n + 1 : Nat))

theorem StepAt.lt {w : World} {b o : Nat} {s : StepD} (h : StepAt w b o s) : b < w.heap.size := World.block_lt_of_cell? w _ h.1
theorem StepAt.below {B : Nat} {w w' : World} {b o : Nat} {s : StepD} (h : StepAt w b o s) (hb : Below B w w') (hB : b < B) : StepAt w' b o s := by
  obtain ⟨h0, h1, h2, h3, h4⟩ := h
  exact ⟨(hb.cell hB).trans h0, (hb.cell hB).trans h1, (hb.cell hB).trans h2, (hb.cell hB).trans h3, (hb.cell hB).trans h4⟩
theorem Steps.below {B : Nat} {w w' : World} {a : Option Addr} {n : Nat} {f : Nat → StepD} (h : Steps w a n f) (hb : Below B w w') (hB : w.heap.size ≤ B) : Steps w' a n f := fun i hi => by
  obtain ⟨b, o, e, hs⟩ := h i hi
  exact ⟨b, o, e, hs.below hb (Nat.lt_of_lt_of_le hs.lt hB)⟩
theorem TwinAt.below {B : Nat} {w w' : World} {b n : Nat} {f : Nat → StepD} (h : TwinAt w b n f) (hb : Below B w w') (hB : b < B) : TwinAt w' b n f :=
  ⟨fun i hi => (h.1 i hi).below hb hB, h.2.1.below hb hB, h.2.2.below hb hB⟩

theorem info38 : (Tryz.prog.info? 72).map (fun i => (i.zero, i.size, i.bytes)) = some (some (.agg #[.int .u8 0, .int .i64 0, .int .i64 0, .int .i64 0, .int .i64 0]), 5, 40) := by kernel_rfl

def zeroCells (m : Nat) : Array Value := madeCells #[.int .u8 0, .int .i64 0, .int .i64 0, .int .i64 0, .int .i64 0] m

theorem run_make_steps (n : Nat) (hn : n ≤ 262144) (w : World) :
    (Instr.makeSlice 22 (.int .i64 n) (.int .i64 (n + 2))).run Tryz.prog w = .ok (.slice (some ⟨w.heap.size, 0, none⟩) n (n + 2)) (w.alloc (.cells (zeroCells ((n + 2) * 5)) 72)) := by
  obtain ⟨i0, hi, hz0, hz1, hz2⟩ := info_parts info38
  have h := run_make (P := Tryz.prog) w 22 72 i0 _ Tryz.underlying22 hi hz0 .i64 .i64 n (n + 2) (by omega) (by omega) (by rw [hz2]; omega) (by omega)
  rw [hz1] at h
  exact h

def StepD.vals (s : StepD) : List Value := [.int .u8 s.kind, .int .i64 s.node, .int .i64 s.a, .int .i64 s.b, .int .i64 s.l]

/-- The same of an array of cells. -/
def ArrStep (c : Array Value) (o : Nat) (s : StepD) : Prop :=
  c[o]? = some (.int .u8 s.kind) ∧ c[o + 1]? = some (.int .i64 s.node) ∧ c[o + 2]? = some (.int .i64 s.a) ∧ c[o + 3]? = some (.int .i64 s.b) ∧ c[o + 4]? = some (.int .i64 s.l)

theorem ArrStep.at {w : World} {g : Nat} {c : Array Value} {e : TypeId} {fz : Nat × Nat} {o : Nat} {s : StepD} (h : ArrStep c o s) (hg : w.heap[g]? = some (.cells c e fz)) : StepAt w g o s := by
  obtain ⟨h0, h1, h2, h3, h4⟩ := h
  exact ⟨by rw [cell_row hg, h0], by rw [cell_row hg, h1], by rw [cell_row hg, h2], by rw [cell_row hg, h3], by rw [cell_row hg, h4]⟩

/-- Five cells written. -/
def put5 (c : Array Value) (o : Nat) (s : StepD) : Array Value :=
  ((((c.setIfInBounds o (.int .u8 s.kind)).setIfInBounds (o + 1) (.int .i64 s.node)).setIfInBounds (o + 2) (.int .i64 s.a)).setIfInBounds (o + 3) (.int .i64 s.b)).setIfInBounds (o + 4) (.int .i64 s.l)

theorem put5_size (c : Array Value) (o : Nat) (s : StepD) : (put5 c o s).size = c.size := by simp [put5]
theorem put5_same {c : Array Value} {o : Nat} (s : StepD) (h : o + 5 ≤ c.size) : ArrStep (put5 c o s) o s := by
  unfold ArrStep put5
  simp only [Array.getElem?_setIfInBounds]
  refine ⟨?_, ?_, ?_, ?_, ?_⟩ <;> simp <;> omega
theorem put5_other {c : Array Value} {o m : Nat} {s t : StepD} (h : ArrStep c m t) (ho : m + 5 ≤ o ∨ o + 5 ≤ m) : ArrStep (put5 c o s) m t := by
  obtain ⟨h0, h1, h2, h3, h4⟩ := h
  unfold ArrStep put5
  simp only [Array.getElem?_setIfInBounds]
  refine ⟨?_, ?_, ?_, ?_, ?_⟩
  all_goals
    rw [if_neg (by omega), if_neg (by omega), if_neg (by omega), if_neg (by omega), if_neg (by omega)]
    assumption

theorem add_plain (b o j : Nat) : (⟨b, o, none⟩ : Addr).add j = ⟨b, o + j, none⟩ := by unfold Addr.add; split <;> simp_all

/-- What a copy of n steps lays. -/
theorem splice_steps (c : Array Value) (f : Nat → StepD) (n : Nat) (i : Nat) (hi : i < n) : ArrStep (splice c.toList 0 ((List.range n).flatMap fun i => (f i).vals)).toArray (i * 5) (f i) := by
  have hl := flat_len (fun i => (f i).vals) 5 (fun _ => rfl) n
  have h : ∀ j, j < 5 → (splice c.toList 0 ((List.range n).flatMap fun i => (f i).vals)).toArray[i * 5 + j]? = (f i).vals[j]? := by
    intro j hj
    have hm : (i + 1) * 5 ≤ n * 5 := Nat.mul_le_mul_right 5 hi
    rw [List.getElem?_toArray]
    unfold splice
    rw [List.take_zero, List.nil_append, List.getElem?_append_left (by rw [hl]; omega)]
    exact flat_get (fun i => (f i).vals) 5 (fun _ => rfl) n i j hi hj
  exact ⟨h 0 (by omega), h 1 (by omega), h 2 (by omega), h 3 (by omega), h 4 (by omega)⟩

def twD (n : Nat) (f : Nat → StepD) (m : Nat) : StepD := if m < n then f m else mark m

def TwRel (n : Nat) (f : Nat → StepD) (w : World) (i : Value) (wr : World) : Prop :=
  ∃ (k : Nat) (cur : Array Value), n ≤ k ∧ k ≤ n + 2 ∧ i = .int .i64 k ∧ wr.heap[w.heap.size]? = some (.cells cur 72 (0, 0)) ∧ cur.size = (n + 2) * 5 ∧
    (∀ m, m < k → ArrStep cur (m * 5) (twD n f m)) ∧ Below w.heap.size w wr

theorem twRel_step {n k : Nat} {f : Nat → StepD} {w wr w1 : World} {cur : Array Value} (hk0 : n ≤ k) (hlt : k < n + 2) (hrow : w1.heap[w.heap.size]? = some (.cells cur 72 (0, 0))) (hcur : cur.size = (n + 2) * 5)
    (hall : ∀ m, m < k → ArrStep cur (m * 5) (twD n f m)) (hb : Below w.heap.size w wr) (hb1 : Below wr.heap.size wr w1) :
    TwRel n f w (.int .i64 (k + 1)) (((((w1.setCell ⟨w.heap.size, k * 5, none⟩ (.int .u8 (mark k).kind)).setCell ⟨w.heap.size, k * 5 + 1, none⟩ (.int .i64 (mark k).node)).setCell ⟨w.heap.size, k * 5 + 2, none⟩ (.int .i64 (mark k).a)).setCell
      ⟨w.heap.size, k * 5 + 3, none⟩ (.int .i64 (mark k).b)).setCell ⟨w.heap.size, k * 5 + 4, none⟩ (.int .i64 (mark k).l)) := by
  refine ⟨k + 1, put5 cur (k * 5) (mark k), by omega, by omega, rfl, row_setCell (row_setCell (row_setCell (row_setCell (row_setCell hrow _ _) _ _) _ _) _ _) _ _, by rw [put5_size, hcur], ?_, ?_⟩
  · intro m hm
    by_cases h : m = k
    · subst h
      rw [show twD n f m = mark m from if_neg (by omega)]
      exact put5_same _ (by rw [hcur]; omega)
    · exact put5_other (hall m (by omega)) (by omega)
  · have h := hb.trans (hb1.mono hb.size)
    exact ((((h.setCell (Nat.le_refl _) _).setCell (Nat.le_refl _) _).setCell (Nat.le_refl _) _).setCell (Nat.le_refl _) _).setCell (Nat.le_refl _) _

end Go.Proofs.YtbdcgdjhkcnekaaGreatDoor
