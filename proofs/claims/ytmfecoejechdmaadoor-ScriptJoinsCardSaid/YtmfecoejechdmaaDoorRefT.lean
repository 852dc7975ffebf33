/-
  The reference's words, line and Text.
-/
import Derived.Test.YtmfecoejechdmaaDoorSpec
import Derived.Test.YtmfecoejechdmaaDoorDig
import Derived.Test.YtmfecoejechdmaaDoorMem
import Derived.Test.YtmfecoejechdmaaDoorReg
import Derived.Lib.ItoaLen
import Derived.Test.YtmfecoejechdmaaDoorTwb
namespace Go.Proofs.YtmfecoejechdmaaDoor
open Go.RowKit

def wordVals : List Value := wordTab.map fun l => Value.string ⟨l.toArray⟩

set_option maxRecDepth 100000 in
set_option maxHeartbeats 400000 in
theorem words_any (w : World) :
    Calls Tryd.prog 29 #[] w fun e w' => e = .returned (.slice (some ⟨w.heap.size, 0, none⟩) 20 20) ∧ w'.heap[w.heap.size]? = some (.cells wordVals.toArray 9 (0, 0)) ∧ w.heap.size < w'.heap.size ∧ Below w.heap.size w w' := by
  go_enter Tryd.func29, Tryd.ntmps29
  go_wp2
  go_ret
  exact ⟨rfl, row_alloc _ _ _, by simp, (Below.refl _ _).alloc (Nat.le_refl _) _⟩

theorem word_val (k : Nat) (h1 : 1 ≤ k) (h20 : k ≤ 20) : wordVals.toArray[k - 1]? = some (.string ⟨(word k).toArray⟩) := by
  have hl : wordTab.length = 20 := rfl
  unfold wordVals word
  rw [List.getElem?_toArray, List.getElem?_map, List.getElem?_eq_getElem (by rw [hl]; omega), List.getD_eq_getElem?_getD, List.getElem?_eq_getElem (by rw [hl]; omega)]
  rfl

theorem word_cell {w1 : World} {k b : Nat} (hk : k < 20) (hrow : w1.heap[b]? = some (.cells wordVals.toArray 9 (0, 0))) : w1.cell? ⟨b, k, none⟩ = some (.string ⟨(word (k + 1)).toArray⟩) := by
  rw [cell_row hrow]
  exact word_val (k + 1) (by omega) (by omega)

theorem word_len (k : Nat) (hk : k < 20) : (word (k + 1)).length ≤ 8 := by
  have h : ∀ i : Fin 20, (word (i.val + 1)).length ≤ 8 := by decide
  exact h ⟨k, hk⟩
theorem itoa_len {n : Int} (h0 : -9223372036854775808 ≤ n) (h1 : n ≤ 9223372036854775807) : (Lib.itoa n).length ≤ 21 := Lib.itoa_length_le n h0 h1

theorem str_eq {a : ByteArray} {l : List UInt8} (h : a.data.toList = l) : Ending.returned (.string a) = Ending.returned (.string ⟨l.toArray⟩) := by
  subst h
  rfl

def LineC (w : World) (s : StepD) (w' : World) : Prop := Below w.heap.size w w' ∧ w.heap.size < w'.heap.size ∧ w'.cell? ⟨w.heap.size, 0, none⟩ = some (.int .u8 s.kind) ∧ w'.cell? ⟨w.heap.size, 1, none⟩ = some (.int .i64 s.node) ∧
  w'.cell? ⟨w.heap.size, 2, none⟩ = some (.int .i64 s.a) ∧ w'.cell? ⟨w.heap.size, 3, none⟩ = some (.int .i64 s.b) ∧ w'.cell? ⟨w.heap.size, 4, none⟩ = some (.int .i64 s.l)

def RowOf (v : Value) (w : World) : Prop := ∃ b, v = .slice (some ⟨b, 0, none⟩) 20 20 ∧ w.heap[b]? = some (.cells wordVals.toArray 9 (0, 0))
def CellOf (k : Nat) (v : Value) (w : World) : Prop := ∃ b, v = .pointer (some ⟨b, k, none⟩) ∧ w.heap[b]? = some (.cells wordVals.toArray 9 (0, 0))

abbrev Grows (w w' : World) : Prop := Below w.heap.size w w'

theorem row_grows {w w' : World} {b : Nat} {o : Obj} (h : Grows w w') (hb : w.heap[b]? = some o) : w'.heap[b]? = some o :=
  (h.block b (Array.getElem?_eq_some_iff.1 hb).1).trans hb

theorem LineC.grows {w W w' : World} {s : StepD} (h : LineC w s W) (hb : Grows W w') : LineC w s w' := by
  obtain ⟨h1, h2, c0, c1, c2, c3, c4⟩ := h
  have := hb.size
  exact ⟨h1.trans (hb.mono (by omega)), by omega, (hb.cell h2).trans c0, (hb.cell h2).trans c1, (hb.cell h2).trans c2, (hb.cell h2).trans c3, (hb.cell h2).trans c4⟩

set_option maxRecDepth 100000 in
set_option maxHeartbeats 800000 in
theorem line_core (k : Nat) (n a b l : Int) (hk : k < 20) (n0 : -9223372036854775808 ≤ n) (n1 : n ≤ 9223372036854775807) (a0 : -9223372036854775808 ≤ a) (a1 : a ≤ 9223372036854775807) (b0 : -9223372036854775808 ≤ b) (b1 : b ≤ 9223372036854775807)
    (l0 : -9223372036854775808 ≤ l) (l1 : l ≤ 9223372036854775807) (w : World) :
    Calls Tryd.prog 20 #[.agg #[.int .u8 ((k : Int) + 1), .int .i64 n, .int .i64 a, .int .i64 b, .int .i64 l]] w fun e w' => e = .returned (.string ⟨(lineD ⟨(k : Int) + 1, n, a, b, l⟩).toArray⟩) ∧ Below w.heap.size w w' := by
  have hk0 : (k : Int) < 20 := by omega
  have w0 : IntKind.i64.wrap (k : Int) = k := IntWalk.i64_in _ (by omega)
  have w1' : IntKind.i64.wrap ((k : Int) + 1) = (k : Int) + 1 := IntWalk.i64_in _ (by omega)
  have hk1 : (0 : Int) ≤ (k : Int) := by omega
  have dig : ∀ (m : Int) (W : World), -9223372036854775808 ≤ m → m ≤ 9223372036854775807 → LineC w ⟨(k : Int) + 1, n, a, b, l⟩ W → Calls Tryd.prog 30 #[.int .i64 m] W fun e w' => e = .returned (.string ⟨(Lib.itoa m).toArray⟩) ∧ Grows W w' ∧ LineC w ⟨(k : Int) + 1, n, a, b, l⟩ w' :=
    fun m W h0 h1 hC => (digits_any m h0 h1 W).mono fun e w' ⟨he, hb⟩ => ⟨he, hb, hC.grows hb⟩
  have hG : ∀ W, Grows W W := fun W => Below.refl _ _
  have hlw : (word (k + 1)).length ≤ 8 := word_len k hk
  have hln := itoa_len n0 n1
  have hla := itoa_len a0 a1
  have hlb := itoa_len b0 b1
  have hll := itoa_len l0 l1
  go_enter Tryd.func20, Tryd.ntmps20
  go_wp2_with fail
  refine wp_region_kinds [.loose RowOf, .fix ?_, .fix ?_, .fix ?_, .fix ?_, .loose (CellOf k), .fix ?_, .fix ?_, .fix ?_, .fix ?_, .fix (.string ⟨(Lib.itoa n).toArray⟩), .fix ?_, .fix ?_, .fix ?_, .fix ?_, .fix (.string ⟨(Lib.itoa a).toArray⟩), .fix ?_, .fix ?_, .fix ?_, .fix ?_, .fix (.string ⟨(Lib.itoa b).toArray⟩), .fix ?_, .fix ?_, .fix ?_, .fix ?_, .fix (.string ⟨(Lib.itoa l).toArray⟩), .fix ?_, .fix ?_, .fix ?_]
    (LineC w ⟨(k : Int) + 1, n, a, b, l⟩) Grows (by kernel_rfl) (by kernel_rfl) (by kernel_rfl) ?_ ⟨((Below.refl _ _).alloc (Nat.le_refl _) _).drew, by simp, by simp, by simp, by simp, by simp, by simp⟩ ?_
  rotate_left 23
  · exact ⟨fun v w w' hg ⟨b, hv, hb⟩ => ⟨b, hv, row_grows hg hb⟩, fun v w w' hg ⟨b, hv, hb⟩ => ⟨b, hv, row_grows hg hb⟩, trivial⟩
  refine lex_call_loose 29 #[] rfl (fun W _ _ => by go_simp) (fun W hC _ => (words_any W).mono fun e w' ⟨he, hrow, _, hb⟩ => ⟨_, he, hb, hC.grows hb, ⟨_, rfl, hrow⟩⟩) (fun v0 => ?_)
  refine lex_fix _ rfl (fun W hC hf => ?_) hG ?_
  · (obtain ⟨_, _, c0, c1, c2, c3, c4⟩ := hC; go_simp; first | rfl | (rw [if_neg (by first | omega | (simp only [ByteArray.size_append, List.length_append, List.size_toArray, Array.size_append]; omega))]))
  refine lex_fix _ rfl (fun W hC hf => ?_) hG ?_
  · (obtain ⟨_, _, c0, c1, c2, c3, c4⟩ := hC; go_simp; first | rfl | (rw [if_neg (by first | omega | (simp only [ByteArray.size_append, List.length_append, List.size_toArray, Array.size_append]; omega))]))
  refine lex_fix _ rfl (fun W hC hf => ?_) hG ?_
  · (obtain ⟨_, _, c0, c1, c2, c3, c4⟩ := hC; go_simp; first | rfl | (rw [if_neg (by first | omega | (simp only [ByteArray.size_append, List.length_append, List.size_toArray, Array.size_append]; omega))]))
  refine lex_fix _ rfl (fun W hC hf => ?_) hG ?_
  · (obtain ⟨_, _, c0, c1, c2, c3, c4⟩ := hC; go_simp; first | rfl | (rw [if_neg (by first | omega | (simp only [ByteArray.size_append, List.length_append, List.size_toArray, Array.size_append]; omega))]))
  refine lex_loose rfl (fun W hC hf => ?_) hG (fun v5 => ?_)
  · (obtain ⟨⟨b3, rfl, hrow⟩, _⟩ := hf; exact ⟨_, by go_simp, b3, rfl, hrow⟩)
  refine lex_fix _ rfl (fun W hC hf => ?_) hG ?_
  · (obtain ⟨⟨b3, rfl, hrow⟩, _⟩ := hf; have hcw := word_cell hk hrow; go_simp; first | rfl | (rw [if_neg (by first | omega | (simp only [ByteArray.size_append, List.length_append, List.size_toArray, Array.size_append]; omega))]))
  refine lex_fix _ rfl (fun W hC hf => ?_) hG ?_
  · (obtain ⟨_, _, c0, c1, c2, c3, c4⟩ := hC; go_simp; first | rfl | (rw [if_neg (by first | omega | (simp only [ByteArray.size_append, List.length_append, List.size_toArray, Array.size_append]; omega))]))
  refine lex_fix _ rfl (fun W hC hf => ?_) hG ?_
  · (obtain ⟨_, _, c0, c1, c2, c3, c4⟩ := hC; go_simp; first | rfl | (rw [if_neg (by first | omega | (simp only [ByteArray.size_append, List.length_append, List.size_toArray, Array.size_append]; omega))]))
  refine lex_fix _ rfl (fun W hC hf => ?_) hG ?_
  · (obtain ⟨_, _, c0, c1, c2, c3, c4⟩ := hC; go_simp; first | rfl | (rw [if_neg (by first | omega | (simp only [ByteArray.size_append, List.length_append, List.size_toArray, Array.size_append]; omega))]))
  refine lex_call _ 30 #[.int .i64 n] rfl (fun W => by go_simp) (fun W hC _ => dig n W n0 n1 hC) ?_
  refine lex_fix _ rfl (fun W hC hf => ?_) hG ?_
  · (obtain ⟨_, _, c0, c1, c2, c3, c4⟩ := hC; go_simp; first | rfl | (rw [if_neg (by first | omega | (simp only [ByteArray.size_append, List.length_append, List.size_toArray, Array.size_append]; omega))]))
  refine lex_fix _ rfl (fun W hC hf => ?_) hG ?_
  · (obtain ⟨_, _, c0, c1, c2, c3, c4⟩ := hC; go_simp; first | rfl | (rw [if_neg (by first | omega | (simp only [ByteArray.size_append, List.length_append, List.size_toArray, Array.size_append]; omega))]))
  refine lex_fix _ rfl (fun W hC hf => ?_) hG ?_
  · (obtain ⟨_, _, c0, c1, c2, c3, c4⟩ := hC; go_simp; first | rfl | (rw [if_neg (by first | omega | (simp only [ByteArray.size_append, List.length_append, List.size_toArray, Array.size_append]; omega))]))
  refine lex_fix _ rfl (fun W hC hf => ?_) hG ?_
  · (obtain ⟨_, _, c0, c1, c2, c3, c4⟩ := hC; go_simp; first | rfl | (rw [if_neg (by first | omega | (simp only [ByteArray.size_append, List.length_append, List.size_toArray, Array.size_append]; omega))]))
  refine lex_call _ 30 #[.int .i64 a] rfl (fun W => by go_simp) (fun W hC _ => dig a W a0 a1 hC) ?_
  refine lex_fix _ rfl (fun W hC hf => ?_) hG ?_
  · (obtain ⟨_, _, c0, c1, c2, c3, c4⟩ := hC; go_simp; first | rfl | (rw [if_neg (by first | omega | (simp only [ByteArray.size_append, List.length_append, List.size_toArray, Array.size_append]; omega))]))
  refine lex_fix _ rfl (fun W hC hf => ?_) hG ?_
  · (obtain ⟨_, _, c0, c1, c2, c3, c4⟩ := hC; go_simp; first | rfl | (rw [if_neg (by first | omega | (simp only [ByteArray.size_append, List.length_append, List.size_toArray, Array.size_append]; omega))]))
  refine lex_fix _ rfl (fun W hC hf => ?_) hG ?_
  · (obtain ⟨_, _, c0, c1, c2, c3, c4⟩ := hC; go_simp; first | rfl | (rw [if_neg (by first | omega | (simp only [ByteArray.size_append, List.length_append, List.size_toArray, Array.size_append]; omega))]))
  refine lex_fix _ rfl (fun W hC hf => ?_) hG ?_
  · (obtain ⟨_, _, c0, c1, c2, c3, c4⟩ := hC; go_simp; first | rfl | (rw [if_neg (by first | omega | (simp only [ByteArray.size_append, List.length_append, List.size_toArray, Array.size_append]; omega))]))
  refine lex_call _ 30 #[.int .i64 b] rfl (fun W => by go_simp) (fun W hC _ => dig b W b0 b1 hC) ?_
  refine lex_fix _ rfl (fun W hC hf => ?_) hG ?_
  · (obtain ⟨_, _, c0, c1, c2, c3, c4⟩ := hC; go_simp; first | rfl | (rw [if_neg (by first | omega | (simp only [ByteArray.size_append, List.length_append, List.size_toArray, Array.size_append]; omega))]))
  refine lex_fix _ rfl (fun W hC hf => ?_) hG ?_
  · (obtain ⟨_, _, c0, c1, c2, c3, c4⟩ := hC; go_simp; first | rfl | (rw [if_neg (by first | omega | (simp only [ByteArray.size_append, List.length_append, List.size_toArray, Array.size_append]; omega))]))
  refine lex_fix _ rfl (fun W hC hf => ?_) hG ?_
  · (obtain ⟨_, _, c0, c1, c2, c3, c4⟩ := hC; go_simp; first | rfl | (rw [if_neg (by first | omega | (simp only [ByteArray.size_append, List.length_append, List.size_toArray, Array.size_append]; omega))]))
  refine lex_fix _ rfl (fun W hC hf => ?_) hG ?_
  · (obtain ⟨_, _, c0, c1, c2, c3, c4⟩ := hC; go_simp; first | rfl | (rw [if_neg (by first | omega | (simp only [ByteArray.size_append, List.length_append, List.size_toArray, Array.size_append]; omega))]))
  refine lex_call _ 30 #[.int .i64 l] rfl (fun W => by go_simp) (fun W hC _ => dig l W l0 l1 hC) ?_
  refine lex_fix _ rfl (fun W hC hf => ?_) hG ?_
  · (obtain ⟨_, _, c0, c1, c2, c3, c4⟩ := hC; go_simp; first | rfl | (rw [if_neg (by first | omega | (simp only [ByteArray.size_append, List.length_append, List.size_toArray, Array.size_append]; omega))]))
  refine lex_fix _ rfl (fun W hC hf => ?_) hG ?_
  · (obtain ⟨_, _, c0, c1, c2, c3, c4⟩ := hC; go_simp; first | rfl | (rw [if_neg (by first | omega | (simp only [ByteArray.size_append, List.length_append, List.size_toArray, Array.size_append]; omega))]))
  refine lex_fix _ rfl (fun W hC hf => ?_) hG ?_
  · (obtain ⟨_, _, c0, c1, c2, c3, c4⟩ := hC; go_simp; first | rfl | (rw [if_neg (by first | omega | (simp only [ByteArray.size_append, List.length_append, List.size_toArray, Array.size_append]; omega))]))
  intro W hC hf
  go_wp2
  go_ret
  exact ⟨str_eq (by simp [lineD, ByteArray.data_append]), hC.1⟩

theorem line_any (s : StepD) (hs : s.ok) (h1 : 1 ≤ s.kind) (h20 : s.kind ≤ 20) (w : World) :
    Calls Tryd.prog 20 #[.agg #[.int .u8 s.kind, .int .i64 s.node, .int .i64 s.a, .int .i64 s.b, .int .i64 s.l]] w fun e w' => e = .returned (.string ⟨(lineD s).toArray⟩) ∧ Below w.heap.size w w' := by
  obtain ⟨kd, n, a, b, l⟩ := s
  obtain ⟨k, rfl⟩ : ∃ k : Nat, kd = (k : Int) + 1 := ⟨(kd - 1).toNat, by simp only at h1; omega⟩
  exact line_core k n a b l (by simp only at h20; omega) hs.2.1.1 hs.2.1.2 hs.2.2.1.1 hs.2.2.1.2 hs.2.2.2.1.1 hs.2.2.2.1.2 hs.2.2.2.2.1 hs.2.2.2.2.2 w
end Go.Proofs.YtmfecoejechdmaaDoor
