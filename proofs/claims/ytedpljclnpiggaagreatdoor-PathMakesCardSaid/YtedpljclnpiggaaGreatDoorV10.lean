/- A tree, opened; what the rows' list gives. -/
import Derived.Test.YtedpljclnpiggaaGreatDoorV07
import Derived.Test.YtedpljclnpiggaaGreatDoorV09
import Derived.Lib.SmallJoins
import Derived.Carry
set_option linter.unusedVariables false
set_option linter.unusedSimpArgs false
set_option maxRecDepth 100000
set_option maxHeartbeats 12800000
namespace Go.Proofs.YtedpljclnpiggaaGreatDoor
open Go Go.ChangeShapes Go.WideShapes Go.ChangeAt Go.Deep Go.RowKit
theorem tz_full {W : World} (h : Lib.TabIs Tryz.prog W "math/bits.deBruijn64tab" .u8 tz64) : TzF W :=
 ⟨tz_env h, h.cell (g := 0) (by kernel_rfl) 3 (by decide), h.cell (g := 0) (by kernel_rfl) 7 (by decide)⟩
theorem array1 {α : Type} {cs : Array α} (h : cs.size = 1) : ∃ c0, cs = #[c0] := by
 obtain ⟨l⟩ := cs
 match l, h with
 | [c0], _ => exact ⟨c0, rfl⟩
section
variable {H : Type} {enc : TypeId × Value → H} {P : Program} {w : World} {base : Nat} {spare : Nat → Bool} {held : Bool}
end
theorem nums_in {H : Type} {enc : TypeId × Value → H} {w : World} {spare : Nat → Bool} {fuel : Nat} {a : Option Addr} {n c : Nat} {x : DataW H × List MemPlace}
    (h : DataW.trod enc Tryz.prog w 0 spare true fuel 27 [.slice a n c] = some x) : ∃ l : List Int, l.length = n ∧ n ≤ 9223372036854775807 ∧ NumsAt w.heap.size w a l := by
 rcases open_slice Tryz.underlying27 h with ⟨hcs, hx⟩ | ⟨a', len, cap, m, n', D, Pl, hcs, _, hl, hm, hmm, hx, hi⟩
 · simp at hcs
   obtain ⟨rfl, rfl, rfl⟩ := hcs
   exact ⟨[], rfl, by omega, fun i hi => by simp at hi⟩
 · simp at hcs
   obtain ⟨rfl, rfl, rfl⟩ := hcs
   have hnm : n ≤ m := by rw [hmm]; split <;> omega
   have hone : ∀ i, ∃ k : Int, i < n → w.cell? (a'.add i) = some (.int .i64 k) := by
    intro i
    by_cases hin : i < n
    · obtain ⟨cs', hc, ht'⟩ := hi i (by omega)
      rw [show Tryz.prog.cellsOf 3 = 1 from by kernel_rfl, Nat.mul_one] at hc
      obtain ⟨k, e, _, _⟩ := DataW.trod_int Tryz.underlying3 ht'
      obtain ⟨_, hcl, hat⟩ := World.cells?_some hc
      have h0 := hat 0 (by omega)
      rw [e] at h0
      rw [Go.Deep.add_add, Nat.add_zero] at h0
      exact ⟨k, fun _ => by simpa using h0⟩
    · exact ⟨0, fun h => absurd h hin⟩
   obtain ⟨g, hg⟩ := Classical.axiomOfChoice hone
   refine ⟨(List.range n).map g, by simp, by unfold maxLen at hm; omega, fun i hin => ?_⟩
   rw [List.length_map, List.length_range] at hin
   obtain ⟨b, o, spot⟩ := a'
   have h0 := hg 0 (by omega)
   have hs : spot = none := by
    cases spot with
    | none => rfl
    | some k =>
     exfalso
     simp only [Addr.add, if_true, World.cell?] at h0
     split at h0
     · simp at h0
     · cases h0
   subst hs
   have hi := hg i hin
   rw [add_plain] at hi
   refine ⟨b, o, rfl, World.block_lt_of_cell? w _ hi, ?_⟩
   rw [hi]
   simp [List.getD_eq_getElem?_getD, hin]
theorem tree_in {H : Type} {enc : TypeId × Value → H} {w : World} {spare : Nat → Bool} {fuel : Nat} {a : Option Addr} {n c : Nat} {x : DataW H × List MemPlace}
    (h : DataW.trod enc Tryz.prog w 0 spare true fuel 42 [.slice a n c] = some x) : ∃ T : List NodeD, T.length = n ∧ n ≤ 9223372036854775807 ∧ FitT T ∧ TreeAt w.heap.size w a T := by
 rcases open_slice_fields Tryz.underlying42 Tryz.underlying125 (by kernel_rfl) (by kernel_rfl) h with ⟨hcs, hx⟩ | ⟨a', len, cap, m, D, Pl, hcs, _, hl, hm, hmm, hx, hf⟩
 · simp at hcs
   obtain ⟨rfl, rfl, rfl⟩ := hcs
   exact ⟨[], rfl, by omega, fun x hx => by simp at hx, fun i hi => by simp at hi⟩
 · simp at hcs
   obtain ⟨rfl, rfl, rfl⟩ := hcs
   have hnm : n ≤ m := by rw [hmm]; split <;> omega
   have hone : ∀ i, ∃ d : NodeD, i < n → (i64ok d.pub ∧ i64ok d.mem ∧ i64ok d.ep ∧ d.um.length ≤ 9223372036854775807) ∧ w.cell? (a'.add (i * 4 + 0)) = some (.int .i64 d.pub) ∧ w.cell? (a'.add (i * 4 + 1)) = some (.int .i64 d.mem) ∧ w.cell? (a'.add (i * 4 + 2)) = some (.int .i64 d.ep) ∧
       ∃ ua uc, w.cell? (a'.add (i * 4 + 3)) = some (.slice ua d.um.length uc) ∧ NumsAt w.heap.size w ua d.um := by
    intro i
    by_cases hi : i < n
    · obtain ⟨ys, n', _, _, _, hj⟩ := hf i (by omega)
      obtain ⟨v0, y0, c0, _, t0⟩ := hj 0 _ rfl
      obtain ⟨v1, y1, c1, _, t1⟩ := hj 1 _ rfl
      obtain ⟨v2, y2, c2, _, t2⟩ := hj 2 _ rfl
      obtain ⟨v3, y3, c3, _, t3⟩ := hj 3 _ rfl
      obtain ⟨n0, e0, _, w0⟩ := DataW.trod_int Tryz.underlying3 t0
      obtain ⟨n1, e1, _, w1⟩ := DataW.trod_int Tryz.underlying3 t1
      obtain ⟨n2, e2, _, w2⟩ := DataW.trod_int Tryz.underlying3 t2
      obtain rfl := List.singleton_inj.1 e0
      obtain rfl := List.singleton_inj.1 e1
      obtain rfl := List.singleton_inj.1 e2
      obtain ⟨ua, ul, uc, e3⟩ := Go.Joins.slice_form Tryz.underlying27 t3
      obtain rfl := List.singleton_inj.1 e3
      obtain ⟨l, rfl, hul, hnum⟩ := nums_in t3
      exact ⟨⟨n0, n1, n2, l⟩, fun _ => ⟨⟨wf_i64 w0, wf_i64 w1, wf_i64 w2, hul⟩, c0, c1, c2, ua, uc, c3, hnum⟩⟩
    · exact ⟨zeroN, fun h => absurd h hi⟩
   obtain ⟨g, hg⟩ := Classical.axiomOfChoice hone
   have hget : ∀ i, i < n → nodeD ((List.range n).map g) i = g i := fun i hi => by unfold nodeD; simp [List.getD_eq_getElem?_getD, hi]
   refine ⟨(List.range n).map g, by simp, by unfold maxLen at hm; omega, fun i hi => ?_, fun i hi => ?_⟩
   · rw [List.length_map, List.length_range] at hi
     rw [hget i hi]
     exact (hg i hi).1
   · rw [List.length_map, List.length_range] at hi
     rw [hget i hi]
     obtain ⟨b, o, spot⟩ := a'
     have h0 := (hg 0 (by omega)).2.1
     have hs : spot = none := by
      rw [Nat.zero_mul, Nat.zero_add] at h0
      cases spot with
      | none => rfl
      | some k =>
       exfalso
       simp only [Addr.add, if_true, World.cell?] at h0
       split at h0
       · simp at h0
       · cases h0
     subst hs
     obtain ⟨_, c0, c1, c2, ua, uc, c3, hnum⟩ := hg i hi
     rw [add_plain] at c0 c1 c2 c3
     exact ⟨b, o, rfl, World.block_lt_of_cell? w _ c0, c0, c1, c2, ua, uc, c3, hnum⟩
end Go.Proofs.YtedpljclnpiggaaGreatDoor
