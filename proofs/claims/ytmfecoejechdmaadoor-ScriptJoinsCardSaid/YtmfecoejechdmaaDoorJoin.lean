/-
  Two texts, one behind the other, in plain Lean.
-/
import Derived.Test.YtmfecoejechdmaaDoorBackB
namespace Go.Proofs.YtmfecoejechdmaaDoor
open Go

/-- Reading b behind what is there, against reading it alone. -/
theorem parse_shift : ∀ (n : Nat) (pre acc : List StepD) (b : List UInt8), b.length < n → pre.length + acc.length ≤ 2048 →
    ((parseGo n acc b).2.2 = 0 → (pre.length + (parseGo n acc b).1.length ≤ 2048 → parseGo n (pre ++ acc) b = (pre ++ (parseGo n acc b).1, 0, 0)) ∧ (2048 < pre.length + (parseGo n acc b).1.length → (parseGo n (pre ++ acc) b).2.2 = 3)) ∧
    ((parseGo n acc b).2.2 ≠ 0 → ((parseGo n (pre ++ acc) b).2.2 = (parseGo n acc b).2.2 ∧ (parseGo n (pre ++ acc) b).2.1 = pre.length + (parseGo n acc b).2.1) ∨ (parseGo n (pre ++ acc) b).2.2 = 3)
  | 0, _, _, _, h, _ => by omega
  | n + 1, pre, acc, b, hn, hl => by
    by_cases h0 : b = []
    · subst h0
      have e : ∀ acc', parseGo (n + 1) acc' [] = (acc', 0, 0) := fun acc' => by rw [parseGo, if_pos rfl]
      rw [e, e]
      exact ⟨fun _ => ⟨fun _ => rfl, fun h => by simp only at h; omega⟩, fun h => absurd rfl h⟩
    · obtain ⟨c1, c2, c3, hc⟩ : ∃ c1 c2 c3, Lib.cut b [10] = (c1, c2, c3) := ⟨_, _, _, rfl⟩
      have e1 := parse_next acc h0 hc
      have e2 := parse_next (pre ++ acc) h0 hc
      rw [parseGo_fuel (n + 1) (b.length + 1) acc b hn (by omega), parseGo_fuel (n + 1) (b.length + 1) (pre ++ acc) b hn (by omega), e1, e2]
      have hcl := (cut_len b h0).1
      rw [hc] at hcl
      simp only at hcl
      have el : ((pre ++ acc).length : Int) = pre.length + acc.length := by rw [List.length_append]; omega
      cases hs : stepD c1 with
      | none => exact ⟨fun h => by simp at h, fun _ => .inl ⟨rfl, el⟩⟩
      | some t =>
        simp only
        by_cases h3 : c3 = false
        · rw [if_pos h3, if_pos h3]
          exact ⟨fun h => by simp at h, fun _ => .inl ⟨rfl, el⟩⟩
        · rw [if_neg h3, if_neg h3]
          by_cases hf : (pre ++ acc).length = 2048
          · rw [if_pos hf]
            refine ⟨fun h => ⟨fun h' => ?_, fun _ => rfl⟩, fun _ => .inr rfl⟩
            exfalso
            rw [List.length_append] at hf
            by_cases hp : acc.length = 2048
            · rw [if_pos hp] at h; simp at h
            · rw [if_neg hp] at h h'
              obtain ⟨x, ln, e, hx⟩ : ∃ x ln e, parseGo (c2.length + 1) (acc ++ [t]) c2 = (x, ln, e) := ⟨_, _, _, rfl⟩
              rw [hx] at h h'
              simp only at h h'
              subst h
              obtain ⟨y, h1, _⟩ := parse_inv _ _ _ _ _ (by omega) (by simp; omega) hx
              rw [h1] at h'
              simp at h'
              omega
          · rw [if_neg hf]
            rw [List.length_append] at hf
            rw [if_neg (by omega)]
            rw [List.append_assoc, parseGo_fuel (c2.length + 1) n (acc ++ [t]) c2 (by omega) (by omega), parseGo_fuel (c2.length + 1) n (pre ++ (acc ++ [t])) c2 (by omega) (by omega)]
            exact parse_shift n pre (acc ++ [t]) c2 (by omega) (by simp; omega)

/-- What the third reading comes to. -/
theorem joins {a b : List UInt8} {x y : List StepD} {xl yl f : Int} (hl : a.length + b.length ≤ 65536) (ha : parseD a = (x, xl, 0)) (hb : parseD b = (y, yl, f)) :
    (f = 0 → (x.length + y.length ≤ 2048 → parseD (a ++ b) = (x ++ y, 0, 0)) ∧ (2048 < x.length + y.length → (parseD (a ++ b)).2.2 = 3)) ∧
    (f ≠ 0 → ((parseD (a ++ b)).2.2 = f ∧ (parseD (a ++ b)).2.1 = x.length + yl) ∨ (parseD (a ++ b)).2.2 = 3) := by
  unfold parseD at ha hb ⊢
  rw [if_neg (by omega)] at ha hb
  rw [if_neg (by rw [List.length_append]; omega)]
  obtain ⟨x', h1, h2, h3, h4, _⟩ := parse_inv _ _ _ _ _ (by omega) (by simp) ha
  rw [List.nil_append] at h1
  subst h1
  have e := parse_tell x [] b ((a ++ b).length + 1) (b.length + 1) h3 (by simp; omega) (by rw [← h2]; omega) (by omega)
  rw [← h2, List.nil_append] at e
  rw [e]
  have h := parse_shift (b.length + 1) x [] b (by omega) (by simp; omega)
  rw [hb, List.append_nil] at h
  exact h
end Go.Proofs.YtmfecoejechdmaaDoor
