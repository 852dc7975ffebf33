/-
  A text told and read again; two texts joined.
-/
import Derived.Test.YtbdcgdjhkcnekaaGreatDoorBack
import Derived.Test.YtbdcgdjhkcnekaaGreatDoorParGo
namespace Go.Proofs.YtbdcgdjhkcnekaaGreatDoor
open Go

def tell (l : List StepD) : List UInt8 := l.flatMap lineD

theorem textGo_inv : ∀ (l : List StepD) (acc t : List UInt8), (∀ s ∈ l, s.ok) → acc.length ≤ 65536 → textGo acc l = (t, 0) → t = acc ++ tell l ∧ (∀ s ∈ l, Told s) ∧ t.length ≤ 65536
  | [], acc, t, _, ha, h => by
    simp only [textGo, Prod.mk.injEq, and_true] at h
    subst h
    exact ⟨by simp [tell], by simp, ha⟩
  | s :: r, acc, t, ho, ha, h => by
    rw [textGo] at h
    split at h
    · simp at h
    · rename_i hk
      split at h
      · simp at h
      · rename_i hl
        obtain ⟨h1, h2, h3⟩ := textGo_inv r _ t (fun x hx => ho x (List.mem_cons_of_mem _ hx)) (by omega) h
        refine ⟨by rw [h1]; simp [tell], ?_, h3⟩
        intro x hx
        rcases List.mem_cons.1 hx with rfl | hx
        · exact ⟨ho _ (List.mem_cons_self ..), by omega, by omega⟩
        · exact h2 x hx

theorem textGo_mk : ∀ (l : List StepD) (acc : List UInt8), (∀ s ∈ l, Told s) → (acc ++ tell l).length ≤ 65536 → textGo acc l = (acc ++ tell l, 0)
  | [], acc, _, _ => by simp [textGo, tell]
  | s :: r, acc, hk, hl => by
    have hs := hk s (List.mem_cons_self ..)
    have e : acc ++ tell (s :: r) = (acc ++ lineD s) ++ tell r := by simp [tell]
    rw [e] at hl ⊢
    rw [textGo, if_neg (by have := hs.2; omega), if_neg (by rw [List.length_append] at hl; omega)]
    exact textGo_mk r _ (fun x hx => hk x (List.mem_cons_of_mem _ hx)) hl

theorem tell_cons (s : StepD) (r : List StepD) (b : List UInt8) : tell (s :: r) ++ b = bodyD s ++ 10 :: (tell r ++ b) := by
  simp [tell, line_body]

/-- Reading what was told, and then b. -/
theorem parse_tell : ∀ (l acc : List StepD) (b : List UInt8) (n m : Nat), (∀ s ∈ l, Told s) → acc.length + l.length ≤ 2048 → (tell l ++ b).length < n → b.length < m → parseGo n acc (tell l ++ b) = parseGo m (acc ++ l) b
  | [], acc, b, n, m, _, _, hn, hm => by
    simp only [List.append_nil]
    exact parseGo_fuel n m acc b hn hm
  | s :: r, acc, b, n, m, hk, hl, hn, hm => by
    have hs := hk s (List.mem_cons_self ..)
    rw [tell_cons] at hn ⊢
    have hc := cut_app (x := bodyD s) (r := tell r ++ b) (body_line hs)
    have hne : bodyD s ++ 10 :: (tell r ++ b) ≠ [] := by simp
    rw [parseGo_fuel n ((bodyD s ++ 10 :: (tell r ++ b)).length + 1) acc _ hn (by omega), parse_next acc hne hc, step_body hs]
    simp only [Bool.true_eq_false, if_false]
    rw [if_neg (by simp at hl; omega), parse_tell r (acc ++ [s]) b _ m (fun x hx => hk x (List.mem_cons_of_mem _ hx)) (by simp at hl ⊢; omega) (by omega) hm]
    simp

/-- What a text that is read is. -/
theorem parse_inv : ∀ (n : Nat) (acc : List StepD) (s : List UInt8) (x : List StepD) (ln : Int), s.length < n → acc.length ≤ 2048 → parseGo n acc s = (x, ln, 0) →
    ∃ y, x = acc ++ y ∧ s = tell y ∧ (∀ t ∈ y, Told t) ∧ x.length ≤ 2048 ∧ ln = 0
  | 0, _, _, _, _, h, _, _ => by omega
  | n + 1, acc, s, x, ln, hn, ha, h => by
    by_cases h0 : s = []
    · subst h0
      simp only [parseGo, if_true, Prod.mk.injEq] at h
      exact ⟨[], by simp [h.1], rfl, by simp, by rw [← h.1]; exact ha, h.2.1.symm⟩
    · obtain ⟨c1, c2, c3, hc⟩ : ∃ c1 c2 c3, Lib.cut s [10] = (c1, c2, c3) := ⟨_, _, _, rfl⟩
      rw [parseGo_fuel (n + 1) (s.length + 1) acc s hn (by omega), parse_next acc h0 hc] at h
      have hl := (cut_len s h0).1
      rw [hc] at hl
      cases hs : stepD c1 with
      | none => rw [hs] at h; simp at h
      | some t =>
        rw [hs] at h
        simp only at h
        cases c3 with
        | false => simp at h
        | true =>
          simp only [Bool.true_eq_false, if_false] at h
          split at h
          · simp at h
          · obtain ⟨ht, hb⟩ := body_step hs
            simp only at hl
            obtain ⟨y, h1, h2, h3, h4, h5⟩ := parse_inv n (acc ++ [t]) c2 x ln (by omega) (by simp; omega) (by rw [parseGo_fuel n (c2.length + 1) _ _ (by omega) (by omega)]; exact h)
            refine ⟨t :: y, by rw [h1]; simp, ?_, ?_, h4, h5⟩
            · have := cut_join hc
              rw [this, h2, ← hb]
              have e := tell_cons t y []
              simpa using e.symm
            · intro z hz
              rcases List.mem_cons.1 hz with rfl | hz
              · exact ht
              · exact h3 z hz

theorem parse_err : ∀ (n : Nat) (acc : List StepD) (s : List UInt8), s.length < n → (parseGo n acc s).2.2 ≠ 0 → (parseGo n acc s).1 = []
  | 0, _, _, h, _ => by omega
  | n + 1, acc, s, hn, h => by
    by_cases h0 : s = []
    · subst h0
      simp [parseGo] at h
    · obtain ⟨c1, c2, c3, hc⟩ : ∃ c1 c2 c3, Lib.cut s [10] = (c1, c2, c3) := ⟨_, _, _, rfl⟩
      rw [parseGo_fuel (n + 1) (s.length + 1) acc s hn (by omega), parse_next acc h0 hc] at h ⊢
      have hl := (cut_len s h0).1
      rw [hc] at hl
      simp only at hl
      cases hs : stepD c1 with
      | none => rfl
      | some t =>
        rw [hs] at h
        simp only at h ⊢
        split
        · rfl
        · rename_i h3
          rw [if_neg h3] at h
          split
          · rfl
          · rename_i h4
            rw [if_neg h4] at h
            rw [parseGo_fuel (c2.length + 1) n _ _ (by omega) (by omega)] at h ⊢
            exact parse_err n _ c2 (by omega) h

/-- The law of ScriptBack, one way. -/
theorem back_text {l : List StepD} {t : List UInt8} (ho : ∀ s ∈ l, s.ok) (h : textD l = (t, 0)) : parseD t = (l, 0, 0) := by
  unfold textD at h
  split at h
  · simp at h
  · obtain ⟨h1, h2, h3⟩ := textGo_inv l [] t ho (by simp) h
    rw [List.nil_append] at h1
    unfold parseD
    rw [if_neg (by omega)]
    have h4 := parse_tell l [] [] (t.length + 1) 1 h2 (by simp; omega) (by rw [List.append_nil, ← h1]; omega) (by simp)
    rw [List.append_nil, ← h1] at h4
    rw [h4]
    simp [parseGo]
/-- .. and the other. -/
theorem back_parse {s : List UInt8} {x : List StepD} {ln : Int} (h : parseD s = (x, ln, 0)) : textD x = (s, 0) := by
  unfold parseD at h
  split at h
  · simp at h
  · obtain ⟨y, h1, h2, h3, h4, _⟩ := parse_inv _ [] s x ln (by omega) (by simp) h
    rw [List.nil_append] at h1
    subst h1
    unfold textD
    rw [if_neg (by omega), textGo_mk x [] h3 (by rw [List.nil_append, ← h2]; omega), List.nil_append, ← h2]
theorem back_told {s : List UInt8} {x : List StepD} {ln : Int} (h : parseD s = (x, ln, 0)) : (∀ t ∈ x, t.ok) ∧ x.length ≤ 2048 := by
  unfold parseD at h
  split at h
  · simp at h
  · obtain ⟨y, h1, h2, h3, h4, _⟩ := parse_inv _ [] s x ln (by omega) (by simp) h
    rw [List.nil_append] at h1
    subst h1
    exact ⟨fun t ht => (h3 t ht).1, h4⟩
theorem back_err {s : List UInt8} (h : (parseD s).2.2 ≠ 0) : (parseD s).1 = [] := by
  unfold parseD at h ⊢
  split
  · rfl
  · rename_i h1
    rw [if_neg h1] at h
    exact parse_err _ _ _ (by omega) h
end Go.Proofs.YtbdcgdjhkcnekaaGreatDoor
