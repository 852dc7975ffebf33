/-
  All terms of a store may be.
-/
import Derived.Test.YtagccbpjpcnmeaaGreatDoorQPure
set_option linter.unusedVariables false
set_option linter.unusedSimpArgs false
namespace Go.Proofs.YtagccbpjpcnmeaaGreatDoor

def AllMay (L : List TermD) : Prop := ∀ t ∈ L, mayD L.length t = true

theorem may_mono {m m' : Nat} {t : TermD} (h : mayD m t = true) (hm : m ≤ m') : mayD m' t = true := by
  have hb : ∀ x, thereD m x = true → thereD m' x = true := fun x hx => there_mono hx hm
  unfold mayD at h ⊢
  split at h
  · rename_i e; rw [if_pos e]; exact h
  · rename_i e1; rw [if_neg e1]
    split at h
    · rename_i e; rw [if_pos e]; exact h
    · rename_i e2; rw [if_neg e2]
      split at h
      · rename_i e; rw [if_pos e]
        simp only [Bool.and_eq_true] at h ⊢
        exact ⟨⟨h.1.1, hb _ h.1.2⟩, hb _ h.2⟩
      · rename_i e3; rw [if_neg e3]
        split at h
        · rename_i e; rw [if_pos e]
          simp only [Bool.and_eq_true, Bool.or_eq_true] at h ⊢
          exact ⟨⟨h.1.1, hb _ h.1.2⟩, h.2.imp (hb _) id⟩
        · rename_i e4; rw [if_neg e4]
          split at h
          · rename_i e; rw [if_pos e]
            simp only [Bool.and_eq_true] at h ⊢
            exact ⟨⟨h.1.1, hb _ h.1.2⟩, h.2⟩
          · cases h

theorem AllMay.make {L : List TermD} (h : AllMay L) (t : TermD) : AllMay (makeL L t) := by
  rcases makeL_cases L t with e | ⟨hm, _, _, e⟩
  · rw [e]; exact h
  · rw [e]
    intro s hs
    rw [List.length_append]
    rcases List.mem_append.1 hs with hs | hs
    · exact may_mono (h s hs) (by omega)
    · have : s = t := by simpa using hs
      rw [this]; exact may_mono hm (by omega)

theorem fold_may : ∀ (l L : List TermD), AllMay L → AllMay (l.foldl makeL L)
  | [], _, h => h
  | t :: l, L, h => by rw [List.foldl_cons]; exact fold_may l _ (h.make t)
theorem buildL_may (l : List TermD) : AllMay (buildL l) := fold_may l [] (fun _ h => by simp at h)
theorem secEnd_may : ∀ (k : Nat) (L : List TermD) (x : Int), AllMay L → AllMay (secEnd k L x)
  | 0, _, _, h => h
  | k + 1, L, x, h => by unfold secEnd; exact secEnd_may k _ _ (h.make _)
theorem secretsT_may {L : List TermD} (seed many : Int) (h : AllMay L) : AllMay (secretsT L seed many) := by
  unfold secretsT
  split
  · exact h
  · exact secEnd_may _ _ _ h
theorem nodeT_may {L : List TermD} (x : Int) (h : AllMay L) : AllMay (nodeT L x) := by
  unfold nodeT
  split
  · exact (h.make _).make _
  · exact h
end Go.Proofs.YtagccbpjpcnmeaaGreatDoor
