/-
  The reference's Number, in plain Lean.
-/
import Derived.Test.YtbdcgdjhkcnekaaGreatDoorBack
import Derived.Test.YtbdcgdjhkcnekaaGreatDoorPure
namespace Go.Proofs.YtbdcgdjhkcnekaaGreatDoor
open Go

/-- What an int64 holds of a number. -/
def w64 (x : Int) : Int := (x + 9223372036854775808) % 18446744073709551616 - 9223372036854775808

theorem w64_in {x : Int} (h0 : -9223372036854775808 ≤ x) (h1 : x ≤ 9223372036854775807) : w64 x = x := by unfold w64; omega
theorem w64_rng (x : Int) : -9223372036854775808 ≤ w64 x ∧ w64 x ≤ 9223372036854775807 := by unfold w64; omega
theorem w64_step (a d : Int) : w64 (w64 (w64 (-a) * 10) - d) = w64 (-(a * 10 + d)) := by unfold w64; omega
theorem w64_neg (a : Int) : w64 (-(w64 (-a))) = w64 a := by unfold w64; omega

def decV (l : List UInt8) : Int := l.foldl (fun acc c => acc * 10 + ((c.toNat : Int) - 48)) 0
theorem decV_snoc (l : List UInt8) (c : UInt8) : decV (l ++ [c]) = decV l * 10 + ((c.toNat : Int) - 48) := by simp [decV]

theorem decV_digits : ∀ u : Nat, decV (Lib.decDigits u) = u := by
  intro u
  induction u using Nat.strongRecOn with
  | _ u ih =>
    rw [Lib.decDigits]
    by_cases h10 : u < 10
    · rw [dif_pos h10]
      have e : (UInt8.ofNat (48 + u)).toNat = 48 + u := by rw [UInt8.toNat_ofNat']; omega
      have := decV_snoc [] (UInt8.ofNat (48 + u))
      rw [List.nil_append, e] at this
      rw [this]
      simp [decV]
      omega
    · rw [dif_neg h10, decV_snoc, ih (u / 10) (by omega)]
      have e : (UInt8.ofNat (48 + u % 10)).toNat = 48 + u % 10 := by rw [UInt8.toNat_ofNat']; omega
      rw [e]
      omega

/-- The number that the reference comes to: of the digits behind the sign. -/
def refN (neg : Bool) (ds : List UInt8) : Int := if neg then w64 (-(decV ds)) else w64 (-(w64 (-(decV ds))))

theorem itoa_20 {v : Int} (h0 : -9223372036854775808 ≤ v) (h1 : v ≤ 9223372036854775807) : (Lib.itoa v).length ≤ 20 := by
  by_cases hz : v = 0
  · subst hz; decide +kernel
  · rw [itoa_dg0 hz]
    have := dg0_length_le (u := v.natAbs) (by omega)
    split
    · simp; omega
    · omega

/-- The spelling of a number: a sign or none, digits. -/
theorem itoa_form (v : Int) : (v < 0 ∧ Lib.itoa v = 45 :: Lib.decDigits v.natAbs) ∨ (0 ≤ v ∧ Lib.itoa v = Lib.decDigits v.natAbs ∧ ∀ c r, Lib.itoa v = c :: r → c ≠ 45) := by
  unfold Lib.itoa
  by_cases h : v < 0
  · exact .inl ⟨h, if_pos h⟩
  · rw [if_neg h]
    refine .inr ⟨by omega, by rw [show v.toNat = v.natAbs by omega], fun c r hc e => ?_⟩
    have := digit_chars v.toNat c (by rw [hc]; exact List.mem_cons_self ..)
    subst e
    simp at this

theorem num_neg (ds : List UInt8) : numD (45 :: ds) = if Lib.itoa (refN true ds) = 45 :: ds then some (refN true ds) else none := by
  have hr := w64_rng (-(decV ds))
  have hr' : -9223372036854775808 ≤ refN true ds ∧ refN true ds ≤ 9223372036854775807 := by simpa [refN] using hr
  by_cases h : Lib.itoa (refN true ds) = 45 :: ds
  · rw [if_pos h]
    rw [← h]
    have := numD_itoa hr'.1 hr'.2
    rw [h] at this ⊢
    exact this
  · rw [if_neg h]
    cases hn : numD (45 :: ds) with
    | none => rfl
    | some v =>
      exfalso
      have hv := (numD_some hn).2
      have hb := numD_bound hn
      rcases itoa_form v with ⟨h1, h2⟩ | ⟨_, _, h3⟩
      · rw [hv] at h2
        injection h2 with _ h2
        apply h
        have : refN true ds = v := by
          simp only [refN, if_true]
          rw [h2, decV_digits, w64_in (by omega) (by omega)]
          omega
        rw [this, hv]
      · exact h3 45 ds hv rfl

theorem num_pos (ds : List UInt8) (h45 : ∀ r, ds ≠ 45 :: r) : numD ds = if Lib.itoa (refN false ds) = ds then some (refN false ds) else none := by
  have hr := w64_rng (-(w64 (-(decV ds))))
  have hr' : -9223372036854775808 ≤ refN false ds ∧ refN false ds ≤ 9223372036854775807 := by simpa [refN] using hr
  by_cases h : Lib.itoa (refN false ds) = ds
  · rw [if_pos h]
    have := numD_itoa hr'.1 hr'.2
    rw [h] at this
    exact this
  · rw [if_neg h]
    cases hn : numD ds with
    | none => rfl
    | some v =>
      exfalso
      have hv := (numD_some hn).2
      have hb := numD_bound hn
      rcases itoa_form v with ⟨h1, h2⟩ | ⟨h1, h2, _⟩
      · rw [hv] at h2
        exact h45 _ h2
      · rw [hv] at h2
        apply h
        have : refN false ds = v := by
          simp only [refN, Bool.false_eq_true, if_false]
          rw [w64_neg, h2, decV_digits, w64_in (by omega) (by omega)]
          omega
        rw [this, hv]

/-- A text that is none: too short, too long, or with another sign in it. -/
theorem num_no {s : List UInt8} (h : s = [] ∨ s = [45] ∨ 20 < s.length ∨ (∃ c ∈ (if s.head? = some 45 then s.tail else s), ¬ (48 ≤ c.toNat ∧ c.toNat ≤ 57))) : numD s = none := by
  cases hn : numD s with
  | none => rfl
  | some v =>
    exfalso
    have hv := (numD_some hn).2
    have hb := numD_bound hn
    have hl := itoa_20 hb.1 hb.2
    rw [hv] at hl
    rcases itoa_form v with ⟨h1, h2⟩ | ⟨h1, h2, h3⟩
    · rw [hv] at h2
      subst h2
      rcases h with h | h | h | ⟨c, hc, h⟩
      · cases h
      · injection h with _ h; exact digits_ne _ h
      · omega
      · simp at hc
        exact h (digit_chars _ c hc)
    · rw [hv] at h2 h3
      rcases h with h | h | h | ⟨c, hc, h⟩
      · rw [h2] at h; exact digits_ne _ h
      · exact h3 45 [] h rfl
      · omega
      · have : s.head? ≠ some 45 := by
          intro e
          cases s with
          | nil => simp at e
          | cons x r => simp at e; exact h3 x r rfl e
        rw [if_neg this] at hc
        rw [h2] at hc
        exact h (digit_chars _ c hc)
end Go.Proofs.YtbdcgdjhkcnekaaGreatDoor
