/-
  Plain facts about decimal numerals: what the reference's loop over the digits comes to.
-/
import Derived.Lib.ItoaNum
namespace Go.Proofs.YtbdcgdjhkcnekaaGreatDoor
open Go

/-- The digits of u, none of 0. -/
def dg0 (u : Nat) : List UInt8 :=
  if h : u = 0 then [] else dg0 (u / 10) ++ [UInt8.ofNat (48 + u % 10)]
termination_by u
decreasing_by omega

theorem dg0_zero : dg0 0 = [] := by rw [dg0]; simp
theorem dg0_pos {u : Nat} (h : u ≠ 0) : dg0 u = dg0 (u / 10) ++ [UInt8.ofNat (48 + u % 10)] := by rw [dg0, dif_neg h]

theorem dg0_eq : ∀ u : Nat, u ≠ 0 → dg0 u = Lib.decDigits u := by
  intro u
  induction u using Nat.strongRecOn with
  | _ u ih =>
    intro h
    rw [dg0_pos h, Lib.decDigits]
    by_cases h10 : u < 10
    · rw [dif_pos h10, show u / 10 = 0 by omega, dg0_zero, Nat.mod_eq_of_lt h10]; rfl
    · rw [dif_neg h10, ih (u / 10) (by omega) (by omega)]

theorem dg0_len : ∀ (k u : Nat), u < 10 ^ k → (dg0 u).length ≤ k
  | 0, u, h => by rw [show u = 0 by simpa using h, dg0_zero]; simp
  | k + 1, u, h => by
    by_cases h0 : u = 0
    · rw [h0, dg0_zero]; simp
    · rw [dg0_pos h0, List.length_append]
      have := dg0_len k (u / 10) (by rw [Nat.pow_succ] at h; omega)
      simp; omega


/-- A round of the loop: the digit goes ahead of those that are there. -/
theorem dg0_round {m d c : Int} {k u : Nat} {ds : List UInt8} (hk : k ≠ 0) (hm : m.natAbs = k) (hd : d.natAbs = k % 10) (hc : c = 48 + (d.natAbs : Int)) (h : dg0 k ++ ds = dg0 u) :
    dg0 (k / 10) ++ (UInt8.ofNat c.toNat :: ds) = dg0 u := by
  rw [← h, dg0_pos hk, List.append_assoc, hc, hd]
  rfl

theorem dg0_length_le {u : Nat} (h : u ≤ 9223372036854775808) : (dg0 u).length ≤ 19 :=
  dg0_len 19 u (by omega)

theorem itoa_dg0 {n : Int} (h : n ≠ 0) : Lib.itoa n = if n < 0 then 45 :: dg0 n.natAbs else dg0 n.natAbs := by
  unfold Lib.itoa
  by_cases hn : n < 0
  · rw [if_pos hn, if_pos hn, dg0_eq _ (by omega)]
  · rw [if_neg hn, if_neg hn, dg0_eq _ (by omega), show n.toNat = n.natAbs by omega]

end Go.Proofs.YtbdcgdjhkcnekaaGreatDoor
