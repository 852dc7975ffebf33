/-
  The reference's Number, at every text.
-/
import Derived.Test.YtbdcgdjhkcnekaaGreatDoorNum
namespace Go.Proofs.YtbdcgdjhkcnekaaGreatDoor
open Go Go.RowKit

set_option maxRecDepth 100000 in
set_option maxHeartbeats 400000 in
theorem number_nil (w : World) : Calls Tryz.prog 123 #[.string ⟨#[]⟩] w (NumPost w []) := by
  have hno := num_no (s := []) (.inl rfl)
  have Hno := Lib.hid hno; clear hno
  go_enter Tryz.func123, Tryz.ntmps123
  go_wp2
  go_ret2
  exact num_none Hno.out (Below.refl _ _)

set_option maxRecDepth 100000 in
set_option maxHeartbeats 400000 in
theorem number_sign (w : World) : Calls Tryz.prog 123 #[.string ⟨#[45]⟩] w (NumPost w [45]) := by
  have hno := num_no (s := [45]) (.inr (.inl rfl))
  have Hno := Lib.hid hno; clear hno
  go_enter Tryz.func123, Tryz.ntmps123
  go_wp2
  go_ret2
  exact num_none Hno.out (Below.refl _ _)

set_option maxRecDepth 100000 in
set_option maxHeartbeats 800000 in
theorem number_long (S : ByteArray) (l : List UInt8) (hS : Bytes S l) (hl : 20 < l.length) (hm : l.length ≤ 65536) (w : World) : Calls Tryz.prog 123 #[.string S] w (NumPost w l) := by
  have hno := num_no (s := l) (.inr (.inr (.inl hl)))
  have Hno := Lib.hid hno; clear hno
  have hn := hS.size
  have hz : 0 < S.size := by omega
  have hz' : 0 < (S.size : Int) := by omega
  have hz2 : 20 < (S.size : Int) := by omega
  have hz3 : (S.size : Int) ≤ 65536 := by omega
  clear hn hS
  have e0 : ((S.size : Int) == 0) = false := beq_eq_false_iff_ne.2 (by omega)
  have e1 : ((S.size : Int) == 1) = false := beq_eq_false_iff_ne.2 (by omega)
  go_enter Tryz.func123, Tryz.ntmps123
  go_wp2
  all_goals go_ret2
  all_goals exact num_none Hno.out (Below.refl _ _)

theorem number_any (l : List UInt8) (hm : l.length ≤ 65536) (w : World) : Calls Tryz.prog 123 #[.string ⟨l.toArray⟩] w (NumPost w l) := by
  by_cases hl : 20 < l.length
  · exact number_long _ l rfl hl hm w
  · match l, hl with
    | [], _ => exact number_nil w
    | 45 :: ds, hl =>
      cases ds with
      | nil => exact number_sign w
      | cons c r => exact number_neg _ (c :: r) rfl (by simp) (by simp at hl ⊢; omega) w
    | x :: ds, hl =>
      by_cases hx : x = 45
      · subst hx
        cases ds with
        | nil => exact number_sign w
        | cons c r => exact number_neg _ (c :: r) rfl (by simp) (by simp at hl ⊢; omega) w
      · exact number_pos _ (x :: ds) rfl (fun r e => hx (by injection e)) (by simp) (by simp at hl ⊢; omega) w
end Go.Proofs.YtbdcgdjhkcnekaaGreatDoor
