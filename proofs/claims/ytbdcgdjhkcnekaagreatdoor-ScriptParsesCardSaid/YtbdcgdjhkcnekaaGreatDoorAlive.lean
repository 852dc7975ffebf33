/-
  phratrylaw27.alive answers true.
-/
import Derived.Test.YtbdcgdjhkcnekaaGreatDoorText
import Derived.Test.YtbdcgdjhkcnekaaGreatDoorParse
namespace Go.Proofs.YtbdcgdjhkcnekaaGreatDoor
open Go Go.RowKit

def cutStep : StepD := ⟨17, 3, 2, 0, -5⟩
def tickText : List UInt8 := [116, 105, 99, 107, 32, 45, 49, 32, 48, 32, 48, 32, 48, 10, 111, 112, 101, 110, 32, 48, 32, 48, 32, 48, 32, 48, 10]
def badText : List UInt8 := [116, 105, 99, 107, 32, 48, 32, 48, 32, 48, 32, 48, 10, 116, 105, 99, 107, 32, 48, 32, 48, 32, 48, 10]

theorem text_cut : textD [cutStep] = ([99, 117, 116, 32, 51, 32, 50, 32, 48, 32, 45, 53, 10], 0) := by decide +kernel
theorem parse_tick : parseD tickText = ([⟨13, -1, 0, 0, 0⟩, ⟨1, 0, 0, 0, 0⟩], 0, 0) := by decide +kernel
theorem parse_bad : parseD badText = ([], 1, 4) := by decide +kernel

set_option maxRecDepth 100000 in
set_option maxHeartbeats 800000 in
theorem alive_any (w : World) (he : Env w) : Calls Tryz.prog 9 #[] w fun e w' => e = .returned (.bool true) ∧ Below w.heap.size w w' := by
  have Henv := Lib.hid he; clear he
  have heq := binop_eql_step ⟨13, -1, 0, 0, 0⟩ ⟨13, -1, 0, 0, 0⟩
  go_enter Tryz.func9, Tryz.ntmps9
  go_wp2_with fail
  have hw1 := Lib.hid ((Below.refl w.heap.size w).alloc (Nat.le_refl _) (.cells #[.int .u8 17, .int .i64 3, .int .i64 2, .int .i64 0, .int .i64 (-5)] 72))
  have hst : Steps (w.alloc (.cells #[.int .u8 17, .int .i64 3, .int .i64 2, .int .i64 0, .int .i64 (-5)] 72)) (some ⟨w.heap.size, 0, none⟩) 1 (fun _ => cutStep) := by
    intro i hi
    obtain rfl : i = 0 := by omega
    have h := row_alloc (w := w) #[.int .u8 17, .int .i64 3, .int .i64 2, .int .i64 0, .int .i64 (-5)] 72 (0, 0)
    exact ⟨_, 0, rfl, ArrStep.at (by exact ⟨rfl, rfl, rfl, rfl, rfl⟩) h⟩
  have ht := text_any _ 1 1 (fun _ => cutStep) (by omega) (fun i hi => by unfold StepD.ok cutStep; simp) _ (Henv.out.below hw1.out Henv.out.size) hst
  rw [show textD (stepsL 1 (fun _ => cutStep)) = _ from text_cut] at ht
  refine ht.mono ?_
  clear ht hst
  rintro e w2 ⟨rfl, hb2⟩
  have Hb2 := Lib.hid (hw1.out.trans (hb2.mono hw1.out.size)); clear hb2 hw1
  go_wp2_with fail
  refine (parse_any tickText (by decide) _ (Henv.out.below Hb2.out Henv.out.size)).mono ?_
  rintro e w3 ⟨⟨v, rfl, hown, _⟩, hb3⟩
  rw [parse_tick] at hown ⊢
  have Hb3 := Lib.hid (Hb2.out.trans (hb3.mono Hb2.out.size)); clear hb3 Hb2
  obtain ⟨a, c, rfl, _⟩ := own_len hown
  obtain ⟨_, hst, _⟩ := own_steps (d := cutStep) hown rfl
  have Hst := Lib.hid hst; clear hst hown
  go_wp2_with fail
  refine (parse_any badText (by decide) _ (Henv.out.below Hb3.out Henv.out.size)).mono ?_
  rintro e w4 ⟨⟨v, rfl, hown, _⟩, hb4⟩
  rw [parse_bad] at hown ⊢
  obtain ⟨b, o, rfl, hs⟩ := Hst.out.below hb4 (Nat.le_refl _) 0 (by simp)
  obtain ⟨c0, c1, c2, c3, c4⟩ := hs
  have Hb4 := Lib.hid (Hb3.out.trans (hb4.mono Hb3.out.size)); clear hb4 Hb3 hown
  simp only [Nat.zero_mul, Nat.add_zero] at c0 c1 c2 c3 c4
  go_wp2
  go_ret
  exact ⟨rfl, Hb4.out⟩
end Go.Proofs.YtbdcgdjhkcnekaaGreatDoor
