/-
  The statement ScriptTexts' function answers true.
-/
import Derived.Test.YtmfecoejechdmaaDoorAlive
import Derived.Test.YtmfecoejechdmaaDoorTwb
import Derived.Test.YtmfecoejechdmaaDoorRefU
namespace Go.Proofs.YtmfecoejechdmaaDoor
open Go Go.RowKit

/-- What a slice of steps is, as it comes in. -/
structure StepsIn (w : World) (a : Option Addr) (n : Nat) (f : Nat → StepD) : Prop where
  big : n ≤ 9223372036854775807
  nil : a = none → n = 0
  ok : ∀ i, i < n → (f i).ok
  at' : Steps w a n f

theorem StepsIn.below {B : Nat} {w w' : World} {a : Option Addr} {n : Nat} {f : Nat → StepD} (h : StepsIn w a n f) (hb : Below B w w') (hB : w.heap.size ≤ B) : StepsIn w' a n f :=
  ⟨h.big, h.nil, h.ok, h.at'.below hb hB⟩

theorem size_alloc (w : World) (o : Obj) : (w.alloc o).heap.size = w.heap.size + 1 := by simp

theorem twin_steps {w : World} {b n : Nat} {f : Nat → StepD} (h : TwinAt w b n f) : Steps w (some ⟨b, 0, none⟩) n f := fun i hi => ⟨b, 0, rfl, by rw [Nat.zero_add]; exact h.1 i hi⟩

set_option maxRecDepth 100000 in
set_option maxHeartbeats 800000 in
theorem scriptTexts_any (a : Option Addr) (n c : Nat) (f : Nat → StepD) (w : World) (he : Env w) (hs : StepsIn w a n f) :
    Calls Tryd.prog 3 #[.slice a n c] w fun e w' => e = .returned (.bool true) ∧ Below w.heap.size w w' := by
  have hbig := hs.big
  have Hs := Lib.hid hs; clear hs
  have Henv := Lib.hid he; clear he
  have hcell : ∀ W : World, (W.alloc (.cells #[.int .i64 n] 3)).cell? ⟨W.heap.size, 0, none⟩ = some (.int .i64 n) := fun W => by rw [cell_row (row_alloc _ _ _)]; rfl
  have Hcell := Lib.hid hcell; clear hcell
  have hb1 := (Below.refl w.heap.size w).alloc (Nat.le_refl _) (.cells #[.int .i64 n] 3)
  have Hb1 := Lib.hid hb1; clear hb1
  by_cases hn : 262144 < n
  · go_enter Tryd.func3, Tryd.ntmps3
    go_wp2_with (go_at_call 6; refine (beyond_yes _ n _ (Hcell.out _) hn hbig).mono ?_; rintro e w2 ⟨rfl, rfl⟩)
    go_ret
    exact ⟨rfl, Hb1.out⟩
  · go_enter Tryd.func3, Tryd.ntmps3
    go_wp2_with (go_at_call 6; refine (beyond_one _ n _ (Hcell.out _) (by omega)).mono ?_; rintro e w2 ⟨rfl, rfl⟩)
    refine (twinSteps_any a n c f (by omega) _ (Hs.out.below Hb1.out (Nat.le_refl _)).at' Hs.out.nil).mono ?_
    rintro e w2 ⟨rfl, htw, hlt2, hb2⟩
    rw [size_alloc] at htw hlt2 hb2
    have Htw := Lib.hid htw; clear htw
    have Hb2 := Lib.hid (Hb1.out.trans (hb2.mono (by omega))); clear hb2
    go_wp2_with fail
    refine (text_any (some ⟨w.heap.size + 1, 0, none⟩) n (n + 2) f (by omega) Hs.out.ok _ (Henv.out.below Hb2.out Henv.out.size) (twin_steps Htw.out)).mono ?_
    rintro e w3 ⟨rfl, hb3⟩
    have Htw3 := Lib.hid (Htw.out.below hb3 hlt2); clear Htw
    have hlt3 : w.heap.size + 1 < w3.heap.size := Nat.lt_of_lt_of_le hlt2 hb3.size
    have Hb3 := Lib.hid (Hb2.out.trans (hb3.mono (by omega))); clear hb3 Hb2
    go_wp2_with fail
    refine (refText_any a n c f hbig Hs.out.ok _ (Hs.out.below Hb3.out (Nat.le_refl _)).at').mono ?_
    rintro e w4 ⟨rfl, hb4⟩
    have Htw4 := Lib.hid (Htw3.out.below hb4 hlt3); clear Htw3
    have Hb4 := Lib.hid (Hb3.out.trans (hb4.mono (by omega))); clear hb4 Hb3
    generalize (textD (stepsL n f)).1.toArray = tx
    generalize (textD (stepsL n f)).2 = er
    go_wp2_with fail
    refine (leftSteps_any _ a n c f (by omega) _ Htw4.out (Hs.out.below Hb4.out (Nat.le_refl _)).at').mono ?_
    rintro e w5 ⟨rfl, hb5⟩
    have Hb5 := Lib.hid (Hb4.out.trans (hb5.mono Hb4.out.size)); clear hb5 Hb4
    go_wp2_with fail
    refine (alive_any _ (Henv.out.below Hb5.out Henv.out.size)).mono ?_
    rintro e w6 ⟨rfl, hb6⟩
    have Hb6 := Lib.hid (Hb5.out.trans (hb6.mono Hb5.out.size)); clear hb6 Hb5
    go_wp2
    go_ret
    exact ⟨rfl, Hb6.out⟩
end Go.Proofs.YtmfecoejechdmaaDoor
