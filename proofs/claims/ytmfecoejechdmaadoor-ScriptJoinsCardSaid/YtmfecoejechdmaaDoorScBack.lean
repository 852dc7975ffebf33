/-
  The statement ScriptBack's function answers true.
-/
import Derived.Test.YtmfecoejechdmaaDoorScTexts
import Derived.Test.YtmfecoejechdmaaDoorBackB
namespace Go.Proofs.YtmfecoejechdmaaDoor
open Go Go.RowKit

theorem stepsL_getD (l : List StepD) (d : StepD) : stepsL l.length (fun i => l.getD i d) = l := by
  unfold stepsL
  apply List.ext_getElem
  · simp
  · intro i h1 h2
    simp [List.getD_eq_getElem?_getD, List.getElem?_eq_getElem h2]

theorem stepsL_get (n : Nat) (f : Nat → StepD) (d : StepD) (i : Nat) (hi : i < n) : (stepsL n f).getD i d = f i := by
  unfold stepsL
  simp [List.getD_eq_getElem?_getD, hi]

theorem stepsL_ok {n : Nat} {f : Nat → StepD} (h : ∀ i, i < n → (f i).ok) : ∀ s ∈ stepsL n f, s.ok := by
  intro s hs
  unfold stepsL at hs
  obtain ⟨i, hi, rfl⟩ := List.mem_map.1 hs
  exact h i (by simpa using hi)

theorem parseD_len (s : List UInt8) : (parseD s).1.length ≤ 2048 := by
  by_cases h : (parseD s).2.2 = 0
  · exact (back_told (x := (parseD s).1) (ln := (parseD s).2.1) (by rw [← h])).2
  · rw [back_err h]; simp

def dfl : StepD := ⟨0, 0, 0, 0, 0⟩

theorem getD_mem {l : List StepD} {d : StepD} {i : Nat} (h : i < l.length) : l.getD i d ∈ l := by
  rw [List.getD_eq_getElem?_getD, List.getElem?_eq_getElem h]
  exact List.getElem_mem _

set_option maxRecDepth 100000 in
set_option maxHeartbeats 1600000 in
theorem scriptBack_any (a : Option Addr) (n c : Nat) (f : Nat → StepD) (s : List UInt8) (hsl : s.length ≤ 9223372036854775807) (w : World) (he : Env w) (hs : StepsIn w a n f) :
    Calls Tryd.prog 4 #[.slice a n c, .string ⟨s.toArray⟩] w fun e w' => e = .returned (.bool true) ∧ Below w.heap.size w w' := by
  have hbig := hs.big
  have Hs := Lib.hid hs; clear hs
  have Henv := Lib.hid he; clear he
  have hcell : ∀ W : World, (W.alloc (.cells #[.int .i64 n] 3)).cell? ⟨W.heap.size, 0, none⟩ = some (.int .i64 n) := fun W => by rw [cell_row (row_alloc _ _ _)]; rfl
  have Hcell := Lib.hid hcell; clear hcell
  have hb1 := (Below.refl w.heap.size w).alloc (Nat.le_refl _) (.cells #[.int .i64 n] 3)
  have Hb1 := Lib.hid hb1; clear hb1
  by_cases hn : 262144 < n
  · go_enter Tryd.func4, Tryd.ntmps4
    go_wp2_with (go_at_call 6; refine (beyond_yes _ n _ (Hcell.out _) hn hbig).mono ?_; rintro e w2 ⟨rfl, rfl⟩)
    go_ret
    exact ⟨rfl, Hb1.out⟩
  · obtain ⟨tx, er, hte⟩ : ∃ tx er, textD (stepsL n f) = (tx, er) := ⟨_, _, rfl⟩
    have Hte := Lib.hid hte; clear hte
    obtain ⟨ps, pl, pe, hpe⟩ : ∃ ps pl pe, parseD s = (ps, pl, pe) := ⟨_, _, _, rfl⟩
    have hpsl : ps.length ≤ 2048 := by have := parseD_len s; rw [hpe] at this; exact this
    have Hpe := Lib.hid hpe; clear hpe
    go_enter Tryd.func4, Tryd.ntmps4
    go_wp2_with (go_at_call 6; refine (beyond_one _ n _ (Hcell.out _) (by omega)).mono ?_; rintro e w2 ⟨rfl, rfl⟩)
    have ht := text_any a n c f hbig Hs.out.ok _ (Henv.out.below Hb1.out Henv.out.size) (Hs.out.below Hb1.out (Nat.le_refl _)).at'
    rw [Hte.out] at ht
    refine ht.mono ?_
    clear ht
    rintro e w2 ⟨rfl, hb2⟩
    have Hb2 := Lib.hid (Hb1.out.trans (hb2.mono Hb1.out.size)); clear hb2 Hb1
    simp only
    by_cases he0 : er = 0
    · subst he0
      have hback := back_text (stepsL_ok Hs.out.ok) Hte.out
      have Hback := Lib.hid hback; clear hback
      have htl : tx.length ≤ 9223372036854775807 := by
        have h := Hte.out
        unfold textD at h
        split at h
        · simp at h
        · have := (textGo_inv _ [] tx (stepsL_ok Hs.out.ok) (by simp) h).2.2; omega
      go_wp2_with fail
      have hp := parse_any tx htl _ (Henv.out.below Hb2.out Henv.out.size)
      unfold ParsePost at hp
      rw [Hback.out] at hp
      refine hp.mono ?_
      clear hp
      rintro e w3 ⟨⟨v, rfl, hown, _⟩, hb3⟩
      simp only at hown ⊢
      have Hb3 := Lib.hid (Hb2.out.trans (hb3.mono Hb2.out.size)); clear hb3 Hb2
      obtain ⟨a3, c3, rfl, _⟩ := own_len hown
      obtain ⟨_, hst3, _⟩ := own_steps (d := dfl) hown rfl
      clear hown
      rw [stepsL_len] at hst3 ⊢
      have Hst3 := Lib.hid hst3; clear hst3
      go_wp2_with fail
      refine (same_walk a3 a n c3 c _ f (by omega) _ Hst3.out (Hs.out.below Hb3.out (Nat.le_refl _)).at').mono ?_
      rintro e w4 ⟨rfl, hb4⟩
      obtain ⟨d4, rfl⟩ := hb4
      rw [show sameB (fun i => (stepsL n f).getD i dfl) f n = true from decide_eq_true (fun i hi => stepsL_get n f dfl i hi)]
      have Hbx : Hid (Below w.heap.size w (w3.drewN d4)) := Lib.hid (Hb3.out.trans ((drewN_below w3 d4).mono Hb3.out.size)); clear Hb3
      go_wp2_with fail
      generalize w3.drewN d4 = wx at Hbx ⊢
      clear Hst3
      have hp := parse_any s hsl wx (Henv.out.below Hbx.out Henv.out.size)
      unfold ParsePost at hp
      rw [Hpe.out] at hp
      refine hp.mono ?_
      clear hp
      rintro e w5 ⟨⟨v5, rfl, hown5, _⟩, hb5⟩
      simp only at hown5 ⊢
      have Hb5 := Lib.hid (Hbx.out.trans (hb5.mono Hbx.out.size)); clear hb5 Hbx
      obtain ⟨a5, c5, rfl, _⟩ := own_len hown5
      obtain ⟨_, hst5, _⟩ := own_steps (d := dfl) hown5 rfl
      have Hst5 := Lib.hid hst5; clear hst5 hown5
      by_cases hpe0 : pe = 0
      · subst hpe0
        have htx := back_parse Hpe.out
        have hok := (back_told Hpe.out).1
        go_wp2_with fail
        have ht := text_any a5 ps.length c5 (fun i => ps.getD i dfl) (by omega) (fun i hi => hok _ (getD_mem hi)) _ (Henv.out.below Hb5.out Henv.out.size) Hst5.out
        rw [stepsL_getD, htx] at ht
        refine ht.mono ?_
        clear ht htx
        rintro e w6 ⟨rfl, hb6⟩
        simp only
        have Hb6 := Lib.hid (Hb5.out.trans (hb6.mono Hb5.out.size)); clear hb6 Hb5
        go_wp2_with fail
        refine (alive_any _ (Henv.out.below Hb6.out Henv.out.size)).mono ?_
        rintro e w7 ⟨rfl, hb7⟩
        have Hb7 := Lib.hid (Hb6.out.trans (hb7.mono Hb6.out.size)); clear hb7 Hb6
        go_wp2
        go_ret
        exact ⟨rfl, Hb7.out⟩
      · have hnil : ps = [] := by
          have h := back_err (s := s) (by rw [Hpe.out]; exact hpe0)
          rw [Hpe.out] at h
          exact h
        subst hnil
        go_wp2_with fail
        refine (alive_any _ (Henv.out.below Hb5.out Henv.out.size)).mono ?_
        rintro e w7 ⟨rfl, hb7⟩
        have Hb7 := Lib.hid (Hb5.out.trans (hb7.mono Hb5.out.size)); clear hb7 Hb5
        go_wp2
        go_ret
        exact ⟨rfl, Hb7.out⟩
    · have Hbx := Hb2; clear Hb2
      go_wp2_with fail
      generalize w2 = wx at Hbx ⊢
      have hp := parse_any s hsl wx (Henv.out.below Hbx.out Henv.out.size)
      unfold ParsePost at hp
      rw [Hpe.out] at hp
      refine hp.mono ?_
      clear hp
      rintro e w5 ⟨⟨v5, rfl, hown5, _⟩, hb5⟩
      simp only at hown5 ⊢
      have Hb5 := Lib.hid (Hbx.out.trans (hb5.mono Hbx.out.size)); clear hb5 Hbx
      obtain ⟨a5, c5, rfl, _⟩ := own_len hown5
      obtain ⟨_, hst5, _⟩ := own_steps (d := dfl) hown5 rfl
      have Hst5 := Lib.hid hst5; clear hst5 hown5
      by_cases hpe0 : pe = 0
      · subst hpe0
        have htx := back_parse Hpe.out
        have hok := (back_told Hpe.out).1
        go_wp2_with fail
        have ht := text_any a5 ps.length c5 (fun i => ps.getD i dfl) (by omega) (fun i hi => hok _ (getD_mem hi)) _ (Henv.out.below Hb5.out Henv.out.size) Hst5.out
        rw [stepsL_getD, htx] at ht
        refine ht.mono ?_
        clear ht htx
        rintro e w6 ⟨rfl, hb6⟩
        simp only
        have Hb6 := Lib.hid (Hb5.out.trans (hb6.mono Hb5.out.size)); clear hb6 Hb5
        go_wp2_with fail
        refine (alive_any _ (Henv.out.below Hb6.out Henv.out.size)).mono ?_
        rintro e w7 ⟨rfl, hb7⟩
        have Hb7 := Lib.hid (Hb6.out.trans (hb7.mono Hb6.out.size)); clear hb7 Hb6
        go_wp2
        go_ret
        exact ⟨rfl, Hb7.out⟩
      · have hnil : ps = [] := by
          have h := back_err (s := s) (by rw [Hpe.out]; exact hpe0)
          rw [Hpe.out] at h
          exact h
        subst hnil
        go_wp2_with fail
        refine (alive_any _ (Henv.out.below Hb5.out Henv.out.size)).mono ?_
        rintro e w7 ⟨rfl, hb7⟩
        have Hb7 := Lib.hid (Hb5.out.trans (hb7.mono Hb5.out.size)); clear hb7 Hb5
        go_wp2
        go_ret
        exact ⟨rfl, Hb7.out⟩
end Go.Proofs.YtmfecoejechdmaaDoor
