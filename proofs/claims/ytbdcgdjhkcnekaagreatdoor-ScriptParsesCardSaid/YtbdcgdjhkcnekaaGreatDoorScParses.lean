/-
  The statement ScriptParses' function answers true.
-/
import Derived.Test.YtbdcgdjhkcnekaaGreatDoorApart
import Derived.Test.YtbdcgdjhkcnekaaGreatDoorRParse
import Derived.Test.YtbdcgdjhkcnekaaGreatDoorAlive
import Derived.Test.YtbdcgdjhkcnekaaGreatDoorBackB
import Derived.Deep.WholeRow
namespace Go.Proofs.YtbdcgdjhkcnekaaGreatDoor
open Go Go.RowKit

theorem parsed_len (s : List UInt8) : (parseD s).1.length ≤ 2048 := by
  by_cases h : (parseD s).2.2 = 0
  · exact (back_told (x := (parseD s).1) (ln := (parseD s).2.1) (by rw [← h])).2
  · rw [back_err h]; simp

theorem own_lt {B : Nat} {v : Value} {l : List StepD} {w : World} (h : OwnSteps B v l w) {k : Nat} (hk : v.ownBlock = some k) : B ≤ k ∧ k < w.heap.size := by
  rcases h.2 with ⟨e, _⟩ | ⟨r, cap', cur, e, hb, hr, _⟩
  · rw [e] at hk; simp [Value.ownBlock] at hk
  · rw [e] at hk
    have : r = k := by simpa [Value.ownBlock] using hk
    subst this
    exact ⟨hb, (Array.getElem?_eq_some_iff.1 hr).1⟩

theorem own_low {B : Nat} {v : Value} {l : List StepD} {w : World} (h : OwnSteps B v l w) : OwnSteps 0 v l w := by
  refine ⟨h.1, ?_⟩
  rcases h.2 with h0 | ⟨r, cap', cur, e, hb, r2⟩
  · exact .inl h0
  · exact .inr ⟨r, cap', cur, e, Nat.zero_le _, r2⟩

theorem own_below {B b : Nat} {v : Value} {l : List StepD} {w w' : World} (h : OwnSteps B v l w) (hb : Below b w w') (hlt : ∀ k, v.ownBlock = some k → k < b) : OwnSteps B v l w' := by
  refine ⟨h.1, ?_⟩
  rcases h.2 with h0 | ⟨r, cap', cur, e, h1, h2, h3⟩
  · exact .inl h0
  · exact .inr ⟨r, cap', cur, e, h1, (hb.block r (hlt r (by rw [e]; rfl))).trans h2, h3⟩

def dfl : StepD := ⟨0, 0, 0, 0, 0⟩

/-- Two lists, by their number. -/
def two {α : Type} (x y : α) : Nat → α := fun i => if i = 0 then x else y

set_option maxHeartbeats 800000 in
/-- The Book that has two lists. -/
theorem held_two {w : World} {b : Nat} {va vb lv : Value} {x : List StepD} (hb : BookAt w b 2 lv) (hrow : w.ownsRow (b + 1) 96 2 lv 2 (heldV va 0 ++ heldV vb 1)) {Ba Bb : Nat} (ha : OwnSteps Ba va x w) (hbb : OwnSteps Bb vb x w) :
    ∃ g cap, lv = .slice (some ⟨g, 0, none⟩) 2 cap ∧ b < g ∧ Held2 w b g cap (two va vb) (two x x) := by
  rcases hrow.2 with ⟨_, h0⟩ | ⟨g, cap, cur, rfl, hg, hh, hn, hm, hs, ht⟩
  · omega
  · refine ⟨g, cap, rfl, hg, ⟨hb, ⟨cur, hh, fun i hi => ?_⟩, fun i hi => ?_⟩⟩
    · have hc : ∀ j, j < 4 → cur[j]? = (heldV va 0 ++ heldV vb 1)[j]? := fun j hj => by
        rw [← ht, List.getElem?_take, if_pos (by omega), Array.getElem?_toList]
      have : i = 0 ∨ i = 1 := by omega
      rcases this with rfl | rfl
      · exact ⟨hc 0 (by omega), hc 1 (by omega)⟩
      · exact ⟨hc 2 (by omega), hc 3 (by omega)⟩
    · have : i = 0 ∨ i = 1 := by omega
      rcases this with rfl | rfl
      · exact own_low ha
      · exact own_low hbb

theorem run_build_book (W : World) : (Instr.build 62 #[]).run Tryz.prog W = .ok (.agg (bookC 0 (.slice none 0 0))) W := by kernel_rfl
theorem run_alloc_book (W : World) : (Instr.alloc 62 true (.tuple #[])).run Tryz.prog W = .ok (.pointer (some ⟨W.heap.size, 0, none⟩)) (W.alloc (.cells (bookC 0 (.slice none 0 0)) 62)) := by kernel_rfl
theorem wp_build_book {o : Oper} {a : Act} {w : World} {K : Act → World → Prop} {Q : Exit → Act → World → Prop} (ho : o.op = .build 62 #[]) (h : K (a.put o.dst (.agg (bookC 0 (.slice none 0 0)))) w) : o.wp Tryz.prog a w K Q := by
  unfold Oper.wp
  simp [execOp, ho, run_build_book, Result.andThen]
  exact h
theorem wp_alloc_book {o : Oper} {a : Act} {w : World} {K : Act → World → Prop} {Q : Exit → Act → World → Prop} (ho : o.op = .alloc 62) (h : K (a.put o.dst (.pointer (some ⟨w.heap.size, 0, none⟩))) (w.alloc (.cells (bookC 0 (.slice none 0 0)) 62))) : o.wp Tryz.prog a w K Q := by
  unfold Oper.wp
  simp [execOp, ho, run_alloc_book, Result.andThen]
  exact h
theorem wpList_build_book {ops : Array Oper} {rest : List Oper} {o : Oper} {a : Act} {w : World} {Q : Exit → Act → World → Prop} (hg : o.guard = none) (ho : o.op = .build 62 #[])
    (h : wpList Tryz.prog ops Q rest (a.put o.dst (.agg (bookC 0 (.slice none 0 0)))) w) : wpList Tryz.prog ops Q (o :: rest) a w :=
  wpList_plain hg fun _ hK => wp_build_book ho (hK _ _ h)
theorem wpList_alloc_book {ops : Array Oper} {rest : List Oper} {o : Oper} {a : Act} {w : World} {Q : Exit → Act → World → Prop} (hg : o.guard = none) (ho : o.op = .alloc 62)
    (h : wpList Tryz.prog ops Q rest (a.put o.dst (.pointer (some ⟨w.heap.size, 0, none⟩))) (w.alloc (.cells (bookC 0 (.slice none 0 0)) 62))) : wpList Tryz.prog ops Q (o :: rest) a w :=
  wpList_plain hg fun _ hK => wp_alloc_book ho (hK _ _ h)

set_option maxRecDepth 100000 in
set_option maxHeartbeats 1600000 in
theorem scriptParses_any (l : List UInt8) (hl : l.length ≤ 1152921504606846976) (w : World) (he : Env w) :
    Calls Tryz.prog 3 #[.string ⟨l.toArray⟩] w fun e w' => e = .returned (.bool true) ∧ Below w.heap.size w w' := by
  obtain ⟨x, xl, xe, hpx⟩ : ∃ x xl xe, parseD l = (x, xl, xe) := ⟨_, _, _, rfl⟩
  have hxl : x.length ≤ 2048 := by have := parsed_len l; rw [hpx] at this; exact this
  have Henv := Lib.hid he; clear he
  have hpa := fun W hW => parse_any l (by omega) W hW
  have hpr := fun W => rparse_any l (by omega) W
  unfold ParsePost at hpa hpr
  rw [hpx] at hpa hpr
  have Hpa := Lib.hid hpa; clear hpa
  have Hpr := Lib.hid hpr; clear hpr
  clear hpx
  go_enter Tryz.func3, Tryz.ntmps3
  go_wp2_with fail
  refine (Hpa.out _ Henv.out).mono ?_
  rintro e w1 ⟨⟨vx, rfl, hownx, _⟩, hb1⟩
  simp only at hownx ⊢
  obtain ⟨ax, cx, rfl, _⟩ := own_len hownx
  have Hownx := Lib.hid hownx; clear hownx
  have Hb1 := Lib.hid hb1; clear hb1
  go_wp2_with fail
  refine (Hpa.out _ (Henv.out.below Hb1.out Henv.out.size)).mono ?_
  rintro e w2 ⟨⟨vy, rfl, howny, _⟩, hb2⟩
  simp only at howny ⊢
  obtain ⟨ay, cy, rfl, _⟩ := own_len howny
  have Hownx2 := Lib.hid (Hownx.out.keep hb2)
  have Howny := Lib.hid howny; clear howny
  have hs12 := hb2.size
  have Hb2 := Lib.hid (Hb1.out.trans (hb2.mono Hb1.out.size)); clear hb2
  go_wp2_with fail
  refine (Hpr.out _).mono ?_
  rintro e w3 ⟨⟨vz, rfl, hownz, _⟩, hb3⟩
  simp only at hownz ⊢
  obtain ⟨az, cz, rfl, _⟩ := own_len hownz
  have Hownx3 := Lib.hid (Hownx2.out.keep hb3); clear Hownx2
  have Howny3 := Lib.hid (Howny.out.keep hb3)
  have Hownz := Lib.hid hownz; clear hownz
  have hfar : ∀ k, ((Value.slice ax x.length cx).ownBlock = some k → w.heap.size ≤ k ∧ k < w1.heap.size) ∧ ((Value.slice ay x.length cy).ownBlock = some k → w1.heap.size ≤ k ∧ k < w2.heap.size) := fun k => ⟨fun h => own_lt Hownx.out h, fun h => own_lt Howny.out h⟩
  have hsz : w.heap.size ≤ w1.heap.size ∧ w1.heap.size ≤ w2.heap.size ∧ w2.heap.size ≤ w3.heap.size := ⟨Hb1.out.size, hs12, hb3.size⟩
  have Hfar := Lib.hid hfar; clear hfar
  have Hsz := Lib.hid hsz; clear hsz hs12
  have Hb3 := Lib.hid (Hb2.out.trans (hb3.mono Hb2.out.size)); clear hb3
  have hxs := own_steps (d := dfl) Hownx3.out rfl
  have hys := own_steps (d := dfl) Howny3.out rfl
  have hzs := own_steps (d := dfl) Hownz.out rfl
  have Hxs := Lib.hid hxs; clear hxs
  have Hys := Lib.hid hys; clear hys
  have Hzs := Lib.hid hzs; clear hzs
  go_wp2_with fail
  have hsame1 := same_walk ax az x.length cx cz (fun i => x.getD i dfl) (fun i => x.getD i dfl) (by omega) w3 Hxs.out.2.1 Hzs.out.2.1
  have hsame2 := fun d => same_walk ay az x.length cy cz (fun i => x.getD i dfl) (fun i => x.getD i dfl) (by omega) (w3.drewN d) Hys.out.2.1 Hzs.out.2.1
  rw [show sameB (fun i => x.getD i dfl) (fun i => x.getD i dfl) x.length = true from decide_eq_true (fun _ _ => rfl)] at hsame1
  rw [show sameB (fun i => x.getD i dfl) (fun i => x.getD i dfl) x.length = true from decide_eq_true (fun _ _ => rfl)] at hsame2
  have Hsame2 := Lib.hid hsame2; clear hsame2
  refine hsame1.mono ?_
  clear hsame1
  rintro e w4x ⟨rfl, d4, rfl⟩
  go_wp2_with fail
  refine (Hsame2.out _).mono ?_
  rintro e w4x ⟨rfl, d5, rfl⟩
  clear Hsame2 Hxs Hys Hzs
  obtain ⟨w4, hw4⟩ : ∃ w4, w4 = (w3.drewN d4).drewN d5 := ⟨_, rfl⟩
  rw [← hw4]
  have hx4 : OwnSteps w.heap.size (.slice ax x.length cx) x w4 := by rw [hw4]; exact Hownx3.out
  have hy4 : OwnSteps w1.heap.size (.slice ay x.length cy) x w4 := by rw [hw4]; exact Howny3.out
  have hb4 : Below w.heap.size w w4 := by rw [hw4]; exact ⟨Hb3.out.os, Hb3.out.tape, Hb3.out.output, Hb3.out.size, Hb3.out.block⟩
  have hs4 : w2.heap.size ≤ w4.heap.size := by rw [hw4]; exact Hsz.out.2.2
  have Hx4 := Lib.hid hx4; clear hx4
  have Hy4 := Lib.hid hy4; clear hy4
  have Hb4 := Lib.hid hb4; clear hb4
  have Hs4 := Lib.hid hs4; clear hs4
  clear hw4 Hownx3 Howny3 Hownx Howny Hownz Hb3 Hb2 Hb1 Hpa Hpr
  have hstore := run_storeCells_new (P := Tryz.prog) w4 62 (bookC 0 (.slice none 0 0)) (bookC 0 (.slice none 0 0)) (by kernel_rfl) rfl (by kernel_rfl)
  go_wp2_with (first
    | (refine wpList_build_book rfl rfl ?_)
    | (refine wpList_alloc_book rfl rfl ?_))
  clear hstore
  have hown5 := World.ownsRow_nil (w4.alloc (.cells (bookC 0 (.slice none 0 0)) 62)) (w4.heap.size + 1) 96 2
  have hbk5 : BookAt (w4.alloc (.cells (bookC 0 (.slice none 0 0)) 62)) w4.heap.size 0 (.slice none 0 0) := row_alloc _ _ _
  have hx5 := Hx4.out.keep ((Below.refl w4.heap.size w4).alloc (Nat.le_refl _) (.cells (bookC 0 (.slice none 0 0)) 62))
  have hy5 := Hy4.out.keep ((Below.refl w4.heap.size w4).alloc (Nat.le_refl _) (.cells (bookC 0 (.slice none 0 0)) 62))
  have hb5 := Hb4.out.alloc Hb4.out.size (.cells (bookC 0 (.slice none 0 0)) 62)
  have hs5 : w4.heap.size < (w4.alloc (.cells (bookC 0 (.slice none 0 0)) 62)).heap.size := by simp
  obtain ⟨b, hbe⟩ : ∃ b, b = w4.heap.size := ⟨_, rfl⟩
  have hbw2 : w2.heap.size ≤ b := by rw [hbe]; exact Hs4.out
  rw [← hbe] at hown5 hbk5 hs5 ⊢
  clear hbe
  generalize w4.alloc (.cells (bookC 0 (.slice none 0 0)) 62) = w5 at hown5 hbk5 hx5 hy5 hb5 hs5 ⊢
  clear Hx4 Hy4 Hb4 Hs4
  have Hown5 := Lib.hid hown5; clear hown5
  have Hbk5 := Lib.hid hbk5; clear hbk5
  have Hx5 := Lib.hid hx5; clear hx5
  have Hy5 := Lib.hid hy5; clear hy5
  have Hb5 := Lib.hid hb5; clear hb5
  have Hbw2 := Lib.hid hbw2; clear hbw2
  have Hs5 := Lib.hid hs5; clear hs5
  refine (steps_any b 0 (by omega) (.slice none 0 0) [] ax x.length cx _ Hbk5.out Hown5.out).mono ?_
  rintro e w6 ⟨rfl, lv1, hbk6, hown6, hb6⟩
  have hxb : ∀ k, (Value.slice ax x.length cx).ownBlock = some k → k < b := fun k hk => Nat.lt_of_lt_of_le ((Hfar.out k).1 hk).2 (Nat.le_trans Hsz.out.2.1 Hbw2.out)
  have hyb : ∀ k, (Value.slice ay x.length cy).ownBlock = some k → k < b := fun k hk => Nat.lt_of_lt_of_le ((Hfar.out k).2 hk).2 Hbw2.out
  have Hxb := Lib.hid hxb; clear hxb
  have Hyb := Lib.hid hyb; clear hyb
  have Hx6 := Lib.hid (own_below Hx5.out hb6 Hxb.out); clear Hx5
  have Hy6 := Lib.hid (own_below Hy5.out hb6 Hyb.out); clear Hy5
  have Hs6 := Lib.hid (Nat.lt_of_lt_of_le Hs5.out hb6.size)
  have Hwb := Lib.hid (show w.heap.size ≤ b from Nat.le_trans Hsz.out.1 (Nat.le_trans Hsz.out.2.1 Hbw2.out))
  have Hb6 := Lib.hid (Hb5.out.trans (hb6.mono Hwb.out)); clear hb6 Hb5 Hbk5 Hown5 Hs5
  have Hbk6 := Lib.hid hbk6; clear hbk6
  have Hown6 := Lib.hid hown6; clear hown6
  go_wp2_with fail
  refine (steps_any b 1 (by omega) lv1 (heldV (.slice ax x.length cx) 0) ay x.length cy _ Hbk6.out Hown6.out).mono ?_
  rintro e w7 ⟨rfl, lv2, hbk7, hown7, hb7⟩
  have Hx7 := Lib.hid (own_below Hx6.out hb7 Hxb.out); clear Hx6
  have Hy7 := Lib.hid (own_below Hy6.out hb7 Hyb.out); clear Hy6
  have Hs7 := Lib.hid (Nat.lt_of_lt_of_le Hs6.out hb7.size)
  have Hb7 := Lib.hid (Hb6.out.trans (hb7.mono Hwb.out)); clear hb7 Hb6 Hbk6 Hown6 Hs6
  obtain ⟨g, cap, rfl, hbg, hheld⟩ := held_two (va := .slice ax x.length cx) (vb := .slice ay x.length cy) hbk7 hown7 Hx7.out Hy7.out
  have hfar2 : Far2 w.heap.size b g (two (.slice ax x.length cx) (.slice ay x.length cy)) := by
    refine ⟨fun i hi k hk => ?_, fun k hk hk1 => ?_, Hwb.out, Nat.le_trans Hwb.out (Nat.le_of_lt hbg), Nat.ne_of_lt hbg⟩
    · have : i = 0 ∨ i = 1 := by omega
      rcases this with rfl | rfl
      · have h1 := (Hfar.out k).1 hk
        have h2 := Hxb.out k hk
        exact ⟨h1.1, Nat.ne_of_lt h2, Nat.ne_of_lt (Nat.lt_trans h2 hbg)⟩
      · have h1 := (Hfar.out k).2 hk
        have h2 := Hyb.out k hk
        exact ⟨Nat.le_trans Hsz.out.1 h1.1, Nat.ne_of_lt h2, Nat.ne_of_lt (Nat.lt_trans h2 hbg)⟩
    · have h1 := (Hfar.out k).1 hk
      have h2 := (Hfar.out k).2 hk1
      omega
  have Hheld := Lib.hid hheld; clear hheld hbk7 hown7
  have Hfar2 := Lib.hid hfar2; clear hfar2 hbg
  clear Hfar Hsz Hxb Hyb Hx7 Hy7
  go_wp2_with fail
  refine (apart_any w.heap.size b g cap _ _ _ Hheld.out Hfar2.out Hb7.out.size (fun i _ => by unfold two; split <;> exact hxl)).mono ?_
  rintro e w8 ⟨rfl, hb8⟩
  have Hb8 := Lib.hid (Hb7.out.trans hb8); clear hb8 Hheld Hfar2 Hb7
  go_wp2_with fail
  refine (alive_any _ (Henv.out.below Hb8.out Henv.out.size)).mono ?_
  rintro e w9 ⟨rfl, hb9⟩
  have Hb9 := Lib.hid (Hb8.out.trans (hb9.mono Hb8.out.size)); clear hb9 Hb8
  go_wp2
  go_ret
  exact ⟨rfl, Hb9.out⟩
end Go.Proofs.YtbdcgdjhkcnekaaGreatDoor
