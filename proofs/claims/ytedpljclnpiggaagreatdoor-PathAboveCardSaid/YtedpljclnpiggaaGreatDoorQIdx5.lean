/-
  index at a tree of two leaves: Direct of the root.
-/
import Derived.RangeFuncNested
import Derived.RangeFuncBound
import Derived.RangeFuncCalls
import Derived.RangeFuncLeaves
import Derived.OwnWalkIn
import Derived.TacticsInMore
import Derived.Deep.DeepCutAuto
import Derived.Deep.CutBlock
import Derived.Test.YtedpljclnpiggaaGreatDoorQTree3
import Derived.Test.YtedpljclnpiggaaGreatDoorQMake
set_option linter.unusedVariables false
set_option linter.unusedSimpArgs false
namespace Go.Proofs.YtedpljclnpiggaaGreatDoor
open Go Go.RowKit

set_option maxRecDepth 100000 in
set_option maxHeartbeats 800000 in
theorem iup_1 (w : World) (h : TzEnv w) (hsz : 3 ≤ w.heap.size) : Calls Tryz.prog 286 #[.int .i64 1, .int .i64 2] w (NewI [1] w) := by
  obtain ⟨i0, hi0, hz0, hz1, hz2⟩ := info_parts infoI
  have H := Lib.hid h; clear h
  go_enter Tryz.func286, Tryz.ntmps286
  go_wp2_with (go_at_call 306; refine (iin_1 _).mono ?_; rintro e wx ⟨rfl, hwx⟩; subst wx)
  refine wp_loop_rounds 3 ?_
  rw [rounds_succ]
  have hn1 : ∀ W : World, OwnI (.slice none 0 0) [] W := ownI_nil
  have Hn1 := Lib.hid hn1; clear hn1
  go_wp2_with (at_builtin; refine wpList_append_lies _ rfl (.tmp 17) (.tmp 19) 27 rfl 0 3 i0 (.int .i64 0) 1 8 Tryz.underlying27 hi0 hz0 hz1 hz2 rfl (by decide) (.slice none 0 0) 0 [] rfl (Hn1.out _) ⟨w.heap.size, 0, none⟩ 1 1 [intV 1] rfl rfl (cell_one_new _ _ _) (by intro u hu; simp [intV] at hu; rw [hu]; rfl) (by omega) (by unfold maxLen; omega) (by omega) (Nat.zero_le _) (w.heap.size + 1) (by simp) ?_; intro g1 c1 w1 hown1 hgrow1 hat1 hlt1; have Hown1 := Lib.hid hown1; clear hown1; have hg1 : g1 = w.heap.size + 1 := hat1.elim (fun e => by simp [Value.ownBlock] at e) id; have Hb1 := Lib.hid (((Below.refl w.heap.size w).alloc (Nat.le_refl _) (.cells #[.int .i64 1] 3)).grown hgrow1 (by simp) (fun k hk => by simp [Value.ownBlock] at hk)); clear hgrow1 hat1; have Hlt1 := Lib.hid hlt1; clear hlt1; have Hg1 := Lib.hid hg1; clear hg1)
  refine (iparent_1 _ (H.out.below Hb1.out hsz)).mono ?_
  rintro e wx ⟨rfl, hwx⟩
  subst wx
  go_wp2
  rw [rounds_succ]
  go_wp2
  go_ret
  have hg := Hg1.out
  exact newI_mk Hown1.out (by omega) Hb1.out

set_option maxRecDepth 100000 in
theorem idirect_1 (w : World) (h : TzEnv w) (hsz : 3 ≤ w.heap.size) : Calls Tryz.prog 186 #[.int .i64 1, .int .i64 2] w fun e w' => e = .returned (.slice none 0 0) ∧ Below w.heap.size w w' := by
  have H := Lib.hid (iup_1 w h hsz); clear h hsz
  go_enter Tryz.func186, Tryz.ntmps186
  go_wp2_with fail
  refine H.out.mono ?_
  intro e w1 h1
  obtain ⟨g, c, rfl, hc, hc2, hg, c0, hb⟩ := newI_one h1
  unfold maxLen at hc2
  have Hg := Lib.hid hg; clear hg h1
  have Hb := Lib.hid hb; clear hb
  go_wp2
  go_ret
  exact ⟨rfl, Hb.out⟩
end Go.Proofs.YtedpljclnpiggaaGreatDoor

/-
  path.over: the iterator over a node's forebears, at a tree of two leaves.
-/
namespace Go.Proofs.YtedpljclnpiggaaGreatDoor
open Go Go.RowKit

abbrev boxI (n : Int) : Obj := .cells #[.int .i64 n] 3 (0, 0)

set_option maxRecDepth 100000 in
theorem over_any (v : Value) (n : Int) (a : Option Addr) (k c : Nat) (hv : v = .slice a k c) (w : World) :
    Calls Tryz.prog 48 #[.agg #[v], .int .i64 n] w fun e w' =>
      e = .returned (.func (.func 185) #[] #[.pointer (some ⟨w.heap.size + 1, 0, none⟩), .pointer (some ⟨w.heap.size, 0, none⟩)]) ∧ w' = (w.alloc (.cells #[v] 44 (0, 0))).alloc (boxI n) := by
  subst hv
  go_enter Tryz.func48, Tryz.ntmps48
  go_wp2
  go_ret
  simp

/-- What the iterator reads. -/
structure OvAt (W : World) (bn bt b c : Nat) (n : Int) (p0 m0 e0 p1 p2 m2 e2 : Int) : Prop where
  n0 : W.heap[bn]? = some (boxI n)
  t0 : W.heap[bt]? = some (.cells #[.slice (some ⟨b, 0, none⟩) 3 c] 44 (0, 0))
  tr : T3 W b p0 m0 e0 p1 p2 m2 e2
  tz : TzEnv W
  sz : 3 ≤ W.heap.size
theorem OvAt.new {W W' : World} {bn bt b c : Nat} {n p0 m0 e0 p1 p2 m2 e2 : Int} (h : OvAt W bn bt b c n p0 m0 e0 p1 p2 m2 e2) (hb : Below W.heap.size W W') : OvAt W' bn bt b c n p0 m0 e0 p1 p2 m2 e2 :=
  ⟨(hb.block bn (Array.getElem?_eq_some_iff.1 h.n0).1).trans h.n0, (hb.block bt (Array.getElem?_eq_some_iff.1 h.t0).1).trans h.t0, h.tr.new hb, h.tz.below hb h.sz, Nat.le_trans h.sz hb.size⟩

/-- What a tree of lives must bear. -/
structure OkT (p0 m0 e0 p1 p2 m2 e2 : Int) : Prop where
  h0 : 0 < p0
  h1 : 0 ≤ p1
  h2 : 0 < p2
  hm0 : 0 ≤ m0 ∧ m0 ≤ 1000
  hm2 : 0 ≤ m2 ∧ m2 ≤ 1000
  hm : m0 ≠ m2
  he0 : 0 ≤ e0 ∧ e0 ≤ 1000
  he2 : 0 ≤ e2 ∧ e2 ≤ 1000

set_option maxRecDepth 100000 in
set_option maxHeartbeats 1600000 in
theorem over1_none (y : Value) (bn bt b c : Nat) (p0 m0 e0 p1 p2 m2 e2 : Int) (ok : OkT p0 m0 e0 p1 p2 m2 e2) (W : World) (h : OvAt W bn bt b c 1 p0 m0 e0 p1 p2 m2 e2) :
    Calls Tryz.prog 185 #[y, .pointer (some ⟨bn, 0, none⟩), .pointer (some ⟨bt, 0, none⟩)] W fun e W' => (∃ v, e = .returned v) ∧ Below W.heap.size W W' := by
  have H := Lib.hid h
  have hsz := fun W1 (hW : OvAt W1 bn bt b c 1 p0 m0 e0 p1 p2 m2 e2) => size_3 b c p0 m0 e0 p1 p2 m2 e2 ok.h0 ok.h1 ok.h2 ok.hm0 ok.hm2 ok.hm ok.he0 ok.he2 W1 hW.tz hW.sz hW.tr
  have Hsz := Lib.hid hsz; clear hsz
  have k0 := cell_row h.n0 0
  have k1 := cell_row h.t0 0
  clear h
  go_enter Tryz.func185, Tryz.ntmps185
  go_wp2_with fail
  go_region_with (first | (go_at_call 187; refine (Hsz.out _ (by exact H.out.new ⟨rfl, rfl, rfl, Nat.le_refl _, fun _ _ => rfl⟩)).mono ?_; rintro e w1 ⟨rfl, hb1⟩; have hb1' : Below W.heap.size W w1 := ⟨hb1.os, hb1.tape, hb1.output, hb1.size, hb1.block⟩; have H1 := Lib.hid (H.out.new hb1'); have Hb1 := Lib.hid hb1'; have k0 := cell_row H1.out.n0 0; have k1 := cell_row H1.out.t0 0; clear hb1 hb1') | (go_at_call 186; refine (idirect_1 _ H1.out.tz H1.out.sz).mono ?_; rintro e w2 ⟨rfl, hb2⟩; have H2 := Lib.hid (H1.out.new hb2); have Hb2 := Lib.hid (Hb1.out.trans (hb2.mono Hb1.out.size)); have k0 := cell_row H2.out.n0 0; have k1 := cell_row H2.out.t0 0; clear hb2))
  all_goals
    go_wp2
    refine wp_loop_rounds 1 ?_
    rw [rounds_succ]
    go_wp2
    go_end0
    exact ⟨⟨_, rfl⟩, Hb2.out⟩

theorem abides_below {β : Type} {B : Nat} {J : β → World → Prop} (h : AbidesFrom B J) {s : β} {W W' : World} (hs : J s W) (hb : Below W.heap.size W W') : J s W' :=
  h s W W' none hs ⟨hb.os, hb.tape, hb.output, hb.size, fun k hk _ => hb.block k hk⟩ (fun r e => by cases e)

theorem over_none_stops (n bn bt b c : Nat) (p0 m0 e0 p1 p2 m2 e2 : Int) (ok : OkT p0 m0 e0 p1 p2 m2 e2) (w : World) (h : OvAt w bn bt b c 1 p0 m0 e0 p1 p2 m2 e2) :
    SeqStopsK Fence.wide n Tryz.prog 185 #[.pointer (some ⟨bn, 0, none⟩), .pointer (some ⟨bt, 0, none⟩)] (fun _ : Unit => #[.int .i64 1]) KeepsWalks (fun xs => xs = []) (fun _ => False) 0 w := by
  intro l J Jx W hW hJ _ _ h0
  refine callsIn_wide.2 ?_
  refine (over1_none _ bn bt b c p0 m0 e0 p1 p2 m2 e2 ok W (h.new hW)).mono ?_
  rintro e W' ⟨hv, hb⟩
  exact ⟨hv, .inl ⟨[], rfl, abides_below hJ h0 hb⟩⟩
end Go.Proofs.YtedpljclnpiggaaGreatDoor

/-
  path.over at a node with one forebear.
-/
namespace Go.Proofs.YtedpljclnpiggaaGreatDoor
open Go Go.RowKit

set_option maxRecDepth 100000 in
set_option maxHeartbeats 1600000 in
theorem over_one_stops (n bn bt b c : Nat) (p0 m0 e0 p1 p2 m2 e2 : Int) (hp1 : p1 ≠ 0) (ok : OkT p0 m0 e0 p1 p2 m2 e2) (w : World) (h : OvAt w bn bt b c 2 p0 m0 e0 p1 p2 m2 e2) :
    SeqStopsK Fence.wide n Tryz.prog 185 #[.pointer (some ⟨bn, 0, none⟩), .pointer (some ⟨bt, 0, none⟩)] (fun _ : Unit => #[.int .i64 1]) KeepsWalks (fun xs => xs = [()]) (fun xs => xs = [()]) 1 w := by
  intro l J Jx W hW hJ _ hY h0
  refine callsIn_wide.2 ?_
  have H := Lib.hid (h.new hW)
  have hsz := fun W1 (hW : OvAt W1 bn bt b c 2 p0 m0 e0 p1 p2 m2 e2) => size_3 b c p0 m0 e0 p1 p2 m2 e2 ok.h0 ok.h1 ok.h2 ok.hm0 ok.hm2 ok.hm ok.he0 ok.he2 W1 hW.tz hW.sz hW.tr
  have Hsz := Lib.hid hsz; clear hsz
  have k0 := cell_row H.out.n0 0
  have k1 := cell_row H.out.t0 0
  have HY := Lib.hid hY
  have HJ := Lib.hid (fun W' (hb : Below W.heap.size W W') => abides_below hJ h0 hb)
  clear h hY hJ h0 hW
  show Calls _ _ #[.func (.yield l) #[] #[], .pointer (some ⟨bn, 0, none⟩), .pointer (some ⟨bt, 0, none⟩)] _ _
  go_enter Tryz.func185, Tryz.ntmps185
  go_upto_region 0 with fail
  go_cut [9, 10, 11] (fun v9 v10 v11 W' => OvAt W' bn bt b c 2 p0 m0 e0 p1 p2 m2 e2 ∧ Below W.heap.size W W' ∧ v10 = .int .i64 1 ∧ v11 = .int .i64 0 ∧ ∃ g, v9 = .slice (some ⟨g, 1, none⟩) 1 1 ∧ W'.cell? ⟨g, 1, none⟩ = some (.int .i64 1))
  case first =>
    go_region_with (first | (go_at_call 187; refine (Hsz.out _ (by exact H.out.new ⟨rfl, rfl, rfl, Nat.le_refl _, fun _ _ => rfl⟩)).mono ?_; rintro e w1 ⟨rfl, hb1⟩; have hb1' : Below W.heap.size W w1 := ⟨hb1.os, hb1.tape, hb1.output, hb1.size, hb1.block⟩; have H1 := Lib.hid (H.out.new hb1'); have Hb1 := Lib.hid hb1'; have k0 := cell_row H1.out.n0 0; have k1 := cell_row H1.out.t0 0; clear hb1 hb1') | (go_at_call 186; refine (idirect_2 _ H1.out.tz H1.out.sz).mono ?_; rintro e w2 ⟨g, rfl, cg, hg, hb2⟩; have H2 := Lib.hid (H1.out.new hb2); have Hb2 := Lib.hid (Hb1.out.trans (hb2.mono Hb1.out.size)); have k0 := cell_row H2.out.n0 0; have k1 := cell_row H2.out.t0 0; clear hb2 hg))
    all_goals
      go_wp2_with fail
      go_meet
      exact ⟨H2.out, Hb2.out, rfl, rfl, g, rfl, cg⟩
  case rest =>
    obtain ⟨h2, hb2, rfl, rfl, g, rfl, cg⟩ := hcut
    have k1 := cell_row h2.t0 0
    have k4 := h2.tr.c4
    have hJ2 := HJ.out _ hb2
    obtain ⟨fn, tmps, assign, body, hy, hR⟩ := HY.out [] () _ hJ2 (by simp)
    have H2 := Lib.hid h2
    have Hb2 := Lib.hid hb2
    clear h2 hb2 hJ2
    go_wp2_with fail
    refine wp_loop_rounds 2 ?_
    rw [rounds_succ]
    go_upto_region 3 with fail
    refine (wpIn_wide (n := n)).1 ?_
    gi_wp2
    refine ⟨fun h => (by cases h), ?_⟩
    refine hR.mono ?_
    rintro e W3 (⟨rfl, hJ3, _⟩ | ⟨rfl, hJx3⟩)
    · gi_wp2
      go_wp2
      rw [rounds_succ]
      go_wp2
      go_end0
      exact ⟨⟨_, rfl⟩, .inl ⟨[()], rfl, hJ3⟩⟩
    · gi_wp2
      go_wp2
      refine bodyPost_ret (results_none rfl _ _ _) rfl ?_
      exact ⟨⟨_, rfl⟩, .inr ⟨[()], rfl, hJx3⟩⟩
end Go.Proofs.YtedpljclnpiggaaGreatDoor
