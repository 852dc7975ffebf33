/- path.over at a node with one forebear. -/
import Derived.Test.YtedpljclnpiggaaGreatDoorV33
import Derived.Deep.DeepCutAuto
import Derived.Deep.CutBlock
set_option linter.unusedVariables false
set_option linter.unusedSimpArgs false
set_option maxRecDepth 100000
set_option maxHeartbeats 12800000
namespace Go.Proofs.YtedpljclnpiggaaGreatDoor
open Go Go.RowKit
theorem over_one_stops (n bn bt b c : Nat) (p0 m0 e0 p1 p2 m2 e2 : Int) (hp1 : p1 ≠ 0) (ok : OkT p0 m0 e0 p1 p2 m2 e2) (w : World) (h : OvAt w bn bt b c 2 p0 m0 e0 p1 p2 m2 e2) :
    SeqStopsK Fence.wide n Tryz.prog 185 #[.pointer (some ⟨bn, 0, none⟩), .pointer (some ⟨bt, 0, none⟩)] (fun _ : Unit => #[.int .i64 1]) KeepsWalks (fun xs => xs = [()]) (fun xs => xs = [()]) 1 w := by
 intro l J Jx W hW hJ _ hY h0
 refine callsIn_wide.2 ?_
 have H := hQ (h.new hW)
 have hsz := fun W1 (hW : OvAt W1 bn bt b c 2 p0 m0 e0 p1 p2 m2 e2) => size_3 b c p0 m0 e0 p1 p2 m2 e2 ok.h0 ok.h1 ok.h2 ok.hm0 ok.hm2 ok.hm ok.he0 ok.he2 W1 hW.tz hW.sz hW.tr
 have Hsz := hQ hsz; clear hsz
 have k0 := cRw H.out.n0 0
 have k1 := cRw H.out.t0 0
 have HY := hQ hY
 have HJ := hQ (fun W' (hb : Below W.heap.size W W') => abides_below hJ h0 hb)
 clear h hY hJ h0 hW
 show Calls _ _ #[.func (.yield l) #[] #[], .pointer (some ⟨bn, 0, none⟩), .pointer (some ⟨bt, 0, none⟩)] _ _
 go_enter Tryz.func185, Tryz.ntmps185
 go_upto_region 0 with fail
 go_cut [9, 10, 11] (fun v9 v10 v11 W' => OvAt W' bn bt b c 2 p0 m0 e0 p1 p2 m2 e2 ∧ Below W.heap.size W W' ∧ v10 = .int .i64 1 ∧ v11 = .int .i64 0 ∧ ∃ g, v9 = .slice (some ⟨g, 1, none⟩) 1 1 ∧ W'.cell? ⟨g, 1, none⟩ = some (.int .i64 1))
 case first =>
  go_region_with (first | (go_at_call 187; refine (Hsz.out _ (by exact H.out.new ⟨rfl, rfl, rfl, Nat.le_refl _, fun _ _ => rfl⟩)).mono ?_; rintro e w1 ⟨rfl, hb1⟩; have hb1' : Below W.heap.size W w1 := ⟨hb1.os, hb1.tape, hb1.output, hb1.size, hb1.block⟩; have H1 := hQ (H.out.new hb1'); have Hb1 := hQ hb1'; have k0 := cRw H1.out.n0 0; have k1 := cRw H1.out.t0 0; clear hb1 hb1') | (go_at_call 186; refine (idirect_2 _ H1.out.tz H1.out.sz).mono ?_; rintro e w2 ⟨g, rfl, cg, hg, hb2⟩; have H2 := hQ (H1.out.new hb2); have Hb2 := hQ (Hb1.out.trans (hb2.mono Hb1.out.size)); have k0 := cRw H2.out.n0 0; have k1 := cRw H2.out.t0 0; clear hb2 hg))
  all_goals
   go_wp2_with fail
   go_meet
   exact ⟨H2.out, Hb2.out, rfl, rfl, g, rfl, cg⟩
 case rest =>
  obtain ⟨h2, hb2, rfl, rfl, g, rfl, cg⟩ := hcut
  have k1 := cRw h2.t0 0
  have k4 := h2.tr.c4
  have hJ2 := HJ.out _ hb2
  obtain ⟨fn, tmps, assign, body, hy, hR⟩ := HY.out [] () _ hJ2 (by simp)
  have H2 := hQ h2
  have Hb2 := hQ hb2
  clear h2 hb2 hJ2
  go_wp2_with fail
  refine wp_loop_rounds 2 ?_
  rw [rounds_succ]
  go_upto_region 3 with fail
  refine (wpIn_wide (n := n)).1 ?_
  gi_wp2
  refine ⟨fun h => (by cases h), ?_⟩
  refine hR.mono ?_
  rintro e W3 (⟨rfl, hJ3, _⟩ | ⟨rfl, hJx3⟩)
  · gi_wp2
    go_wp2
    rw [rounds_succ]
    go_wp2
    go_end0
    exact ⟨⟨_, rfl⟩, .inl ⟨[()], rfl, hJ3⟩⟩
  · gi_wp2
    go_wp2
    refine bodyPost_ret (results_none rfl _ _ _) rfl ?_
    exact ⟨⟨_, rfl⟩, .inr ⟨[()], rfl, hJx3⟩⟩
end Go.Proofs.YtedpljclnpiggaaGreatDoor
