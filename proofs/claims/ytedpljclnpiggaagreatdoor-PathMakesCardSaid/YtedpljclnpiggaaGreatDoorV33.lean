/- path.over: the iterator over a node's forebears, at a tree of two leaves. -/
import Derived.RangeFuncNested
import Derived.RangeFuncBound
import Derived.RangeFuncCalls
import Derived.RangeFuncLeaves
import Derived.OwnWalkIn
import Derived.TacticsInMore
import Derived.Test.YtedpljclnpiggaaGreatDoorV32
import Derived.Test.YtedpljclnpiggaaGreatDoorV15
import Derived.Test.YtedpljclnpiggaaGreatDoorV26
set_option linter.unusedVariables false
set_option linter.unusedSimpArgs false
set_option maxRecDepth 100000
set_option maxHeartbeats 12800000
namespace Go.Proofs.YtedpljclnpiggaaGreatDoor
open Go Go.RowKit
abbrev boxI (n : Int) : Obj := .cells #[.int .i64 n] 3 (0, 0)
theorem over_any (v : Value) (n : Int) (a : Option Addr) (k c : Nat) (hv : v = .slice a k c) (w : World) :
    Calls Tryz.prog 48 #[.agg #[v], .int .i64 n] w fun e w' =>
     e = .returned (.func (.func 185) #[] #[.pointer (some ⟨w.heap.size + 1, 0, none⟩), .pointer (some ⟨w.heap.size, 0, none⟩)]) ∧ w' = (w.alloc (.cells #[v] 44 (0, 0))).alloc (boxI n) := by
 subst hv
 go_enter Tryz.func48, Tryz.ntmps48
 go_wp2
 go_ret
 simp
structure OvAt (W : World) (bn bt b c : Nat) (n : Int) (p0 m0 e0 p1 p2 m2 e2 : Int) : Prop where
 n0 : W.heap[bn]? = some (boxI n)
 t0 : W.heap[bt]? = some (.cells #[.slice (some ⟨b, 0, none⟩) 3 c] 44 (0, 0))
 tr : T3 W b p0 m0 e0 p1 p2 m2 e2
 tz : TzEnv W
 sz : 3 ≤ W.heap.size
theorem OvAt.new {W W' : World} {bn bt b c : Nat} {n p0 m0 e0 p1 p2 m2 e2 : Int} (h : OvAt W bn bt b c n p0 m0 e0 p1 p2 m2 e2) (hb : Below W.heap.size W W') : OvAt W' bn bt b c n p0 m0 e0 p1 p2 m2 e2 :=
 ⟨(hb.block bn (Array.getElem?_eq_some_iff.1 h.n0).1).trans h.n0, (hb.block bt (Array.getElem?_eq_some_iff.1 h.t0).1).trans h.t0, h.tr.new hb, h.tz.below hb h.sz, Nat.le_trans h.sz hb.size⟩
structure OkT (p0 m0 e0 p1 p2 m2 e2 : Int) : Prop where
 h0 : 0 < p0
 h1 : 0 ≤ p1
 h2 : 0 < p2
 hm0 : 0 ≤ m0 ∧ m0 ≤ 1000
 hm2 : 0 ≤ m2 ∧ m2 ≤ 1000
 hm : m0 ≠ m2
 he0 : 0 ≤ e0 ∧ e0 ≤ 1000
 he2 : 0 ≤ e2 ∧ e2 ≤ 1000
theorem over1_none (y : Value) (bn bt b c : Nat) (p0 m0 e0 p1 p2 m2 e2 : Int) (ok : OkT p0 m0 e0 p1 p2 m2 e2) (W : World) (h : OvAt W bn bt b c 1 p0 m0 e0 p1 p2 m2 e2) :
    Calls Tryz.prog 185 #[y, .pointer (some ⟨bn, 0, none⟩), .pointer (some ⟨bt, 0, none⟩)] W fun e W' => (∃ v, e = .returned v) ∧ Below W.heap.size W W' := by
 have H := hQ h
 have hsz := fun W1 (hW : OvAt W1 bn bt b c 1 p0 m0 e0 p1 p2 m2 e2) => size_3 b c p0 m0 e0 p1 p2 m2 e2 ok.h0 ok.h1 ok.h2 ok.hm0 ok.hm2 ok.hm ok.he0 ok.he2 W1 hW.tz hW.sz hW.tr
 have Hsz := hQ hsz; clear hsz
 have k0 := cRw h.n0 0
 have k1 := cRw h.t0 0
 clear h
 go_enter Tryz.func185, Tryz.ntmps185
 go_wp2_with fail
 go_region_with (first | (go_at_call 187; refine (Hsz.out _ (by exact H.out.new ⟨rfl, rfl, rfl, Nat.le_refl _, fun _ _ => rfl⟩)).mono ?_; rintro e w1 ⟨rfl, hb1⟩; have hb1' : Below W.heap.size W w1 := ⟨hb1.os, hb1.tape, hb1.output, hb1.size, hb1.block⟩; have H1 := hQ (H.out.new hb1'); have Hb1 := hQ hb1'; have k0 := cRw H1.out.n0 0; have k1 := cRw H1.out.t0 0; clear hb1 hb1') | (go_at_call 186; refine (idirect_1 _ H1.out.tz H1.out.sz).mono ?_; rintro e w2 ⟨rfl, hb2⟩; have H2 := hQ (H1.out.new hb2); have Hb2 := hQ (Hb1.out.trans (hb2.mono Hb1.out.size)); have k0 := cRw H2.out.n0 0; have k1 := cRw H2.out.t0 0; clear hb2))
 all_goals
  go_wp2
  refine wp_loop_rounds 1 ?_
  rw [rounds_succ]
  go_wp2
  go_end0
  exact ⟨⟨_, rfl⟩, Hb2.out⟩
theorem abides_below {β : Type} {B : Nat} {J : β → World → Prop} (h : AbidesFrom B J) {s : β} {W W' : World} (hs : J s W) (hb : Below W.heap.size W W') : J s W' :=
 h s W W' none hs ⟨hb.os, hb.tape, hb.output, hb.size, fun k hk _ => hb.block k hk⟩ (fun r e => by cases e)
theorem over_none_stops (n bn bt b c : Nat) (p0 m0 e0 p1 p2 m2 e2 : Int) (ok : OkT p0 m0 e0 p1 p2 m2 e2) (w : World) (h : OvAt w bn bt b c 1 p0 m0 e0 p1 p2 m2 e2) :
    SeqStopsK Fence.wide n Tryz.prog 185 #[.pointer (some ⟨bn, 0, none⟩), .pointer (some ⟨bt, 0, none⟩)] (fun _ : Unit => #[.int .i64 1]) KeepsWalks (fun xs => xs = []) (fun _ => False) 0 w := by
 intro l J Jx W hW hJ _ _ h0
 refine callsIn_wide.2 ?_
 refine (over1_none _ bn bt b c p0 m0 e0 p1 p2 m2 e2 ok W (h.new hW)).mono ?_
 rintro e W' ⟨hv, hb⟩
 exact ⟨hv, .inl ⟨[], rfl, abides_below hJ h0 hb⟩⟩
end Go.Proofs.YtedpljclnpiggaaGreatDoor
