/-
  path.Joint at a tree of two leaves.
-/
import Derived.Test.YtedpljclnpiggaaGreatDoorQIdx5
import Derived.Test.YtedpljclnpiggaaGreatDoorQRAdd
set_option linter.unusedVariables false
set_option linter.unusedSimpArgs false
namespace Go.Proofs.YtedpljclnpiggaaGreatDoor
open Go Go.RowKit
attribute [local go_sem] Oper.semAt_some

theorem calls_of_marks {P : Program} (n : Nat) {f : FuncId} {fn : Func} {c : Code} {args : Array Value} {w : World} {R : Ending → World → Prop} (hf : P.funcs[f]? = some fn) (hb : fn.body = some c)
    (h : c.wp P (bodyPostM Fence.wide n P fn R) { tmps := args ++ Array.replicate (fn.ntmps - args.size) undef, defers := [] } w) : Calls P f args w R :=
  (callsIn_wide (n := n)).1 (callsIn_of_wp_marks hf hb trivial ((wpIn_wide (n := n)).2 h) rfl)

theorem old_at {w : World} {o : Obj} {i : Nat} (h : i < w.heap.size) : (w.alloc o).heap[i]? = w.heap[i]? := Below.heap_alloc w o i h

theorem joint_results (tmps : Array Value) (w : World) (r : Nat) (v : Int) (h6 : tmps.getD 6 undef = .pointer (some ⟨r, 0, none⟩)) (hg : w.heap[r]? = some (boxI v)) :
    (results Tryz.f179 tmps).run Tryz.prog w = .ok (.int .i64 v) w := by
  have ha : (asAddr (.pointer (some ⟨r, 0, none⟩))).run Tryz.prog w = .ok ⟨r, 0, none⟩ w := by simp [asAddr]
  have hr : Tryz.f179.results = #[.cell 6 3] := by kernel_rfl
  have h6' : tmps[6]?.getD undef = .pointer (some ⟨r, 0, none⟩) := by simpa using h6
  have hl : (loadVar 3 ⟨r, 0, none⟩).run Tryz.prog w = .ok (.int .i64 v) w := by
    have hc := cell_row hg 0
    have hu := Tryz.underlying3
    simp [loadVar, isAgg, go_sem, hu, hc]
  simp only [results, hr]
  simp [Sem.run_bind, h6', ha, hl]

set_option maxRecDepth 100000 in
set_option maxHeartbeats 1600000 in
theorem joint_3 (b c : Nat) (p0 m0 e0 p1 p2 m2 e2 : Int) (ok : OkT p0 m0 e0 p1 p2 m2 e2) (hp1 : p1 ≠ 0) (w : World) (tz : TzEnv w) (h3 : 3 ≤ w.heap.size) (h : T3 w b p0 m0 e0 p1 p2 m2 e2) :
    Calls Tryz.prog 179 #[.agg #[.slice (some ⟨b, 0, none⟩) 3 c], .int .i64 1, .int .i64 0] w fun e w' => e = .returned (.int .i64 1) ∧ Below w.heap.size w w' := by
  have hb1 := (((Below.refl w.heap.size w).alloc (Nat.le_refl _) (boxT (.slice (some ⟨b, 0, none⟩) 3 c))).alloc (by simp) (boxI 0)).alloc (by simp; omega) (boxI 0)
  have h0 : St (((w.alloc (boxT (.slice (some ⟨b, 0, none⟩) 3 c))).alloc (boxI 0)).alloc (boxI 0)) w.heap.size (boxT (.slice (some ⟨b, 0, none⟩) 3 c)) := St.mk' ((old_at (by simp <;> omega)).trans ((old_at (by simp)).trans (row_alloc _ _ _)))
  have h1 : St (((w.alloc (boxT (.slice (some ⟨b, 0, none⟩) 3 c))).alloc (boxI 0)).alloc (boxI 0)) (w.heap.size + 1) (boxI 0) := St.mk' ((old_at (by simp)).trans (by have := row_alloc (w := w.alloc (boxT (.slice (some ⟨b, 0, none⟩) 3 c))) #[.int .i64 0] 3 (0, 0); simpa using this))
  have h2 : St (((w.alloc (boxT (.slice (some ⟨b, 0, none⟩) 3 c))).alloc (boxI 0)).alloc (boxI 0)) (w.heap.size + 1 + 1) (boxI 0) := St.mk' (by have := row_alloc (w := (w.alloc (boxT (.slice (some ⟨b, 0, none⟩) 3 c))).alloc (boxI 0)) #[.int .i64 0] 3 (0, 0); simpa using this)
  have HT := Lib.hid (h.new hb1)
  have HE := Lib.hid (tz.below hb1 h3)
  have H3 := Lib.hid (Nat.le_trans h3 hb1.size)
  have Hb1 := Lib.hid hb1
  have H0 := Lib.hid h0
  have H1 := Lib.hid h1
  have H2 := Lib.hid h2
  have Hok := Lib.hid ok
  have k := cell_row h0.at' 0
  have kf := cell_row h1.at' 0
  clear h hb1 h0 h1 h2 ok tz h3
  refine calls_of_marks 6 Tryz.func179 rfl ?_
  simp only [Tryz.ntmps179, List.size_toArray, List.length_cons, List.length_nil, Nat.reduceAdd, Nat.reduceSub, Array.replicate_succ, Array.replicate_zero, List.push_toArray, List.append_toArray, List.nil_append, List.cons_append]
  go_wp2_with fail
  refine (size_3 b c p0 m0 e0 p1 p2 m2 e2 Hok.out.h0 Hok.out.h1 Hok.out.h2 Hok.out.hm0 Hok.out.hm2 Hok.out.hm Hok.out.he0 Hok.out.he2 _ HE.out H3.out HT.out).mono ?_
  obtain ⟨q, hq⟩ : ∃ q, q = w.heap.size := ⟨_, rfl⟩
  rw [← hq] at H0 H1 H2 ⊢
  have Hq := Lib.hid hq; clear hq k kf
  generalize ((w.alloc (boxT (.slice (some ⟨b, 0, none⟩) 3 c))).alloc (boxI 0)).alloc (boxI 0) = w1 at Hb1 H0 H1 H2 HT HE H3 ⊢
  rintro r w2 ⟨rfl, hb⟩
  have H02 := Lib.hid (H0.out.new hb); have H12 := Lib.hid (H1.out.new hb); have H22 := Lib.hid (H2.out.new hb)
  have HT2 := Lib.hid (HT.out.new hb); have HE2 := Lib.hid (HE.out.below hb H3.out); have H32 := Lib.hid (Nat.le_trans H3.out hb.size)
  have Hb2 := Lib.hid (Hb1.out.trans (hb.mono Hb1.out.size)); clear hb H0 H1 H2 HT HE H3 Hb1
  have k := cell_row H02.out.at' 0
  have kf := cell_row H12.out.at' 0
  go_wp2_with fail
  refine (check_3 b c p0 m0 e0 p1 p2 m2 e2 Hok.out.h0 Hok.out.h1 Hok.out.h2 Hok.out.hm0 Hok.out.hm2 Hok.out.hm Hok.out.he0 Hok.out.he2 _ HE2.out H32.out HT2.out).mono ?_
  rintro r w3 ⟨rfl, hb⟩
  have H03 := Lib.hid (H02.out.new hb); have H13 := Lib.hid (H12.out.new hb); have H23 := Lib.hid (H22.out.new hb)
  have HT3 := Lib.hid (HT2.out.new hb); have HE3 := Lib.hid (HE2.out.below hb H32.out); have H33 := Lib.hid (Nat.le_trans H32.out hb.size)
  have Hb3 := Lib.hid (Hb2.out.trans (hb.mono Hb2.out.size)); clear hb H02 H12 H22 HT2 HE2 H32 Hb2 k kf
  have k := cell_row H03.out.at' 0
  have kf := cell_row H13.out.at' 0
  go_wp2_with fail
  refine (over_any _ 2 _ _ _ rfl _).mono ?_
  rintro r wx ⟨rfl, hwx⟩
  have hbo := ((Below.refl w3.heap.size w3).alloc (Nat.le_refl _) (boxT (.slice (some ⟨b, 0, none⟩) 3 c))).alloc (by simp) (boxI 2)
  have hov : OvAt wx (w3.heap.size + 1) w3.heap.size b c 2 p0 m0 e0 p1 p2 m2 e2 := by
    rw [hwx]
    exact ⟨by have := row_alloc (w := w3.alloc (boxT (.slice (some ⟨b, 0, none⟩) 3 c))) #[.int .i64 2] 3 (0, 0); simpa using this, (old_at (by simp)).trans (row_alloc _ _ _), HT3.out.new hbo, HE3.out.below hbo H33.out, Nat.le_trans H33.out hbo.size⟩
  rw [← hwx] at hbo
  clear hwx
  have Hov := Lib.hid hov
  have H04 := Lib.hid (H03.out.new hbo); have H14 := Lib.hid (H13.out.new hbo); have H24 := Lib.hid (H23.out.new hbo)
  have Hb4 := Lib.hid (Hb3.out.trans (hbo.mono Hb3.out.size))
  obtain ⟨s4, hs4⟩ : ∃ s, s = w3.heap.size := ⟨_, rfl⟩
  have hqs := H23.out.lt
  rw [← hs4] at Hov hqs ⊢
  have Hs4 := Lib.hid hqs
  clear hov hbo hqs hs4 H03 H13 H23 HT3 HE3 H33 Hb3 k kf
  go_wp2_with fail
  have hqx : q + 1 + 1 < wx.heap.size := H24.out.lt
  have hwq : w.heap.size ≤ wx.heap.size := Hb4.out.size
  refine (wpIn_wide (n := 6)).1 (wpIn_rangeFunc_ownF rfl (by omega) (gf := 185) (lb := #[.pointer (some ⟨s4 + 1, 0, none⟩), .pointer (some ⟨s4, 0, none⟩)]) rfl trivial (enters_of Tryz.func185 (by kernel_rfl) rfl)
    (over_one_stops 5 (s4 + 1) s4 b c p0 m0 e0 p1 p2 m2 e2 hp1 Hok.out wx Hov.out) walksK_t walksK_b (Below.refl _ _) (fun _ => rfl)
    (fun pre W => pre = [] ∧ Below wx.heap.size wx W) (fun j _ W => j = .ret ∧ W.heap[q + 1 + 1]? = some (boxI 1) ∧ Below w.heap.size w W)
    (fun s W W' row hs hg hr => ⟨hs.1, ownFrom_below (Nat.le_refl _) (Nat.le_refl _) s W W' row hs.2 hg hr⟩)
    (fun j s W W' row hs hg hr => ⟨hs.1, (hg.block _ (Array.getElem?_eq_some_iff.1 hs.2.1).1 (fun e => by have := (hr _ e.symm).1; omega)).trans hs.2.1, ownFrom_below (Nat.le_refl _) hwq s W W' row hs.2.2 hg hr⟩)
    ⟨rfl, Below.refl _ _⟩ ?a1 ?assign ?body ?done ?stop)
  case assign =>
    intro l x W K hK
    gi_wp2
    exact hK
  case body =>
    rintro l pre x W ⟨rfl, hb⟩ _
    have h1 := H14.out.new hb
    have h2 := H24.out.new hb
    have kf := cell_row h1.at' 0
    have htz := Hov.out.tz.below hb Hov.out.sz
    have H2w := Lib.hid h2
    have Hbw := Lib.hid hb
    have Htz := Lib.hid htz
    clear h1 h2 hb htz
    gi_wp2_with (refine ⟨trivial, ?_⟩; gi_at_call 282; refine (CallsIn.inRound l (callsIn_wide.2 (iwithin_01 _ Htz.out))).mono ?_; rintro e W3 ⟨rfl, d, rfl⟩; have k6 := cell_row (show (W.drewN d).heap[q + 1 + 1]? = _ from H2w.out.at') 0; have f6 := free_row (show (W.drewN d).heap[q + 1 + 1]? = _ from H2w.out.at') 0)
    have hr6 := row_setCell (show (W.drewN d).heap[q + 1 + 1]? = _ from H2w.out.at') 0 (.int .i64 1)
    have hw := Hbw.out
    have hB := (Hb4.out.trans (hw.mono hwq)).trans (⟨rfl, rfl, rfl, Nat.le_refl _, fun _ _ => rfl⟩ : Below w.heap.size W (W.drewN d))
    exact ⟨(show KeepsOthers W (W.drewN d) from ⟨Nat.le_refl _, fun _ _ h _ => h⟩).trans (KeepsOthers.setCell _ _ _), rfl, hr6, hB.setCell (p := ⟨q + 1 + 1, 0, none⟩) (by have := Hq.out; simp only; omega) _⟩
  case done =>
    rintro D xs W hD rfl ⟨h, _⟩ hK
    cases h
  case stop =>
    rintro D j pre W hD rfl ⟨rfl, hcell, hb⟩ hK
    gi_wp2
    refine ⟨by simp, .inl ⟨_, _, rfl, run_takeDeferred hK, ?_⟩⟩
    have hne : q + 1 + 1 ≠ D := by omega
    refine ⟨.int .i64 1, joint_results _ _ (q + 1 + 1) 1 rfl ((World.putObj_heap_other hne).trans hcell), rfl, ?_⟩
    exact hb.trans (belowK_b (w := w) (Nat.le_refl _) W D _ _ (by omega) hK rfl rfl)
end Go.Proofs.YtedpljclnpiggaaGreatDoor
