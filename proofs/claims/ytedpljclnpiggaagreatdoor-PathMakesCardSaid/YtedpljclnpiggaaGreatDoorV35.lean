/- The step of path.Above. -/
import Derived.Test.YtedpljclnpiggaaGreatDoorV34
import Derived.Test.YtedpljclnpiggaaGreatDoorV29
import Derived.Test.YtedpljclnpiggaaGreatDoorV28
set_option linter.unusedVariables false
set_option linter.unusedSimpArgs false
set_option maxRecDepth 100000
set_option maxHeartbeats 12800000
namespace Go.Proofs.YtedpljclnpiggaaGreatDoor
section
open Go Go.RowKit
attribute [local go_sem] Oper.semAt_some
theorem calls_of_marks {P : Program} (n : Nat) {f : FuncId} {fn : Func} {c : Code} {args : Array Value} {w : World} {R : Ending → World → Prop} (hf : P.funcs[f]? = some fn) (hb : fn.body = some c)
    (h : c.wp P (bodyPostM Fence.wide n P fn R) { tmps := args ++ Array.replicate (fn.ntmps - args.size) undef, defers := [] } w) : Calls P f args w R :=
 (callsIn_wide (n := n)).1 (callsIn_of_wp_marks hf hb trivial ((wpIn_wide (n := n)).2 h) rfl)
theorem old_at {w : World} {o : Obj} {i : Nat} (h : i < w.heap.size) : (w.alloc o).heap[i]? = w.heap[i]? := Below.heap_alloc w o i h
theorem joint_results (tmps : Array Value) (w : World) (r : Nat) (v : Int) (h6 : tmps.getD 6 undef = .pointer (some ⟨r, 0, none⟩)) (hg : w.heap[r]? = some (boxI v)) :
    (results Tryz.f179 tmps).run Tryz.prog w = .ok (.int .i64 v) w := by
 have ha : (asAddr (.pointer (some ⟨r, 0, none⟩))).run Tryz.prog w = .ok ⟨r, 0, none⟩ w := by simp [asAddr]
 have hr : Tryz.f179.results = #[.cell 6 3] := by kernel_rfl
 have h6' : tmps[6]?.getD undef = .pointer (some ⟨r, 0, none⟩) := by simpa using h6
 have hl : (loadVar 3 ⟨r, 0, none⟩).run Tryz.prog w = .ok (.int .i64 v) w := by
  have hc := cRw hg 0
  have hu := Tryz.underlying3
  simp [loadVar, isAgg, go_sem, hu, hc]
 simp only [results, hr]
 simp [Sem.run_bind, h6', ha, hl]
theorem joint_3 (b c : Nat) (p0 m0 e0 p1 p2 m2 e2 : Int) (ok : OkT p0 m0 e0 p1 p2 m2 e2) (hp1 : p1 ≠ 0) (w : World) (tz : TzEnv w) (h3 : 3 ≤ w.heap.size) (h : T3 w b p0 m0 e0 p1 p2 m2 e2) :
    Calls Tryz.prog 179 #[.agg #[.slice (some ⟨b, 0, none⟩) 3 c], .int .i64 1, .int .i64 0] w fun e w' => e = .returned (.int .i64 1) ∧ Below w.heap.size w w' := by
 have hb1 := (((Below.refl w.heap.size w).alloc (Nat.le_refl _) (boxT (.slice (some ⟨b, 0, none⟩) 3 c))).alloc (by simp) (boxI 0)).alloc (by simp; omega) (boxI 0)
 have h0 : St (((w.alloc (boxT (.slice (some ⟨b, 0, none⟩) 3 c))).alloc (boxI 0)).alloc (boxI 0)) w.heap.size (boxT (.slice (some ⟨b, 0, none⟩) 3 c)) := St.mk' ((old_at (by simp <;> omega)).trans ((old_at (by simp)).trans (rAl _ _ _)))
 have h1 : St (((w.alloc (boxT (.slice (some ⟨b, 0, none⟩) 3 c))).alloc (boxI 0)).alloc (boxI 0)) (w.heap.size + 1) (boxI 0) := St.mk' ((old_at (by simp)).trans (by have := rAl (w := w.alloc (boxT (.slice (some ⟨b, 0, none⟩) 3 c))) #[.int .i64 0] 3 (0, 0); simpa using this))
 have h2 : St (((w.alloc (boxT (.slice (some ⟨b, 0, none⟩) 3 c))).alloc (boxI 0)).alloc (boxI 0)) (w.heap.size + 1 + 1) (boxI 0) := St.mk' (by have := rAl (w := (w.alloc (boxT (.slice (some ⟨b, 0, none⟩) 3 c))).alloc (boxI 0)) #[.int .i64 0] 3 (0, 0); simpa using this)
 have HT := hQ (h.new hb1)
 have HE := hQ (tz.below hb1 h3)
 have H3 := hQ (Nat.le_trans h3 hb1.size)
 have Hb1 := hQ hb1
 have H0 := hQ h0
 have H1 := hQ h1
 have H2 := hQ h2
 have Hok := hQ ok
 have k := cRw h0.at' 0
 have kf := cRw h1.at' 0
 clear h hb1 h0 h1 h2 ok tz h3
 refine calls_of_marks 6 Tryz.func179 rfl ?_
 simp only [Tryz.ntmps179, List.size_toArray, List.length_cons, List.length_nil, Nat.reduceAdd, Nat.reduceSub, Array.replicate_succ, Array.replicate_zero, List.push_toArray, List.append_toArray, List.nil_append, List.cons_append]
 go_wp2_with fail
 refine (size_3 b c p0 m0 e0 p1 p2 m2 e2 Hok.out.h0 Hok.out.h1 Hok.out.h2 Hok.out.hm0 Hok.out.hm2 Hok.out.hm Hok.out.he0 Hok.out.he2 _ HE.out H3.out HT.out).mono ?_
 obtain ⟨q, hq⟩ : ∃ q, q = w.heap.size := ⟨_, rfl⟩
 rw [← hq] at H0 H1 H2 ⊢
 have Hq := hQ hq; clear hq k kf
 generalize ((w.alloc (boxT (.slice (some ⟨b, 0, none⟩) 3 c))).alloc (boxI 0)).alloc (boxI 0) = w1 at Hb1 H0 H1 H2 HT HE H3 ⊢
 rintro r w2 ⟨rfl, hb⟩
 have H02 := hQ (H0.out.new hb); have H12 := hQ (H1.out.new hb); have H22 := hQ (H2.out.new hb)
 have HT2 := hQ (HT.out.new hb); have HE2 := hQ (HE.out.below hb H3.out); have H32 := hQ (Nat.le_trans H3.out hb.size)
 have Hb2 := hQ (Hb1.out.trans (hb.mono Hb1.out.size)); clear hb H0 H1 H2 HT HE H3 Hb1
 have k := cRw H02.out.at' 0
 have kf := cRw H12.out.at' 0
 go_wp2_with fail
 refine (check_3 b c p0 m0 e0 p1 p2 m2 e2 Hok.out.h0 Hok.out.h1 Hok.out.h2 Hok.out.hm0 Hok.out.hm2 Hok.out.hm Hok.out.he0 Hok.out.he2 _ HE2.out H32.out HT2.out).mono ?_
 rintro r w3 ⟨rfl, hb⟩
 have H03 := hQ (H02.out.new hb); have H13 := hQ (H12.out.new hb); have H23 := hQ (H22.out.new hb)
 have HT3 := hQ (HT2.out.new hb); have HE3 := hQ (HE2.out.below hb H32.out); have H33 := hQ (Nat.le_trans H32.out hb.size)
 have Hb3 := hQ (Hb2.out.trans (hb.mono Hb2.out.size)); clear hb H02 H12 H22 HT2 HE2 H32 Hb2 k kf
 have k := cRw H03.out.at' 0
 have kf := cRw H13.out.at' 0
 go_wp2_with fail
 refine (over_any _ 2 _ _ _ rfl _).mono ?_
 rintro r wx ⟨rfl, hwx⟩
 have hbo := ((Below.refl w3.heap.size w3).alloc (Nat.le_refl _) (boxT (.slice (some ⟨b, 0, none⟩) 3 c))).alloc (by simp) (boxI 2)
 have hov : OvAt wx (w3.heap.size + 1) w3.heap.size b c 2 p0 m0 e0 p1 p2 m2 e2 := by
  rw [hwx]
  exact ⟨by have := rAl (w := w3.alloc (boxT (.slice (some ⟨b, 0, none⟩) 3 c))) #[.int .i64 2] 3 (0, 0); simpa using this, (old_at (by simp)).trans (rAl _ _ _), HT3.out.new hbo, HE3.out.below hbo H33.out, Nat.le_trans H33.out hbo.size⟩
 rw [← hwx] at hbo
 clear hwx
 have Hov := hQ hov
 have H04 := hQ (H03.out.new hbo); have H14 := hQ (H13.out.new hbo); have H24 := hQ (H23.out.new hbo)
 have Hb4 := hQ (Hb3.out.trans (hbo.mono Hb3.out.size))
 obtain ⟨s4, hs4⟩ : ∃ s, s = w3.heap.size := ⟨_, rfl⟩
 have hqs := H23.out.lt
 rw [← hs4] at Hov hqs ⊢
 have Hs4 := hQ hqs
 clear hov hbo hqs hs4 H03 H13 H23 HT3 HE3 H33 Hb3 k kf
 go_wp2_with fail
 have hqx : q + 1 + 1 < wx.heap.size := H24.out.lt
 have hwq : w.heap.size ≤ wx.heap.size := Hb4.out.size
 refine (wpIn_wide (n := 6)).1 (wpIn_rangeFunc_ownF rfl (by omega) (gf := 185) (lb := #[.pointer (some ⟨s4 + 1, 0, none⟩), .pointer (some ⟨s4, 0, none⟩)]) rfl trivial (enters_of Tryz.func185 (by kernel_rfl) rfl)
  (over_one_stops 5 (s4 + 1) s4 b c p0 m0 e0 p1 p2 m2 e2 hp1 Hok.out wx Hov.out) walksK_t walksK_b (Below.refl _ _) (fun _ => rfl)
  (fun pre W => pre = [] ∧ Below wx.heap.size wx W) (fun j _ W => j = .ret ∧ W.heap[q + 1 + 1]? = some (boxI 1) ∧ Below w.heap.size w W)
  (fun s W W' row hs hg hr => ⟨hs.1, ownFrom_below (Nat.le_refl _) (Nat.le_refl _) s W W' row hs.2 hg hr⟩)
  (fun j s W W' row hs hg hr => ⟨hs.1, (hg.block _ (Array.getElem?_eq_some_iff.1 hs.2.1).1 (fun e => by have := (hr _ e.symm).1; omega)).trans hs.2.1, ownFrom_below (Nat.le_refl _) hwq s W W' row hs.2.2 hg hr⟩)
  ⟨rfl, Below.refl _ _⟩ ?a1 ?assign ?body ?done ?stop)
 case assign =>
  intro l x W K hK
  gi_wp2
  exact hK
 case body =>
  rintro l pre x W ⟨rfl, hb⟩ _
  have h1 := H14.out.new hb
  have h2 := H24.out.new hb
  have kf := cRw h1.at' 0
  have htz := Hov.out.tz.below hb Hov.out.sz
  have H2w := hQ h2
  have Hbw := hQ hb
  have Htz := hQ htz
  clear h1 h2 hb htz
  gi_wp2_with (refine ⟨trivial, ?_⟩; gi_at_call 282; refine (CallsIn.inRound l (callsIn_wide.2 (iwithin_01 _ Htz.out))).mono ?_; rintro e W3 ⟨rfl, d, rfl⟩; have k6 := cRw (show (W.drewN d).heap[q + 1 + 1]? = _ from H2w.out.at') 0; have f6 := fRw (show (W.drewN d).heap[q + 1 + 1]? = _ from H2w.out.at') 0)
  have hr6 := rSc (show (W.drewN d).heap[q + 1 + 1]? = _ from H2w.out.at') 0 (.int .i64 1)
  have hw := Hbw.out
  have hB := (Hb4.out.trans (hw.mono hwq)).trans (⟨rfl, rfl, rfl, Nat.le_refl _, fun _ _ => rfl⟩ : Below w.heap.size W (W.drewN d))
  exact ⟨(show KeepsOthers W (W.drewN d) from ⟨Nat.le_refl _, fun _ _ h _ => h⟩).trans (KeepsOthers.setCell _ _ _), rfl, hr6, hB.setCell (p := ⟨q + 1 + 1, 0, none⟩) (by have := Hq.out; simp only; omega) _⟩
 case done =>
  rintro D xs W hD rfl ⟨h, _⟩ hK
  cases h
 case stop =>
  rintro D j pre W hD rfl ⟨rfl, hcell, hb⟩ hK
  gi_wp2
  refine ⟨by simp, .inl ⟨_, _, rfl, run_takeDeferred hK, ?_⟩⟩
  have hne : q + 1 + 1 ≠ D := by omega
  refine ⟨.int .i64 1, joint_results _ _ (q + 1 + 1) 1 rfl ((World.putObj_heap_other hne).trans hcell), rfl, ?_⟩
  exact hb.trans (belowK_b (w := w) (Nat.le_refl _) W D _ _ (by omega) hK rfl rfl)
end
section
open Go Go.RowKit
abbrev boxK (v : Value) : Obj := .cells #[v] 47 (0, 0)
abbrev boxP (s : Nat) : Obj := .cells #[.pointer (some ⟨s, 0, none⟩)] 23 (0, 0)
theorem node4 : nodeT L4 5 = L4 ∧ nodeK L4 5 = 9 ∧ nodeP L4 5 = 10 ∧ nodeE L4 5 = 0 := by decide +kernel
theorem kdf4 : makeL L4 ⟨4, 1, 5, 0⟩ = L4 ∧ makeN L4 ⟨4, 1, 5, 0⟩ = 6 ∧ makeE L4 ⟨4, 1, 5, 0⟩ = 0 := by decide +kernel
structure StepAt (B s : Nat) (F : Nat → Prop) (b c bs bx bt bl : Nat) (v : Value) (x : Int) (w : World) : Prop where
 lv : Lv B s F L4 w
 tr : StT F w b 8 5 5 10 4 6 0
 cs : Stays F w bs (boxP s)
 cx : Stays F w bx (boxI x)
 ct : Stays F w bt (boxT (.slice (some ⟨b, 0, none⟩) 3 c))
 cl : Stays F w bl (boxK v)
theorem StepAt.new {B s : Nat} {F : Nat → Prop} {b c bs bx bt bl : Nat} {v : Value} {x : Int} {w w' : World} (h : StepAt B s F b c bs bx bt bl v x w) (hb : Below w.heap.size w w') : StepAt B s F b c bs bx bt bl v x w' :=
 ⟨h.lv.new hb, h.tr.new hb, h.cs.new hb, h.cx.new hb, h.ct.new hb, h.cl.new hb⟩
theorem StepAt.step {B s : Nat} {F F' : Nat → Prop} {b c bs bx bt bl : Nat} {v : Value} {x : Int} {w w' : World} (h : StepAt B s F b c bs bx bt bl v x w) (hx : Ext F F' w w') (hs : ProgStore w' s F' L4) (hT : Turned F w w') : StepAt B s F' b c bs bx bt bl v x w' :=
 ⟨h.lv.step hx hs hT, h.tr.step hx hT, h.cs.step hx hT, h.cx.step hx hT, h.ct.step hx hT, h.cl.step hx hT⟩
theorem StepAt.list {B s : Nat} {F : Nat → Prop} {b c bs bx bt bl : Nat} {v : Value} {x : Int} {w : World} (h : StepAt B s F b c bs bx bt bl v x w) (hB : B ≤ bl) (h1 : bs ≠ bl) (h2 : bx ≠ bl) (h3 : bt ≠ bl) (h4 : b ≠ bl) (v' : Value) :
    StepAt B s F b c bs bx bt bl v' x (w.setCell ⟨bl, 0, none⟩ v') := by
 have hT : Turned (fun k => k = bl) w (w.setCell ⟨bl, 0, none⟩ v') := Turned.setCell (F := fun k => k = bl) (Turned.refl _ _) (p := ⟨bl, 0, none⟩) (fun _ => rfl) _
 exact ⟨h.lv.turn hT (fun k hk e => h.cl.out (e ▸ hk)) (fun k hk => hk ▸ hB), h.tr.turn hT h4, h.cs.turn hT h1, h.cx.turn hT h2, h.ct.turn hT h3, ⟨rSc h.cl.at' 0 _, h.cl.out⟩⟩
theorem StepAt.secret {B s : Nat} {F : Nat → Prop} {b c bs bx bt bl : Nat} {v : Value} {x : Int} {w : World} (h : StepAt B s F b c bs bx bt bl v x w) (hB : B ≤ bx) (h1 : bs ≠ bx) (h2 : bl ≠ bx) (h3 : bt ≠ bx) (h4 : b ≠ bx) (x' : Int) :
    StepAt B s F b c bs bx bt bl v x' (w.setCell ⟨bx, 0, none⟩ (.int .i64 x')) := by
 have hT : Turned (fun k => k = bx) w (w.setCell ⟨bx, 0, none⟩ (.int .i64 x')) := Turned.setCell (F := fun k => k = bx) (Turned.refl _ _) (p := ⟨bx, 0, none⟩) (fun _ => rfl) _
 exact ⟨h.lv.turn hT (fun k hk e => h.cx.out (e ▸ hk)) (fun k hk => hk ▸ hB), h.tr.turn hT h4, h.cs.turn hT h1, ⟨rSc h.cx.at' 0 _, h.cx.out⟩, h.ct.turn hT h3, h.cl.turn hT h2⟩
def StepPost (B s : Nat) (F : Nat → Prop) (b c bs bx bt bl : Nat) (w : World) (r : Ending) (w' : World) : Prop :=
 r = .returned (.int .i64 0) ∧ ∃ F' g cg, StepAt B s F' b c bs bx bt bl (.slice (some ⟨g, 0, none⟩) 1 cg) 6 w' ∧ StO F' w' 123 2 (.slice (some ⟨g, 0, none⟩) 1 cg) 1 (keyV (1, 9)) ∧ Ext F F' w w' ∧ Turned (fun k => F k ∨ k = bl ∨ k = bx) w w' ∧ w.heap.size ≤ g
theorem step_3 (B s : Nat) (F : Nat → Prop) (b c bs bx bt bl : Nat) (hl : B ≤ bl ∧ bs ≠ bl ∧ bx ≠ bl ∧ bt ≠ bl ∧ b ≠ bl) (hx : B ≤ bx ∧ bs ≠ bx ∧ bl ≠ bx ∧ bt ≠ bx ∧ b ≠ bx) (w : World) (h : StepAt B s F b c bs bx bt bl (.slice none 0 0) 5 w) :
    Calls Tryz.prog 47 #[.int .i64 1, .pointer (some ⟨bs, 0, none⟩), .pointer (some ⟨bx, 0, none⟩), .pointer (some ⟨bt, 0, none⟩), .pointer (some ⟨bl, 0, none⟩)] w (StepPost B s F b c bs bx bt bl w) := by
 obtain ⟨iK, hiK, hk0, hk1, hk2⟩ := info_parts infoKey
 have H := hQ h
 have Hl := hQ hl
 have Hx := hQ hx
 have k0 := cRw h.cs.at' 0
 have k1 := cRw h.cx.at' 0
 have k2 := cRw h.ct.at' 0
 have k3 := cRw h.cl.at' 0
 have k4 := h.tr.at'.c4
 clear h hl hx
 go_enter Tryz.func47, Tryz.ntmps47
 go_wp2_with fail
 refine (snode_any s F L4 5 good4 (by decide) _ H.out.lv.ps).mono ?_
 rintro e w1 ⟨rfl, F1, hx, hs, hTu⟩
 rw [node4.1] at hs
 rw [node4.2.1, node4.2.2.1, node4.2.2.2]
 have H1 := hQ (H.out.step hx hs hTu)
 have HX1 := hQ (And.intro hx hTu)
 clear k0 k1 k2 k3 k4 hx hs hTu
 have k0 := cRw H1.out.cs.at' 0
 have k1 := cRw H1.out.cx.at' 0
 have k2 := cRw H1.out.ct.at' 0
 have k3 := cRw H1.out.cl.at' 0
 have k4 := H1.out.tr.at'.c4
 have hn1 : ∀ W : World, W.ownsRow 0 123 2 (.slice none 0 0) 0 [] := fun W => World.ownsRow_nil W 0 _ 2
 have Hn1 := hQ hn1; clear hn1
 go_upto_region 7 with (at_builtin; refine wpList_append_lies _ rfl (.tmp 32) (.tmp 36) 47 rfl 0 123 iK (.agg #[.int .i64 0, .int .i64 0]) 2 16 Tryz.underlying47 hiK hk0 hk1 hk2 rfl (by decide) (.slice none 0 0) 0 [] rfl (Hn1.out _) ⟨w1.heap.size, 0, none⟩ 1 1 (keyV (1, 9)) rfl rfl (keyV_cells w1 (1, 9) 123) (by intro u hu; simp [keyV] at hu; rcases hu with rfl | rfl <;> rfl) (by omega) (by unfold maxLen; omega) (by omega) (Nat.zero_le _) (w1.heap.size + 1) (by simp) ?_; intro g cg w2 hown2 hgrow2 hat2 hlt2; have hb2 := ((Below.refl w1.heap.size w1).alloc (Nat.le_refl _) (.cells #[.int .i64 1, .int .i64 9] 123)).grown hgrow2 (by simp) (fun k hk => by simp [Value.ownBlock] at hk); have H2 := hQ (H1.out.new hb2); have Hb2 := hQ hb2; have Hown2 := hQ hown2; have Hg2 := hQ (hat2.elim (fun e => by simp [Value.ownBlock] at e) id : g = w1.heap.size + 1); clear hown2 hgrow2 hat2 hlt2 hb2 k0 k1 k2 k3 k4; have k3 := cRw H2.out.cl.at' 0; have f3 := fRw H2.out.cl.at' 0)
 have hgl : g ≠ bl := by have := Hg2.out; have := H1.out.cl.lt; omega
 have hgx : g ≠ bx := by have := Hg2.out; have := H1.out.cx.lt; omega
 have hT12 : Turned (fun k => F k ∨ k = bl ∨ k = bx) w w2 := (HX1.out.2.mono (fun k _ hk => Or.inl hk)).trans (Turned.new (fun _ => False) Hb2.out) (fun _ _ h => h.elim)
 have hx12 : Ext F F1 w w2 := fun k hk => (HX1.out.1 k hk).imp id fun h2 => ⟨h2.1, Nat.lt_of_lt_of_le h2.2 Hb2.out.size⟩
 have hs2 : StO F1 w2 123 2 (.slice (some ⟨g, 0, none⟩) 1 cg) 1 (keyV (1, 9)) := ⟨Hown2.out, fun k hk hf => by
  have h1 : g = k := by simpa [Value.ownBlock] using hk
  have := H1.out.lv.ps.lt _ hf
  have := Hg2.out
  omega⟩
 have h3 := H2.out.list Hl.out.1 Hl.out.2.1 Hl.out.2.2.1 Hl.out.2.2.2.1 Hl.out.2.2.2.2 (.slice (some ⟨g, 0, none⟩) 1 cg)
 have hTb : Turned (fun k => k = bl) w2 (w2.setCell ⟨bl, 0, none⟩ (.slice (some ⟨g, 0, none⟩) 1 cg)) := Turned.setCell (F := fun k => k = bl) (Turned.refl _ _) (p := ⟨bl, 0, none⟩) (fun _ => rfl) _
 have hs3 := hs2.turn hTb (fun k hk e => hgl (by have h1 : g = k := by simpa [Value.ownBlock] using hk
                                                 omega))
 have hT3 := hT12.trans hTb (fun k _ h => Or.inr (Or.inl h))
 have hx3 : Ext F F1 w (w2.setCell ⟨bl, 0, none⟩ (.slice (some ⟨g, 0, none⟩) 1 cg)) := fun k hk => (hx12 k hk).imp id fun h2 => ⟨h2.1, Nat.lt_of_lt_of_le h2.2 hTb.size⟩
 have hgw : w.heap.size ≤ g := by have := Hg2.out; have := HX1.out.2.size; omega
 generalize w2.setCell ⟨bl, 0, none⟩ (.slice (some ⟨g, 0, none⟩) 1 cg) = w3 at h3 hs3 hT3 hx3 ⊢
 have H3 := hQ h3
 have Hs3 := hQ hs3
 have HX3 := hQ (And.intro hx3 hT3)
 have Hg3 := hQ (And.intro hgw (And.intro hgl hgx))
 clear h3 hs3 hT3 hx3 hgw hgl hgx hTb hs2 hT12 hx12 H1 H2 Hown2 Hb2 HX1 H k3 f3
 have k0 := cRw H3.out.cs.at' 0
 have k1 := cRw H3.out.cx.at' 0
 go_wp2_with fail
 refine (derived_any s F1 L4 1 5 (by simp [TermD.ok, i64ok]) good4 (by decide) _ H3.out.lv.ps).mono ?_
 rintro e w4 ⟨rfl, F2, hx, hs, hTu⟩
 rw [kdf4.1] at hs
 rw [kdf4.2.1, kdf4.2.2]
 have H4 := hQ (H3.out.step hx hs hTu)
 have Hs4 := hQ (Hs3.out.step hx hTu)
 have HX4 := hQ (And.intro hx hTu)
 clear hx hs hTu k0 k1
 have k1 := cRw H4.out.cx.at' 0
 have f1 := fRw H4.out.cx.at' 0
 go_wp2
 go_ret
 have h5 := H4.out.secret Hx.out.1 Hx.out.2.1 Hx.out.2.2.1 Hx.out.2.2.2.1 Hx.out.2.2.2.2 6
 have hTb : Turned (fun k => k = bx) w4 (w4.setCell ⟨bx, 0, none⟩ (.int .i64 6)) := Turned.setCell (F := fun k => k = bx) (Turned.refl _ _) (p := ⟨bx, 0, none⟩) (fun _ => rfl) _
 have hT4 : Turned (fun k => F k ∨ k = bl ∨ k = bx) w w4 := HX3.out.2.trans HX4.out.2 (fun k hk h => (HX3.out.1 k h).elim Or.inl (fun h2 => absurd h2.1 (Nat.not_le_of_lt hk)))
 have hT5 := hT4.trans hTb (fun k _ h => Or.inr (Or.inr h))
 have hgx := Hg3.out.2.2
 have hs5 := Hs4.out.turn hTb (fun k hk e => by
  have h1 : g = k := by simpa [Value.ownBlock] using hk
  omega)
 refine ⟨rfl, F2, g, cg, h5, hs5, ?_, hT5, Hg3.out.1⟩
 intro k hk
 have h4 := hTb.size
 rcases HX4.out.1 k hk with h | h
 · rcases HX3.out.1 k h with h2 | h2
   · exact Or.inl h2
   · exact Or.inr ⟨h2.1, by have := HX4.out.2.size; omega⟩
 · exact Or.inr ⟨by have := HX3.out.2.size; omega, by omega⟩
end
end Go.Proofs.YtedpljclnpiggaaGreatDoor
