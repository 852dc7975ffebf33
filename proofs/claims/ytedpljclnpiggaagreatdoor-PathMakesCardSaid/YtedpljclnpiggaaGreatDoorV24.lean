/- tree.SetPath at the first leaf of a tree of three nodes. -/
import Derived.Test.YtedpljclnpiggaaGreatDoorV23
import Derived.Deep.DeepCutAuto
set_option linter.unusedVariables false
set_option linter.unusedSimpArgs false
set_option maxRecDepth 100000
set_option maxHeartbeats 12800000
namespace Go.Proofs.YtedpljclnpiggaaGreatDoor
open Go Go.RowKit
def SetPost (w : World) (p0 m0 e0 p1 p2 m2 e2 : Int) (e : Ending) (w' : World) : Prop :=
 ∃ g, e = .returned (.tuple #[.agg #[.slice (some ⟨g, 0, none⟩) 3 3], .int .i64 0]) ∧ T3 w' g p0 m0 e0 p1 p2 m2 e2 ∧ w.heap.size ≤ g ∧ Below w.heap.size w w'
structure BoxZ (w : World) (q : Nat) (v : Value) (t : TypeId) : Prop where
 row : w.heap[q]? = some (.cells #[v] t (0, 0))
theorem BoxZ.mk' {w w' : World} {v : Value} {t : TypeId} (hb : Below (w.alloc (.cells #[v] t (0, 0))).heap.size (w.alloc (.cells #[v] t (0, 0))) w') : BoxZ w' w.heap.size v t :=
 ⟨(hb.block w.heap.size (by simp)).trans (rAl _ _ _)⟩
theorem BoxZ.mkd {w w' : World} {v : Value} {t : TypeId} (hb : Below (w.alloc (.cells #[v] t (0, 0))).drew.heap.size (w.alloc (.cells #[v] t (0, 0))).drew w') : BoxZ w' w.heap.size v t :=
 ⟨(hb.block w.heap.size (by simp [World.drew])).trans (rAl _ _ _)⟩
theorem BoxZ.kept {w w' : World} {q : Nat} {v : Value} {t : TypeId} (h : BoxZ w q v t) (hb : Below w.heap.size w w') : BoxZ w' q v t := ⟨(hb.block q (Array.getElem?_eq_some_iff.1 h.row).1).trans h.row⟩
theorem BoxZ.cell {w : World} {q : Nat} {v : Value} {t : TypeId} (h : BoxZ w q v t) : w.cell? ⟨q, 0, none⟩ = some v := by rw [cRw h.row]; rfl
theorem BoxZ.free {w : World} {q : Nat} {v : Value} {t : TypeId} (h : BoxZ w q v t) : w.frozen? ⟨q, 0, none⟩ = false := fRw h.row 0
def OutCut (w : World) (p0 m0 e0 p1 p2 m2 e2 : Int) (v : Value) (W : World) : Prop :=
 ∃ q g l, v = .pointer (some ⟨q, 0, none⟩) ∧ W.heap[q]? = some (.cells #[.slice (some ⟨g, 0, none⟩) 3 3] 44 (0, 0)) ∧ T3 W g p0 m0 e0 p1 p2 m2 e2 ∧ W.heap[g]? = some (.cells l 125 (0, 0)) ∧ l.size = 12 ∧ w.heap.size ≤ g ∧ w.heap.size ≤ q ∧ Below w.heap.size w W
theorem outcut_a {w w5 : World} {p0 m0 e0 p1 p2 m2 e2 : Int} {q g : Nat} {l : List Value} (hB : BoxZ w5 q (.slice none 0 0) 44) (hT : T3 w5 g p0 m0 e0 p1 p2 m2 e2) (hr : w5.heap[g]? = some (.cells l.toArray 125 (0, 0))) (hl : l.length = 12) (hg : w.heap.size ≤ g) (hq : w.heap.size ≤ q) (hb : Below w.heap.size w w5) :
    OutCut w p0 m0 e0 p1 p2 m2 e2 (.pointer (some ⟨q, 0, none⟩)) (w5.setCell ⟨q, 0, none⟩ (.slice (some ⟨g, 0, none⟩) 3 3)) := by
 have hqg : q ≠ g := fun e => by
  subst e
  have := hB.row.symm.trans hr
  simp only [Option.some.injEq, Obj.cells.injEq] at this
  have h2 := congrArg Array.size this.1
  simp [hl] at h2
 have hrg := (Below.heap_setCell w5 ⟨q, 0, none⟩ (.slice (some ⟨g, 0, none⟩) 3 3) g (Ne.symm hqg))
 exact ⟨q, g, l.toArray, rfl, rSc hB.row 0 _, hT.block hrg, hrg.trans hr, by simp [hl], hg, hq, hb.setCell (p := ⟨q, 0, none⟩) hq _⟩
theorem outcut_b {w w5 : World} {p0 m0 e0 p1 p2 m2 e2 : Int} {g : Nat} {l : List Value} (hT : T3 w5 g p0 m0 e0 p1 p2 m2 e2) (hr : w5.heap[g]? = some (.cells l.toArray 125 (0, 0))) (hl : l.length = 12) (hg : w.heap.size ≤ g) (hb : Below w.heap.size w w5) :
    OutCut w p0 m0 e0 p1 p2 m2 e2 (.pointer (some ⟨w5.heap.size, 0, none⟩)) (w5.alloc (.cells #[.slice (some ⟨g, 0, none⟩) 3 3] 44 (0, 0))) := by
 have hb1 := (Below.refl w5.heap.size w5).alloc (Nat.le_refl _) (.cells #[.slice (some ⟨g, 0, none⟩) 3 3] 44)
 exact ⟨w5.heap.size, g, l.toArray, rfl, rAl _ _ _, hT.new hb1, (hb1.block g hT.lt).trans hr, by simp [hl], hg, hb.size, hb.alloc hb.size _⟩
structure OutAt (wc W : World) (g : Nat) (l : Array Value) : Prop where
 row : W.heap[g]? = some (.cells l 125 (0, 0))
 turned : Turned (fun k => k = g) wc W
theorem OutAt.put {wc W : World} {g : Nat} {l : Array Value} (h : OutAt wc W g l) (j : Nat) (v : Value) : OutAt wc (W.setCell ⟨g, j, none⟩ v) g (l.setIfInBounds j v) :=
 ⟨rSc h.row j v, h.turned.setCell (p := ⟨g, j, none⟩) (fun _ => rfl) v⟩
theorem OutAt.step {wc W W2 : World} {g : Nat} {l : Array Value} (h : OutAt wc W g l) (hb : Below W.heap.size W W2) : OutAt wc W2 g l :=
 ⟨(hb.block g (Array.getElem?_eq_some_iff.1 h.row).1).trans h.row, h.turned.trans (Turned.new (fun _ => False) hb) (fun _ _ h => h.elim)⟩
theorem OutAt.old {wc W : World} {g : Nat} {l : Array Value} (h : OutAt wc W g l) {p : Addr} (hp : p.block < wc.heap.size) (hn : p.block ≠ g) : W.cell? p = wc.cell? p := h.turned.cell hp hn
theorem OutAt.cell {wc W : World} {g : Nat} {l : Array Value} (h : OutAt wc W g l) (j : Nat) : W.cell? ⟨g, j, none⟩ = l[j]? := cRw h.row j
theorem set_results (tmps : Array Value) (w : World) (r : Nat) (v : Value) (x : Int) (h4 : tmps.getD 10 undef = .pointer (some ⟨r, 0, none⟩)) (h5 : tmps.getD 11 undef = .int .i64 x)
    (hg : w.heap[r]? = some (.cells #[v] 44 (0, 0))) : (results Tryz.f59 tmps).run Tryz.prog w = .ok (.tuple #[.agg #[v], .int .i64 x]) w := by
 have hl := run_loadVar_row (P := Tryz.prog) w r 44 44 #[v] (0, 0) _ hg Tryz.underlying44 rfl (by kernel_rfl)
 have ha : (asAddr (.pointer (some ⟨r, 0, none⟩))).run Tryz.prog w = .ok ⟨r, 0, none⟩ w := by simp [asAddr]
 rw [results_cell_tmp (p := 10) (u := 11) (ty := 44) (by kernel_rfl), h4, h5, ha]
 simp [Result.andThen, hl]
theorem setpath_0 (b c : Nat) (p0 m0 e0 p1 p2 m2 e2 : Int) (h0 : 0 < p0) (h1 : 0 ≤ p1) (h2 : 0 < p2) (hm0 : 0 ≤ m0 ∧ m0 ≤ 1000) (hm2 : 0 ≤ m2 ∧ m2 ≤ 1000) (hm : m0 ≠ m2) (he0 : 0 ≤ e0 ∧ e0 ≤ 1000) (he2 : 0 ≤ e2 ∧ e2 ≤ 1000) (w : World) (he : TzEnv w) (hsz : 3 ≤ w.heap.size) (h : T3 w b p0 m0 e0 p1 p2 m2 e2)
    (gp op cp : Nat) (epoch pub pub1 : Int) (hep : 0 ≤ epoch) (hpub : 1 ≤ pub) (hpub1 : 1 ≤ pub1) (hc : w.cell? ⟨gp, op, none⟩ = some (.int .i64 pub1)) :
    Calls Tryz.prog 59 #[.agg #[.slice (some ⟨b, 0, none⟩) 3 c], .int .i64 0, .int .i64 epoch, .int .i64 pub, .slice (some ⟨gp, op, none⟩) 1 cp] w (SetPost w pub m0 epoch pub1 p2 m2 e2) := by
 have hb0 := (Below.refl w.heap.size w).alloc (Nat.le_refl _) (.cells #[.slice (some ⟨b, 0, none⟩) 3 c] 44)
 have hb1 := hb0.alloc hb0.size (.cells #[.slice none 0 0] 44)
 have hs1 : w.heap.size + 1 < ((w.alloc (.cells #[.slice (some ⟨b, 0, none⟩) 3 c] 44)).alloc (.cells #[.slice none 0 0] 44)).heap.size := by simp
 have hct : ((w.alloc (.cells #[.slice (some ⟨b, 0, none⟩) 3 c] 44)).alloc (.cells #[.slice none 0 0] 44)).heap[w.heap.size]? = some (.cells #[.slice (some ⟨b, 0, none⟩) 3 c] 44 (0, 0)) := (heap_alloc_old _ _ (by simp)).trans (rAl _ _ _)
 have hcr : ((w.alloc (.cells #[.slice (some ⟨b, 0, none⟩) 3 c] 44)).alloc (.cells #[.slice none 0 0] 44)).heap[w.heap.size + 1]? = some (.cells #[.slice none 0 0] 44 (0, 0)) := by
  have := rAl (w := w.alloc (.cells #[.slice (some ⟨b, 0, none⟩) 3 c] 44)) #[.slice none 0 0] 44 (0, 0)
  simpa using this
 have hck := check_3 b c p0 m0 e0 p1 p2 m2 e2 h0 h1 h2 hm0 hm2 hm he0 he2 _ (he.below hb1 hsz) (Nat.le_trans hsz hb1.size) (h.new hb1)
 have hpath := fun (W : World) (hW : Below w.heap.size w W) => path_0 b c p0 m0 e0 p1 p2 m2 e2 h0 h1 h2 hm0 hm2 hm he0 he2 W (he.below hW hsz) (Nat.le_trans hsz hW.size) (h.new hW)
 have htwin := fun (W : World) (hW : Below w.heap.size w W) => twin_3 b c p0 m0 e0 p1 p2 m2 e2 W (h.new hW)
 have hdir := fun (W : World) (hW : Below w.heap.size w W) => idirect_0 W (he.below hW hsz) (Nat.le_trans hsz hW.size)
 have hcl : gp < w.heap.size := World.block_lt_of_cell? w _ hc
 have hpe : ¬ epoch < 0 := by omega
 have hpp : ¬ pub < 1 := by omega
 have hpp1 : ¬ pub1 < 1 := by omega
 have Hck := hQ hck; clear hck
 have Hpath := hQ hpath; clear hpath
 have Htwin := hQ htwin; clear htwin
 have Hdir := hQ hdir; clear hdir
 have Hc := hQ (And.intro hc hcl); clear hc hcl
 have Hb1 := hQ hb1; clear hb0 hb1
 have Hs1 := hQ hs1; clear hs1
 have Hct := hQ hct; clear hct
 have Hcr := hQ hcr; clear hcr
 clear h he h0 h1 h2 hm0 hm2 hm he0 he2 hep hpub hpub1
 go_enter Tryz.func59, Tryz.ntmps59
 go_wp2_with fail
 refine Hck.out.mono ?_
 rintro e w2 ⟨rfl, hb2⟩
 have ht2 := (hb2.block w.heap.size (Nat.lt_trans (Nat.lt_succ_self _) Hs1.out)).trans Hct.out
 have hr2 := (hb2.block (w.heap.size + 1) Hs1.out).trans Hcr.out
 have Hb2 := hQ (Hb1.out.trans (hb2.mono Hb1.out.size)); clear hb2 Hck Hs1 Hb1 Hct Hcr
 obtain ⟨q, hq⟩ : ∃ q, q = w.heap.size := ⟨_, rfl⟩
 rw [← hq] at ht2 hr2 ⊢
 have Hq := hQ hq; clear hq
 have Hr2 := hQ hr2; clear hr2
 have Ht2 := hQ ht2; clear ht2
 have k := cRw Ht2.out 0
 go_wp2_with fail
 refine (Hpath.out _ Hb2.out).mono ?_
 rintro e w3 ⟨gh, ch, rfl, cgh, hgh, hb3⟩
 have Hr3 := hQ ((hb3.block (q + 1) (Array.getElem?_eq_some_iff.1 Hr2.out).1).trans Hr2.out)
 have Ht3 := hQ ((hb3.block q (Array.getElem?_eq_some_iff.1 Ht2.out).1).trans Ht2.out)
 have Hb3 := hQ (Hb2.out.trans (hb3.mono Hb2.out.size)); clear hb3 Hr2 Ht2 k
 have Hgh := hQ (And.intro cgh hgh); clear cgh hgh
 have k : w3.cell? ⟨gp, op, none⟩ = some (.int .i64 pub1) := (Hb3.out.cell (p := ⟨gp, op, none⟩) Hc.out.2).trans Hc.out.1
 go_wp2_with fail
 refine (min_one gp op cp pub1 w3 k).mono ?_
 rintro e wx ⟨rfl, hwx⟩
 subst wx
 clear k
 have kt : w3.cell? ⟨q, 0, none⟩ = some (.slice (some ⟨b, 0, none⟩) 3 c) := cRw Ht3.out 0
 have hql : q < w3.heap.size := (Array.getElem?_eq_some_iff.1 Ht3.out).1
 go_upto_region 8 with fail
 go_cut [14] (fun v wx => OutCut w3 p0 m0 e0 p1 p2 m2 e2 v wx)
 case first =>
  go_region_with (first | (go_at_call 206; refine (leaves_3 _ _ _).mono ?_; rintro e w4 ⟨rfl, hb4⟩; (try (have Bz := BoxZ.mk' hb4)); (try (have Bz := BoxZ.mkd hb4)); have hB4 : Below w3.heap.size w3 w4 := (by first | exact ⟨hb4.os, hb4.tape, hb4.output, hb4.size, hb4.block⟩ | exact ((Below.refl _ w3).alloc (Nat.le_refl _) _).trans ((show Below (w3.alloc _).heap.size (w3.alloc _) w4 from ⟨hb4.os, hb4.tape, hb4.output, hb4.size, hb4.block⟩).mono (by simp))); have k4 := (hB4.cell (p := ⟨q, 0, none⟩) hql).trans kt; have hql4 := Nat.lt_of_lt_of_le hql hB4.size; have Hb4 := hQ hB4; clear hB4 hb4) | (go_at_call 205; have hW4 := Hb3.out.trans (Hb4.out.mono Hb3.out.size); refine (Htwin.out _ (by first | exact hW4 | exact ⟨hW4.os, hW4.tape, hW4.output, hW4.size, hW4.block⟩ | exact hW4.alloc hW4.size _ | exact (have h := hW4.alloc hW4.size (.cells #[.slice none 0 0] 44); ⟨h.os, h.tape, h.output, h.size, h.block⟩))).mono ?_; intro e w5 h5; obtain ⟨g5, rfl, hT5, hg5, hb5, l5, hr5, hl5⟩ := h5; (try (have Bz5 := BoxZ.mk' hb5)); (try (have Bz5 := BoxZ.mkd hb5)); (try (have Bz5 := Bz.kept hb5; clear Bz)); (try (have kz := Bz5.cell; have Fz5 := Bz5.free; (try dsimp only [World.drew, World.drewN] at kz Fz5); have HBz := hQ Bz5; clear Bz5)); have HT5 := hQ (And.intro hT5 (And.intro hr5 hl5)); have hB5 : Below w3.heap.size w3 w5 := (by have hX4 := Hb4.out; first | exact hX4.trans ((show Below w4.heap.size w4 w5 from ⟨hb5.os, hb5.tape, hb5.output, hb5.size, hb5.block⟩).mono hX4.size) | exact (hX4.alloc hX4.size (.cells #[.slice none 0 0] 44)).trans ((show Below (w4.alloc _).heap.size (w4.alloc _) w5 from ⟨hb5.os, hb5.tape, hb5.output, hb5.size, hb5.block⟩).mono (by have := hX4.size; simp; omega))); have hgg : w3.heap.size ≤ g5 := (by have := Hb4.out.size; (try simp [World.drew] at hg5); omega); have HB5 := hQ (And.intro hB5 hgg); have Hs4 := hQ Hb4.out.size; clear hT5 hg5 hb5 hr5 hl5 hW4 hB5 hgg))
  all_goals (go_wp2_with fail; go_meet)
  all_goals first
   | exact outcut_b HT5.out.1 HT5.out.2.1 HT5.out.2.2 HB5.out.2 HB5.out.1
   | exact outcut_a HBz.out HT5.out.1 HT5.out.2.1 HT5.out.2.2 HB5.out.2 Hs4.out HB5.out.1
   | exact outcut_a HBz.out HT5.out.1 HT5.out.2.1 HT5.out.2.2 HB5.out.2 (Nat.le_refl _) HB5.out.1
 case rest =>
  obtain ⟨bx, g, l, rfl, hbx, hTg, hrow, hl, hg, hq, hbc⟩ := hcut
  have hbg : bx ≠ g := fun e => by
   subst e
   have := hbx.symm.trans hrow
   simp only [Option.some.injEq, Obj.cells.injEq] at this
   have h2 := congrArg Array.size this.1
   simp [hl] at h2
  have kb : wc.cell? ⟨bx, 0, none⟩ = some (.slice (some ⟨g, 0, none⟩) 3 3) := cRw hbx 0
  have kt : wc.cell? ⟨q, 0, none⟩ = some (.slice (some ⟨b, 0, none⟩) 3 c) := (hbc.cell (p := ⟨q, 0, none⟩) hql).trans (cRw Ht3.out 0)
  have k0 := hTg.c0
  have k2 := hTg.c2
  have f0 := fRw hrow 0
  have f2 := fRw hrow 2
  have hgl : g < wc.heap.size := (Array.getElem?_eq_some_iff.1 hrow).1
  have hqg : q ≠ g := by omega
  have hqc : q < wc.heap.size := Nat.lt_of_lt_of_le hql hbc.size
  have h6 : OutAt wc ((wc.setCell ⟨g, 2, none⟩ (.int .i64 epoch)).setCell ⟨g, 0, none⟩ (.int .i64 pub)) g ((l.setIfInBounds 2 (.int .i64 epoch)).setIfInBounds 0 (.int .i64 pub)) := (OutAt.put (OutAt.put ⟨hrow, Turned.refl _ _⟩ 2 (.int .i64 epoch)) 0 (.int .i64 pub))
  have H6 := hQ h6; clear h6
  have Hx := hQ (And.intro hTg (And.intro hrow (And.intro hl (And.intro hg (And.intro hbx hbc))))); clear hTg hrow hl hg hbc hbx hq
  go_wp2_with fail
  refine (leaves_3 _ _ _).mono ?_
  rintro e w7 ⟨rfl, hb7⟩
  have h7 := H6.out.step hb7
  have H7 := hQ h7; clear h7 hb7 H6 kt k0 k2 f0 f2
  have hW7 : Below w.heap.size w w7 := by
   have h := H7.out.turned.below (B := w3.heap.size) Hx.out.2.2.2.2.2.size (fun k hk => by rw [hk]; exact Hx.out.2.2.2.1)
   exact Hb3.out.trans ((Hx.out.2.2.2.2.2.trans h).mono Hb3.out.size)
  go_wp2_with fail
  refine (Hdir.out _ hW7).mono ?_
  rintro e w8 ⟨gd, rfl, cgd, hgd, hb8⟩
  have h8 := H7.out.step hb8
  have ho := fun (p : Addr) (hp : p.block < wc.heap.size) (hn : p.block ≠ g) => h8.old hp hn
  have kb8 : w8.cell? ⟨bx, 0, none⟩ = some (.slice (some ⟨g, 0, none⟩) 3 3) := (ho ⟨bx, 0, none⟩ (Array.getElem?_eq_some_iff.1 Hx.out.2.2.2.2.1).1 hbg).trans kb
  have hsz8 : ∀ j, j < 12 → ∃ v, w8.cell? ⟨g, j, none⟩ = some v := fun j hj => by
   rw [h8.cell j]
   exact ⟨_, Array.getElem?_eq_getElem (by simp [Hx.out.2.2.1]; exact hj)⟩
  obtain ⟨v4, k4⟩ := hsz8 4 (by omega)
  obtain ⟨v5, k5⟩ := hsz8 5 (by omega)
  obtain ⟨v6, k6⟩ := hsz8 6 (by omega)
  obtain ⟨v7, k7⟩ := hsz8 7 (by omega)
  have f4 := fRw h8.row 4
  have f5 := fRw h8.row 5
  have f6 := fRw h8.row 6
  have f7 := fRw h8.row 7
  have hw8 : wc.heap.size ≤ w7.heap.size ∧ w7.heap.size ≤ gd ∧ gd < w8.heap.size := ⟨H7.out.turned.size, hgd⟩
  have hgdg : gd ≠ g := by have := hw8.1; omega
  have H8 := hQ h8
  have Ho := hQ ho
  have Hw8 := hQ hw8
  clear h8 ho hsz8 hW7 hgd hb8 H7 kb hw8
  go_wp2
  refine wp_loop_rounds 2 ?_
  rw [rounds_succ]
  go_wp2
  have h9 : OutAt wc ((((w8.setCell ⟨g, 4, none⟩ (.int .i64 0)).setCell ⟨g, 5, none⟩ (.int .i64 0)).setCell ⟨g, 6, none⟩ (.int .i64 0)).setCell ⟨g, 7, none⟩ (.slice none 0 0)) g _ := (((H8.out.put 4 (.int .i64 0)).put 5 (.int .i64 0)).put 6 (.int .i64 0)).put 7 (.slice none 0 0)
  have hs9 : ((((w8.setCell ⟨g, 4, none⟩ (.int .i64 0)).setCell ⟨g, 5, none⟩ (.int .i64 0)).setCell ⟨g, 6, none⟩ (.int .i64 0)).setCell ⟨g, 7, none⟩ (.slice none 0 0)).heap.size = w8.heap.size := by simp [World.setCell]
  clear k4 k5 k6 k7 f4 f5 f6 f7 kb8 cgd
  generalize ((((w8.setCell ⟨g, 4, none⟩ (.int .i64 0)).setCell ⟨g, 5, none⟩ (.int .i64 0)).setCell ⟨g, 6, none⟩ (.int .i64 0)).setCell ⟨g, 7, none⟩ (.slice none 0 0)) = w9 at h9 hs9 ⊢
  have H9 := hQ h9
  have Hs9 := hQ hs9
  clear h9 hs9
  rw [rounds_succ]
  have hgh : gh < wc.heap.size ∧ gh ≠ g := by
   have h1 := Hgh.out.2.2
   have h2 := Hx.out.2.2.2.2.2.size
   have h3 := Hx.out.2.2.2.1
   exact ⟨by omega, by omega⟩
  have kgh : w9.cell? ⟨gh, 0, none⟩ = some (.int .i64 1) := (H9.out.old (p := ⟨gh, 0, none⟩) hgh.1 hgh.2).trans ((Hx.out.2.2.2.2.2.cell (p := ⟨gh, 0, none⟩) Hgh.out.2.2).trans Hgh.out.1)
  have kb9 : w9.cell? ⟨bx, 0, none⟩ = some (.slice (some ⟨g, 0, none⟩) 3 3) := (H9.out.old (p := ⟨bx, 0, none⟩) (Array.getElem?_eq_some_iff.1 Hx.out.2.2.2.2.1).1 hbg).trans (cRw Hx.out.2.2.2.2.1 0)
  have hgp3 : gp < w3.heap.size := Nat.lt_of_lt_of_le Hc.out.2 Hb3.out.size
  have hgp : gp < wc.heap.size ∧ gp ≠ g := by
   have h2 := Hx.out.2.2.2.2.2.size
   have h3 := Hx.out.2.2.2.1
   exact ⟨by omega, by omega⟩
  have kgp : w9.cell? ⟨gp, op, none⟩ = some (.int .i64 pub1) := (H9.out.old (p := ⟨gp, op, none⟩) hgp.1 hgp.2).trans ((Hx.out.2.2.2.2.2.cell (p := ⟨gp, op, none⟩) hgp3).trans ((Hb3.out.cell (p := ⟨gp, op, none⟩) Hc.out.2).trans Hc.out.1))
  have k4 : w9.cell? ⟨g, 4, none⟩ = some (.int .i64 0) := by rw [H9.out.cell 4]; simp [Hx.out.2.2.1]
  have f4 := fRw H9.out.row 4
  have hgne := hgh.2
  have hgpne := hgp.2
  clear hgh hgp hgp3
  go_wp2_with fail
  refine wp_loop_rounds 2 ?_
  rw [rounds_succ]
  go_wp2_with fail
  go_region
  go_wp2
  have h10 : OutAt wc (w9.setCell ⟨g, 4, none⟩ (.int .i64 pub1)) g _ := H9.out.put 4 (.int .i64 pub1)
  have H10 := hQ h10
  clear h10 kgh kgp k4 f4 kb9
  rw [rounds_succ]
  have kb : (w9.setCell ⟨g, 4, none⟩ (.int .i64 pub1)).drew.cell? ⟨bx, 0, none⟩ = some (.slice (some ⟨g, 0, none⟩) 3 3) := (H10.out.old (p := ⟨bx, 0, none⟩) (Array.getElem?_eq_some_iff.1 Hx.out.2.2.2.2.1).1 hbg).trans (cRw Hx.out.2.2.2.2.1 0)
  have hr3l : q + 1 < w3.heap.size := (Array.getElem?_eq_some_iff.1 Hr3.out).1
  have hrg : q + 1 ≠ g := by have := Hx.out.2.2.2.1; omega
  have hrr : (w9.setCell ⟨g, 4, none⟩ (.int .i64 pub1)).drew.heap[q + 1]? = some (.cells #[.slice none 0 0] 44 (0, 0)) :=
   (H10.out.turned.block (q + 1) (Nat.lt_of_lt_of_le hr3l Hx.out.2.2.2.2.2.size) hrg).trans ((Hx.out.2.2.2.2.2.block (q + 1) hr3l).trans Hr3.out)
  have kr : (w9.setCell ⟨g, 4, none⟩ (.int .i64 pub1)).drew.cell? ⟨q + 1, 0, none⟩ = some (.slice none 0 0) := cRw hrr 0
  have fr := fRw hrr 0
  have Hrr := hQ hrr
  clear hrr
  go_wp2
  refine bodyPost_ret_by (set_results _ _ (q + 1) (.slice (some ⟨g, 0, none⟩) 3 3) 0 rfl rfl (by exact rSc Hrr.out 0 _)) rfl ?_
  have hrow' : (((w9.setCell ⟨g, 4, none⟩ (.int .i64 pub1)).setCell ⟨q + 1, 0, none⟩ (.slice (some ⟨g, 0, none⟩) 3 3)).drew).heap[g]? = some (.cells _ 125 (0, 0)) :=
   (Below.heap_setCell (w9.setCell ⟨g, 4, none⟩ (.int .i64 pub1)) ⟨q + 1, 0, none⟩ (.slice (some ⟨g, 0, none⟩) 3 3) g (Ne.symm hrg)).trans H10.out.row
  have hc := fun j => cRw hrow' j
  have hl := Hx.out.2.2.1
  have hTg := Hx.out.1
  have hlj := fun j => (cRw Hx.out.2.1 j).symm
  have g1 := (hlj 1).trans hTg.c1
  obtain ⟨a3, n3, t3⟩ := hTg.c3
  have g3 := (hlj 3).trans t3
  have g8 := (hlj 8).trans hTg.c8
  have g9 := (hlj 9).trans hTg.c9
  have g10 := (hlj 10).trans hTg.c10
  obtain ⟨a11, n11, t11⟩ := hTg.c11
  have g11 := (hlj 11).trans t11
  have hge : w.heap.size ≤ g := Nat.le_trans Hb3.out.size Hx.out.2.2.2.1
  have hbe : Below w.heap.size w w9 := Hb3.out.trans ((Hx.out.2.2.2.2.2.trans (H9.out.turned.below (B := w3.heap.size) Hx.out.2.2.2.2.2.size (fun k hk => by rw [hk]; exact Hx.out.2.2.2.1))).mono Hb3.out.size)
  have hb10 := (hbe.setCell (p := ⟨g, 4, none⟩) hge (.int .i64 pub1)).setCell (p := ⟨q + 1, 0, none⟩) (by have := Hq.out; simp only; omega) (.slice (some ⟨g, 0, none⟩) 3 3)
  refine ⟨g, rfl, ⟨?_, ?_, ?_, ⟨a3, n3, ?_⟩, ?_, ?_, ?_, ⟨none, 0, ?_⟩, ?_, ?_, ?_, ⟨a11, n11, ?_⟩⟩, hge, ⟨hb10.os, hb10.tape, hb10.output, hb10.size, hb10.block⟩⟩
  all_goals first
   | (rw [hc 0]; simp [hl]; done)
   | (rw [hc 1]; simpa [hl] using g1)
   | (rw [hc 2]; simp [hl]; done)
   | (rw [hc 3]; simpa [hl] using g3)
   | (rw [hc 4]; simp [hl]; done)
   | (rw [hc 5]; simp [hl]; done)
   | (rw [hc 6]; simp [hl]; done)
   | (rw [hc 7]; simp [hl]; done)
   | (rw [hc 8]; simpa [hl] using g8)
   | (rw [hc 9]; simpa [hl] using g9)
   | (rw [hc 10]; simpa [hl] using g10)
   | (rw [hc 11]; simpa [hl] using g11)
end Go.Proofs.YtedpljclnpiggaaGreatDoor
