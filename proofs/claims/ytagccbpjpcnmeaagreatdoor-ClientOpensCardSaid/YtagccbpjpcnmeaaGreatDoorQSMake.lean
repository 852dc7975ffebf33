/-
  The program's store: Make.
-/
import Derived.Test.YtagccbpjpcnmeaaGreatDoorQPrg
import Derived.Test.YtagccbpjpcnmeaaGreatDoorQKey
import Derived.Test.YtagccbpjpcnmeaaGreatDoorQRMake
set_option linter.unusedVariables false
set_option linter.unusedSimpArgs false
namespace Go.Proofs.YtagccbpjpcnmeaaGreatDoor
open Go Go.RowKit

theorem zero_int (W : World) : (zeroValue 3).run Tryz.prog W = .ok (.int .i64 0) W := by kernel_rfl

theorem look_in {W : World} {b n : Nat} {D : DataW Unit} {L : List TermD} {t : TermD} (h : W.ownsMap Tryz.prog 95 (plainElem Tryz.prog 3) b n D) (hT : TabOf D L) (ht : t.ok) :
    (Instr.lookup 102 (.map (some b)) (.agg #[.int .u8 t.kind, .int .i64 t.n, .int .i64 t.a, .int .i64 t.b]) true).run Tryz.prog W = .ok (.tuple #[.int .i64 (if t ∈ L then (L.idxOf t : Int) + 1 else 0), .bool (decide (t ∈ L))]) W := by
  obtain ⟨k, hk⟩ : ∃ k, keyT t = k := ⟨_, rfl⟩
  have hkey : keyOf Tryz.prog 95 (.agg t.arr) = some k := (keyT_some ht).trans (congrArg some hk)
  obtain ⟨v, ps, hrun, hv⟩ := World.ownsMap.look_ok h keyedT Tryz.underlying102 (zero_int W) (plainElem_int (H := Unit) Tryz.underlying3 (q := .i64) (a := 0) (by decide)) hkey
  obtain ⟨c, rfl, hc, _⟩ := plainElem_int_inv Tryz.underlying3 hv
  have hhas : Maps.has D k = decide (t ∈ L) := by rw [← hk]; exact hT.has t ht
  have hc1 : D.atKey k (.lit (.int .i64 0)) = .lit (.int .i64 c) := congrArg Prod.fst hc
  have hce : c = if t ∈ L then (L.idxOf t : Int) + 1 else 0 := by
    by_cases hm : t ∈ L
    · have h2 := hT.num t hm
      rw [hk, hc1] at h2
      rw [if_pos hm]
      simpa using h2
    · have h2 : D.atKey k (.lit (.int .i64 0)) = .lit (.int .i64 0) := Maps.atKey_of_not_has (by rw [hhas]; simp [hm]) _
      rw [hc1] at h2
      rw [if_neg hm]
      simpa using h2
  rw [← hce, ← hhas]
  exact hrun

def SMakePost (s : Nat) (F : Nat → Prop) (L : List TermD) (t : TermD) (w : World) (e : Ending) (w' : World) : Prop :=
  e = .returned (.tuple #[.int .i64 (makeN L t), .int .i64 (makeE L t)]) ∧ ∃ F', Ext F F' w w' ∧ ProgStore w' s F' (makeL L t) ∧ Turned F w w'

set_option maxRecDepth 100000 in
set_option maxHeartbeats 1600000 in
theorem smake_any (s : Nat) (F : Nat → Prop) (L : List TermD) (t : TermD) (ht : t.ok) (hG : Good L) (hl : L.length < 1048576) (w : World) (h : ProgStore w s F L) :
    Calls Tryz.prog 26 #[.pointer (some ⟨s, 0, none⟩), .agg #[.int .u8 t.kind, .int .i64 t.n, .int .i64 t.a, .int .i64 t.b]] w (SMakePost s F L t w) := by
  obtain ⟨i0, hi0, hz0, hz1, hz2⟩ := info_parts infoT
  have hb1 := (Below.refl w.heap.size w).alloc (Nat.le_refl _) (.cells #[.int .u8 t.kind, .int .i64 t.n, .int .i64 t.a, .int .i64 t.b] 95)
  have hmade := smade_any s F L _ (h.kept (Turned.new (fun _ => False) hb1) (fun _ _ h => h))
  have hmay := smay_any s F L t ht _ (h.kept (Turned.new (fun _ => False) hb1) (fun _ _ h => h)) (by omega)
  have hbox := row_alloc (w := w) #[.int .u8 t.kind, .int .i64 t.n, .int .i64 t.a, .int .i64 t.b] 95 (0, 0)
  have Hb1 := Lib.hid hb1; clear hb1
  have Hmade := Lib.hid hmade; clear hmade
  have Hmay := Lib.hid hmay; clear hmay
  have Hbox := Lib.hid hbox; clear hbox
  have H := Lib.hid h; clear h
  have Hl := Lib.hid hl; clear hl
  have HG := Lib.hid hG; clear hG
  have Ht := Lib.hid ht; clear ht
  have hws : w.heap.size < (w.alloc (.cells #[.int .u8 t.kind, .int .i64 t.n, .int .i64 t.a, .int .i64 t.b] 95)).heap.size := by simp
  have Hws := Lib.hid hws; clear hws
  obtain ⟨kd, n, a, b⟩ := t
  simp only at Hb1 Hmade Hmay Hbox Hws ⊢
  cases hm : mayD L.length ⟨kd, n, a, b⟩ with
  | false =>
    obtain ⟨m1, m2, m3⟩ := make_bad hm
    have Hm1 := Lib.hid m1; clear m1
    have Hm2 := Lib.hid m2; clear m2
    have Hm3 := Lib.hid m3; clear m3
    rw [hm] at Hmay
    clear hm
    go_enter Tryz.func26, Tryz.ntmps26
    go_wp2_with fail
    refine Hmade.out.mono ?_
    rintro e wm ⟨rfl, rfl⟩
    go_wp2_with fail
    refine Hmay.out.mono ?_
    rintro e w2 ⟨rfl, hb2⟩
    have Hb2 := Lib.hid (Hb1.out.trans (hb2.mono (Nat.le_of_lt Hws.out))); clear hb2
    go_wp2
    go_ret2
    refine ⟨ret2 Hm1.out.symm Hm2.out.symm, F, Ext.refl _ _ _, ?_, Turned.new F Hb2.out⟩
    rw [Hm3.out]
    exact H.out.kept (Turned.new (fun _ => False) Hb2.out) (fun _ _ h => h)
  | true =>
    rw [hm] at Hmay
    have Hm := Lib.hid hm; clear hm
    go_enter Tryz.func26, Tryz.ntmps26
    go_wp2_with fail
    refine Hmade.out.mono ?_
    rintro e wm ⟨rfl, rfl⟩
    go_wp2_with fail
    refine Hmay.out.mono ?_
    rintro e w2 ⟨rfl, hb2⟩
    have hbx := (hb2.block _ Hws.out).trans Hbox.out
    have x0 : w2.cell? ⟨w.heap.size, 0, none⟩ = some (.int .u8 kd) := by rw [cell_row hbx]; rfl
    have x1 : w2.cell? ⟨w.heap.size, 1, none⟩ = some (.int .i64 n) := by rw [cell_row hbx]; rfl
    have x2 : w2.cell? ⟨w.heap.size, 2, none⟩ = some (.int .i64 a) := by rw [cell_row hbx]; rfl
    have x3 : w2.cell? ⟨w.heap.size, 3, none⟩ = some (.int .i64 b) := by rw [cell_row hbx]; rfl
    have hw2 : w.heap.size < w2.heap.size := Nat.lt_of_lt_of_le Hws.out hb2.size
    have Hb2 := Lib.hid (Hb1.out.trans (hb2.mono (Nat.le_of_lt Hws.out))); clear hb2
    have hs2 := H.out.kept (Turned.new (fun _ => False) Hb2.out) (fun _ _ h => h)
    obtain ⟨v, mb, D, hrow, hown, hmap, hT, hF, hFl⟩ := hs2
    obtain ⟨va, vc, rfl, _⟩ := ownT_len hown
    have c0 : w2.cell? ⟨s, 0, none⟩ = some (.slice va L.length vc) := by rw [cell_row hrow]; rfl
    have c1 : w2.cell? ⟨s, 1, none⟩ = some (.map (some mb)) := by rw [cell_row hrow]; rfl
    have hlook := fun d => look_in (W := w2.drewN d) (b := mb) (n := L.length) (D := D) (L := L) (t := ⟨kd, n, a, b⟩) hmap hT Ht.out
    simp only at hlook
    have Hrow := Lib.hid hrow; clear hrow
    have Hown := Lib.hid hown; clear hown
    have Hmap := Lib.hid hmap; clear hmap
    have HT := Lib.hid hT; clear hT
    have HF := Lib.hid hF; clear hF
    have HFl := Lib.hid hFl; clear hFl
    clear Hmay Hmade Hb1 Hws hbx Hbox
    obtain ⟨q, hq⟩ : ∃ q, q = w.heap.size := ⟨_, rfl⟩
    rw [← hq] at x0 x1 x2 x3 hw2 ⊢
    have Hq := Lib.hid hq; clear hq
    by_cases hin : (⟨kd, n, a, b⟩ : TermD) ∈ L
    · simp only [if_pos hin, decide_eq_true hin] at hlook
      obtain ⟨i, hi, he⟩ := List.mem_iff_getElem.1 hin
      obtain ⟨m1, m2, m3⟩ := make_there HG.out (List.getElem?_eq_some_iff.2 ⟨hi, he⟩) Hm.out
      have hidx := idx_of HG.out (List.getElem?_eq_some_iff.2 ⟨hi, he⟩)
      rw [hidx] at hlook
      have Hm1 := Lib.hid m1; clear m1
      have Hm2 := Lib.hid m2; clear m2
      have Hm3 := Lib.hid m3; clear m3
      clear he hidx hin
      have hiB : (i : Int) ≤ 2000000 := by have := Hl.out; omega
      go_wp2_with fail
      go_quiet (fail)
      go_wp2
      go_ret2
      refine ⟨ret2 Hm1.out.symm Hm2.out.symm, F, Ext.refl _ _ _, ?_, (Turned.new F Hb2.out).drewN _⟩
      rw [Hm3.out]
      exact H.out.kept ((Turned.new (fun _ => False) Hb2.out).drewN _) (fun _ _ h => h)
    · simp only [if_neg hin, decide_eq_false hin] at hlook
      obtain ⟨m1, m2, m3⟩ := make_new Hm.out hin Hl.out
      have hTput := HT.out.put HG.out Ht.out hin
      have HTput := Lib.hid hTput; clear hTput
      have Hm1 := Lib.hid m1; clear m1
      have Hm2 := Lib.hid m2; clear m2
      have Hm3 := Lib.hid m3; clear m3 hin
      go_wp2_with fail
      go_quiet (fail)
      clear hlook
      have hLB : (L.length : Int) ≤ 2000000 := by have := Hl.out; omega
      go_wp2_with (refine wpList_geq_false rfl (.tmp 30) (.const (.int .i64 1048576)) L.length 1048576 rfl rfl rfl (by have := Hl.out; omega) ?_)
      have C0 : (w2.drewN nq).cell? ⟨s, 0, none⟩ = some (.slice va L.length vc) := c0
      have X0 : (w2.drewN nq).cell? ⟨q, 0, none⟩ = some (.int .u8 kd) := x0
      have X1 : (w2.drewN nq).cell? ⟨q, 1, none⟩ = some (.int .i64 n) := x1
      have X2 : (w2.drewN nq).cell? ⟨q, 2, none⟩ = some (.int .i64 a) := x2
      have X3 : (w2.drewN nq).cell? ⟨q, 3, none⟩ = some (.int .i64 b) := x3
      have HrowX : (w2.drewN nq).heap[s]? = some (.cells #[.slice va L.length vc, .map (some mb)] 104 (0, 0)) := Hrow.out
      have HownX : OwnT (.slice va L.length vc) L (w2.drewN nq) := Hown.out
      have HmapX : (w2.drewN nq).ownsMap Tryz.prog 95 (plainElem Tryz.prog 3) mb L.length D := Hmap.out
      have hTX : Turned F w (w2.drewN nq) := (Turned.new F Hb2.out).drewN nq
      have hFX : ∀ k, F k → k < (w2.drewN nq).heap.size := HFl.out
      have hqX : q < (w2.drewN nq).heap.size := hw2
      have HqX := Lib.hid (show w.heap.size = q from Hq.out.symm)
      clear c0 c1 x0 x1 x2 x3 Hrow Hown Hmap HFl hw2 Hb2
      generalize w2.drewN nq = wx at C0 X0 X1 X2 X3 HrowX HownX HmapX hTX hFX hqX ⊢
      have z0 := free_row HrowX 0
      have hrl : s < wx.heap.size := (Array.getElem?_eq_some_iff.1 HrowX).1
      have hml : mb < wx.heap.size := HmapX.lt
      have Hml := Lib.hid hml; clear hml
      have Hrow := Lib.hid HrowX; clear HrowX
      have Hown := Lib.hid HownX; clear HownX
      have Hmap := Lib.hid HmapX; clear HmapX
      have HTX := Lib.hid hTX; clear hTX
      have HFX := Lib.hid hFX; clear hFX
      have Hrne := Lib.hid (show some s ≠ (Value.slice va L.length vc).ownBlock from fun e => (HF.out.2.2.2 s e.symm).2.1 rfl)
      have Hqne := Lib.hid (show some q ≠ (Value.slice va L.length vc).ownBlock from fun e => by
        have h1 := H.out
        obtain ⟨_, _, _, _, _, _, _, _, h6⟩ := h1
        have := h6 q (HF.out.2.2.2 q e.symm).1
        have := HqX.out
        omega)
      have Hqr := Lib.hid (show q ≠ s from fun e => by
        obtain ⟨_, _, _, _, _, _, _, _, h6⟩ := H.out
        have := h6 s HF.out.1
        have := HqX.out
        omega)
      go_region_law (go_loud (refine step_append_lies _ rfl (.tmp 36) (.tmp 38) 22 rfl 0 95 i0 (.agg #[.int .u8 0, .int .i64 0, .int .i64 0, .int .i64 0]) 4 32 Tryz.underlying22 hi0 hz0 hz1 hz2 rfl (by decide) (.slice va L.length vc) L.length (L.flatMap TermD.vals) (by simp [Act.eval, Act.put]) (Hown.out.alloc _) ⟨wx.heap.size, 0, none⟩ 1 1 (TermD.vals ⟨kd, n, a, b⟩) (by simp [Act.eval, Act.put]) rfl (four_new _ _ _) (four_one _) (by omega) (by have := Hl.out; unfold maxLen; omega) (by have := Hl.out; omega) (by simp) (wx.heap.size + 1) (by simp) ?_); intro g cap w5 hown5 hgrow5 hat5 hlt5; have hr5 : w5.heap[s]? = some (.cells #[.slice va L.length vc, .map (some mb)] 104 (0, 0)) := (hgrow5.block s (Nat.lt_of_lt_of_le hrl (by simp)) Hrne.out).trans ((heap_alloc_old _ _ hrl).trans Hrow.out); have z5 := free_row hr5 0; have c5 : w5.cell? ⟨s, 0, none⟩ = some (.slice va L.length vc) := (cell_row hr5 _).trans rfl; have Hr5 := Lib.hid hr5; clear hr5; have Hown5 := Lib.hid hown5; clear hown5; have Hgrow5 := Lib.hid hgrow5; clear hgrow5; have Hat5 := Lib.hid hat5; clear hat5; have Hlt5 := Lib.hid hlt5; clear hlt5)
      all_goals
        clear z5 c5 z0
        have hgs : g ≠ s ∧ g ≠ mb := by
          rcases Hat5.out with e | e
          · exact (HF.out.2.2.2 g e).2
          · have := Hml.out
            omega
        have hr6 := row_setCell Hr5.out 0 (.slice (some ⟨g, 0, none⟩) (L.length + 1) cap)
        have hown6 := ownsRow_setCell_other (a := ⟨s, 0, none⟩) Hown5.out (by simp [Value.ownBlock, hgs.1]) (.slice (some ⟨g, 0, none⟩) (L.length + 1) cap)
        have hmap5 : w5.ownsMap Tryz.prog 95 (plainElem Tryz.prog 3) mb L.length D := (Hmap.out.alloc _).drew.kept Hgrow5.out (fun e => (HF.out.2.2.2 mb e.symm).2.2 rfl)
        have hmap6 := hmap5.setCell (a := ⟨s, 0, none⟩) HF.out.2.2.1 (.slice (some ⟨g, 0, none⟩) (L.length + 1) cap)
        clear hmap5
        have hFg : ∀ k, k = g → F k ∨ (w.heap.size ≤ k ∧ k < (w5.setCell ⟨s, 0, none⟩ (.slice (some ⟨g, 0, none⟩) (L.length + 1) cap)).heap.size) := fun k e => by
          subst e
          rcases Hat5.out with e | e
          · exact .inl (HF.out.2.2.2 _ e).1
          · refine .inr ⟨by have := HTX.out.size; omega, ?_⟩
            simpa [World.setCell] using Hlt5.out
        have hT6 : Turned F w (w5.setCell ⟨s, 0, none⟩ (.slice (some ⟨g, 0, none⟩) (L.length + 1) cap)) :=
          ((HTX.out.alloc (.cells (TermD.arr ⟨kd, n, a, b⟩) 95)).drew.grown Hgrow5.out (fun k _ e => (HF.out.2.2.2 k e).1)).setCell (fun _ => HF.out.1) _
        have hsz : ∀ k, F k ∨ k = g → k < (w5.setCell ⟨s, 0, none⟩ (.slice (some ⟨g, 0, none⟩) (L.length + 1) cap)).heap.size := fun k hk => by
          rcases hk with hk | rfl
          · have h1 := HFX.out k hk
            have h2 := Hgrow5.out.size
            simp at h2
            simp [World.setCell]
            omega
          · simpa [World.setCell] using Hlt5.out
        have hx6 : ∀ j, (w5.setCell ⟨s, 0, none⟩ (.slice (some ⟨g, 0, none⟩) (L.length + 1) cap)).cell? ⟨q, j, none⟩ = wx.cell? ⟨q, j, none⟩ := fun j => by
          have e1 : (w5.setCell ⟨s, 0, none⟩ (.slice (some ⟨g, 0, none⟩) (L.length + 1) cap)).heap[q]? = wx.heap[q]? :=
            (Below.heap_setCell _ _ _ _ (show q ≠ (⟨s, 0, none⟩ : Addr).block from Hqr.out)).trans ((Hgrow5.out.block q (Nat.lt_of_lt_of_le hqX (by simp)) Hqne.out).trans (heap_alloc_old _ _ hqX))
          exact World.cell?_of_block (w := wx) e1
        generalize w5.setCell ⟨s, 0, none⟩ (.slice (some ⟨g, 0, none⟩) (L.length + 1) cap) = w6 at hr6 hown6 hmap6 hFg hT6 hsz hx6 ⊢
        have c6 : w6.cell? ⟨s, 0, none⟩ = some (.slice (some ⟨g, 0, none⟩) (L.length + 1) cap) := (cell_row hr6 0).trans rfl
        have d6 : w6.cell? ⟨s, 1, none⟩ = some (.map (some mb)) := (cell_row hr6 1).trans rfl
        have y0 := (hx6 0).trans X0
        have y1 := (hx6 1).trans X1
        have y2 := (hx6 2).trans X2
        have y3 := (hx6 3).trans X3
        obtain ⟨kl, hkl⟩ : ∃ k, keyT ⟨kd, n, a, b⟩ = k := ⟨_, rfl⟩
        have hkey : keyOf Tryz.prog 95 (.agg (TermD.arr ⟨kd, n, a, b⟩)) = some kl := (keyT_some Ht.out).trans (congrArg some hkl)
        have hmap6d : w6.drew.ownsMap Tryz.prog 95 (plainElem Tryz.prog 3) mb L.length D := hmap6
        obtain ⟨w7, hrun7, hmap7, hgrow7⟩ := World.ownsMap.update hmap6d keyedT Tryz.underlying102 (by have := Hl.out; unfold maxLen; omega) hkey (plainElem_int (H := Unit) Tryz.underlying3 (q := .i64) (a := (L.length : Int) + 1) (WalkArith.wf_i64 (by have := Hl.out; omega)))
        have hrun8 : (Instr.mapUpdate 102 (.map (some mb)) (.agg #[.int .u8 kd, .int .i64 n, .int .i64 a, .int .i64 b]) (.int .i64 ((L.length : Int) + 1))).run Tryz.prog w6.drew = .ok () w7 := hrun7
        clear hrun7
        have Hr6 := Lib.hid hr6; clear hr6
        have Hown6 := Lib.hid hown6; clear hown6
        have HFg := Lib.hid hFg; clear hFg
        have HT6 := Lib.hid hT6; clear hT6
        have Hsz := Lib.hid hsz; clear hsz
        have Hgs := Lib.hid hgs; clear hgs
        have Hkl := Lib.hid hkl; clear hkl hkey
        have Hmap7 := Lib.hid hmap7; clear hmap7 hmap6 hmap6d
        have Hgrow7 := Lib.hid hgrow7; clear hgrow7
        clear Hown5 Hgrow5 Hat5 Hlt5 Hr5 hx6 C0 X0 X1 X2 X3 Hqne Hqr hqX
        go_wp2_with fail
        go_region
        all_goals
          clear hrun8 c6 d6 y0 y1 y2 y3
          have hr7 := (Hgrow7.out.block s (Array.getElem?_eq_some_iff.1 Hr6.out).1 (fun e => HF.out.2.2.1 (by injection e with e; exact e.symm))).trans Hr6.out
          have c7 : w7.cell? ⟨s, 0, none⟩ = some (.slice (some ⟨g, 0, none⟩) (L.length + 1) cap) := (cell_row hr7 0).trans rfl
          have hown7 := World.ownsRow.kept (w := w6.drew) Hown6.out Hgrow7.out (.inr (by simp [Value.ownBlock, Hgs.out.2]))
          have hT7 : Turned F w w7 := HT6.out.drew.grown Hgrow7.out (fun k _ e => by injection e with e; exact e ▸ HF.out.2.1)
          have hFg7 : ∀ k, k = g → F k ∨ (w.heap.size ≤ k ∧ k < w7.heap.size) := fun k e => (HFg.out k e).imp id fun h => ⟨h.1, Nat.lt_of_lt_of_le h.2 Hgrow7.out.size⟩
          have hsz7 : ∀ k, F k ∨ k = g → k < w7.heap.size := fun k hk => Nat.lt_of_lt_of_le (Hsz.out k hk) Hgrow7.out.size
          have Hr7 := Lib.hid hr7; clear hr7
          have Hown7 := Lib.hid hown7; clear hown7
          have HT7 := Lib.hid hT7; clear hT7
          have HFg7 := Lib.hid hFg7; clear hFg7
          have Hsz7 := Lib.hid hsz7; clear hsz7
          go_wp2
          go_ret2
          refine ⟨ret2 Hm1.out.symm Hm2.out.symm, fun k => F k ∨ k = g, fun k hk => hk.elim .inl (HFg7.out k), ?_, HT7.out⟩
          rw [Hm3.out]
          refine ⟨_, mb, _, Hr7.out, ?_, ?_, HTput.out kl Hkl.out, ⟨.inl HF.out.1, .inl HF.out.2.1, HF.out.2.2.1, fun g' hg' => ?_⟩, Hsz7.out⟩
          · unfold OwnT
            rw [List.length_append, List.flatMap_append]
            exact Hown7.out
          · rw [List.length_append]
            exact Hmap7.out
          · obtain rfl : g = g' := by simpa [Value.ownBlock] using hg'
            exact ⟨.inr rfl, Hgs.out⟩
end Go.Proofs.YtagccbpjpcnmeaaGreatDoor
