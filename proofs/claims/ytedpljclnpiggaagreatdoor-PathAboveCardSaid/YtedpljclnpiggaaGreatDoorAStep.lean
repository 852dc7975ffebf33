/-
  Make, derived and Node of the program's store: the cell of its map stays. (turned by bin/gen_amake.py)
-/
import Derived.Test.YtedpljclnpiggaaGreatDoorQKdf
import Derived.Test.YtedpljclnpiggaaGreatDoorATree
import Derived.Test.YtedpljclnpiggaaGreatDoorQStep
set_option linter.unusedVariables false
set_option linter.unusedSimpArgs false
namespace Go.Proofs.YtedpljclnpiggaaGreatDoor
open Go Go.RowKit

/-- The cell of the store's map stays. -/
def MapKept (s : Nat) (w w' : World) : Prop := w'.cell? ⟨s, 1, none⟩ = w.cell? ⟨s, 1, none⟩
theorem MapKept.trans {s : Nat} {a b c : World} (h : MapKept s a b) (k : MapKept s b c) : MapKept s a c := Eq.trans k h
theorem MapKept.new {s : Nat} {w w' : World} (hb : Below w.heap.size w w') (hs : s < w.heap.size) : MapKept s w w' := hb.cell (p := ⟨s, 1, none⟩) hs
theorem ProgStore.sl {w : World} {s : Nat} {F : Nat → Prop} {L : List TermD} (h : ProgStore w s F L) : s < w.heap.size := by
  obtain ⟨v, b, D, h1, _⟩ := h
  exact (Array.getElem?_eq_some_iff.1 h1).1

set_option maxRecDepth 100000 in
set_option maxHeartbeats 1600000 in
theorem smakeM_any (s : Nat) (F : Nat → Prop) (L : List TermD) (t : TermD) (ht : t.ok) (hG : Good L) (hl : L.length < 1048576) (w : World) (h : ProgStore w s F L) :
    Calls Tryz.prog 34 #[.pointer (some ⟨s, 0, none⟩), .agg #[.int .u8 t.kind, .int .i64 t.n, .int .i64 t.a, .int .i64 t.b]] w (fun e w' => SMakePost s F L t w e w' ∧ MapKept s w w') := by
  obtain ⟨i0, hi0, hz0, hz1, hz2⟩ := info_parts infoT
  have hb1 := (Below.refl w.heap.size w).alloc (Nat.le_refl _) (.cells #[.int .u8 t.kind, .int .i64 t.n, .int .i64 t.a, .int .i64 t.b] 107)
  have hmade := smade_any s F L _ (h.kept (Turned.new (fun _ => False) hb1) (fun _ _ h => h))
  have hmay := smay_any s F L t ht _ (h.kept (Turned.new (fun _ => False) hb1) (fun _ _ h => h)) (by omega)
  have hbox := row_alloc (w := w) #[.int .u8 t.kind, .int .i64 t.n, .int .i64 t.a, .int .i64 t.b] 107 (0, 0)
  have Hb1 := Lib.hid hb1; clear hb1
  have Hmade := Lib.hid hmade; clear hmade
  have Hmay := Lib.hid hmay; clear hmay
  have Hbox := Lib.hid hbox; clear hbox
  have H := Lib.hid h; clear h
  have Hl := Lib.hid hl; clear hl
  have HG := Lib.hid hG; clear hG
  have Ht := Lib.hid ht; clear ht
  have hws : w.heap.size < (w.alloc (.cells #[.int .u8 t.kind, .int .i64 t.n, .int .i64 t.a, .int .i64 t.b] 107)).heap.size := by simp
  have Hws := Lib.hid hws; clear hws
  obtain ⟨kd, n, a, b⟩ := t
  simp only at Hb1 Hmade Hmay Hbox Hws ⊢
  cases hm : mayD L.length ⟨kd, n, a, b⟩ with
  | false =>
    obtain ⟨m1, m2, m3⟩ := make_bad hm
    have Hm1 := Lib.hid m1; clear m1
    have Hm2 := Lib.hid m2; clear m2
    have Hm3 := Lib.hid m3; clear m3
    rw [hm] at Hmay
    clear hm
    go_enter Tryz.func34, Tryz.ntmps34
    go_wp2_with fail
    refine Hmade.out.mono ?_
    rintro e wm ⟨rfl, rfl⟩
    go_wp2_with fail
    refine Hmay.out.mono ?_
    rintro e w2 ⟨rfl, hb2⟩
    have Hb2 := Lib.hid (Hb1.out.trans (hb2.mono (Nat.le_of_lt Hws.out))); clear hb2
    go_wp2
    go_ret2
    refine ⟨⟨ret2 Hm1.out.symm Hm2.out.symm, F, Ext.refl _ _ _, ?_, Turned.new F Hb2.out⟩, MapKept.new Hb2.out H.out.sl⟩
    rw [Hm3.out]
    exact H.out.kept (Turned.new (fun _ => False) Hb2.out) (fun _ _ h => h)
  | true =>
    rw [hm] at Hmay
    have Hm := Lib.hid hm; clear hm
    go_enter Tryz.func34, Tryz.ntmps34
    go_wp2_with fail
    refine Hmade.out.mono ?_
    rintro e wm ⟨rfl, rfl⟩
    go_wp2_with fail
    refine Hmay.out.mono ?_
    rintro e w2 ⟨rfl, hb2⟩
    have hbx := (hb2.block _ Hws.out).trans Hbox.out
    have x0 : w2.cell? ⟨w.heap.size, 0, none⟩ = some (.int .u8 kd) := by rw [cell_row hbx]; rfl
    have x1 : w2.cell? ⟨w.heap.size, 1, none⟩ = some (.int .i64 n) := by rw [cell_row hbx]; rfl
    have x2 : w2.cell? ⟨w.heap.size, 2, none⟩ = some (.int .i64 a) := by rw [cell_row hbx]; rfl
    have x3 : w2.cell? ⟨w.heap.size, 3, none⟩ = some (.int .i64 b) := by rw [cell_row hbx]; rfl
    have hw2 : w.heap.size < w2.heap.size := Nat.lt_of_lt_of_le Hws.out hb2.size
    have Hb2 := Lib.hid (Hb1.out.trans (hb2.mono (Nat.le_of_lt Hws.out))); clear hb2
    have hs2 := H.out.kept (Turned.new (fun _ => False) Hb2.out) (fun _ _ h => h)
    obtain ⟨v, mb, D, hrow, hown, hmap, hT, hF, hFl⟩ := hs2
    obtain ⟨va, vc, rfl, _⟩ := ownT_len hown
    have c0 : w2.cell? ⟨s, 0, none⟩ = some (.slice va L.length vc) := by rw [cell_row hrow]; rfl
    have c1 : w2.cell? ⟨s, 1, none⟩ = some (.map (some mb)) := by rw [cell_row hrow]; rfl
    have hcw : w.cell? ⟨s, 1, none⟩ = some (.map (some mb)) := (Hb2.out.cell (p := ⟨s, 1, none⟩) H.out.sl).symm.trans c1
    have Hcw := Lib.hid hcw; clear hcw
    have hlook := fun d => look_in (W := w2.drewN d) (b := mb) (n := L.length) (D := D) (L := L) (t := ⟨kd, n, a, b⟩) hmap hT Ht.out
    simp only at hlook
    have Hrow := Lib.hid hrow; clear hrow
    have Hown := Lib.hid hown; clear hown
    have Hmap := Lib.hid hmap; clear hmap
    have HT := Lib.hid hT; clear hT
    have HF := Lib.hid hF; clear hF
    have HFl := Lib.hid hFl; clear hFl
    clear Hmay Hmade Hb1 Hws hbx Hbox
    obtain ⟨q, hq⟩ : ∃ q, q = w.heap.size := ⟨_, rfl⟩
    rw [← hq] at x0 x1 x2 x3 hw2 ⊢
    have Hq := Lib.hid hq; clear hq
    by_cases hin : (⟨kd, n, a, b⟩ : TermD) ∈ L
    · simp only [if_pos hin, decide_eq_true hin] at hlook
      obtain ⟨i, hi, he⟩ := List.mem_iff_getElem.1 hin
      obtain ⟨m1, m2, m3⟩ := make_there HG.out (List.getElem?_eq_some_iff.2 ⟨hi, he⟩) Hm.out
      have hidx := idx_of HG.out (List.getElem?_eq_some_iff.2 ⟨hi, he⟩)
      rw [hidx] at hlook
      have Hm1 := Lib.hid m1; clear m1
      have Hm2 := Lib.hid m2; clear m2
      have Hm3 := Lib.hid m3; clear m3
      clear he hidx hin
      have hiB : (i : Int) ≤ 2000000 := by have := Hl.out; omega
      go_wp2_with fail
      go_quiet (fail)
      go_wp2
      go_ret2
      refine ⟨⟨ret2 Hm1.out.symm Hm2.out.symm, F, Ext.refl _ _ _, ?_, (Turned.new F Hb2.out).drewN _⟩, MapKept.new (below_drewN Hb2.out _) H.out.sl⟩
      rw [Hm3.out]
      exact H.out.kept ((Turned.new (fun _ => False) Hb2.out).drewN _) (fun _ _ h => h)
    · simp only [if_neg hin, decide_eq_false hin] at hlook
      obtain ⟨m1, m2, m3⟩ := make_new Hm.out hin Hl.out
      have hTput := HT.out.put HG.out Ht.out hin
      have HTput := Lib.hid hTput; clear hTput
      have Hm1 := Lib.hid m1; clear m1
      have Hm2 := Lib.hid m2; clear m2
      have Hm3 := Lib.hid m3; clear m3 hin
      go_wp2_with fail
      go_quiet (fail)
      clear hlook
      have hLB : (L.length : Int) ≤ 2000000 := by have := Hl.out; omega
      go_wp2_with (refine wpList_geq_false rfl (.tmp 30) (.const (.int .i64 1048576)) L.length 1048576 rfl rfl rfl (by have := Hl.out; omega) ?_)
      have C0 : (w2.drewN nq).cell? ⟨s, 0, none⟩ = some (.slice va L.length vc) := c0
      have X0 : (w2.drewN nq).cell? ⟨q, 0, none⟩ = some (.int .u8 kd) := x0
      have X1 : (w2.drewN nq).cell? ⟨q, 1, none⟩ = some (.int .i64 n) := x1
      have X2 : (w2.drewN nq).cell? ⟨q, 2, none⟩ = some (.int .i64 a) := x2
      have X3 : (w2.drewN nq).cell? ⟨q, 3, none⟩ = some (.int .i64 b) := x3
      have HrowX : (w2.drewN nq).heap[s]? = some (.cells #[.slice va L.length vc, .map (some mb)] 154 (0, 0)) := Hrow.out
      have HownX : OwnT (.slice va L.length vc) L (w2.drewN nq) := Hown.out
      have HmapX : (w2.drewN nq).ownsMap Tryz.prog 107 (plainElem Tryz.prog 3) mb L.length D := Hmap.out
      have hTX : Turned F w (w2.drewN nq) := (Turned.new F Hb2.out).drewN nq
      have hFX : ∀ k, F k → k < (w2.drewN nq).heap.size := HFl.out
      have hqX : q < (w2.drewN nq).heap.size := hw2
      have HqX := Lib.hid (show w.heap.size = q from Hq.out.symm)
      clear c0 c1 x0 x1 x2 x3 Hrow Hown Hmap HFl hw2 Hb2
      generalize w2.drewN nq = wx at C0 X0 X1 X2 X3 HrowX HownX HmapX hTX hFX hqX ⊢
      have z0 := free_row HrowX 0
      have hrl : s < wx.heap.size := (Array.getElem?_eq_some_iff.1 HrowX).1
      have hml : mb < wx.heap.size := HmapX.lt
      have Hml := Lib.hid hml; clear hml
      have Hrow := Lib.hid HrowX; clear HrowX
      have Hown := Lib.hid HownX; clear HownX
      have Hmap := Lib.hid HmapX; clear HmapX
      have HTX := Lib.hid hTX; clear hTX
      have HFX := Lib.hid hFX; clear hFX
      have Hrne := Lib.hid (show some s ≠ (Value.slice va L.length vc).ownBlock from fun e => (HF.out.2.2.2 s e.symm).2.1 rfl)
      have Hqne := Lib.hid (show some q ≠ (Value.slice va L.length vc).ownBlock from fun e => by
        have h1 := H.out
        obtain ⟨_, _, _, _, _, _, _, _, h6⟩ := h1
        have := h6 q (HF.out.2.2.2 q e.symm).1
        have := HqX.out
        omega)
      have Hqr := Lib.hid (show q ≠ s from fun e => by
        obtain ⟨_, _, _, _, _, _, _, _, h6⟩ := H.out
        have := h6 s HF.out.1
        have := HqX.out
        omega)
      go_region_law (go_loud (refine step_append_lies _ rfl (.tmp 36) (.tmp 38) 22 rfl 0 107 i0 (.agg #[.int .u8 0, .int .i64 0, .int .i64 0, .int .i64 0]) 4 32 Tryz.underlying22 hi0 hz0 hz1 hz2 rfl (by decide) (.slice va L.length vc) L.length (L.flatMap TermD.vals) (by simp [Act.eval, Act.put]) (Hown.out.alloc _) ⟨wx.heap.size, 0, none⟩ 1 1 (TermD.vals ⟨kd, n, a, b⟩) (by simp [Act.eval, Act.put]) rfl (four_new _ _ _) (four_one _) (by omega) (by have := Hl.out; unfold maxLen; omega) (by have := Hl.out; omega) (by simp) (wx.heap.size + 1) (by simp) ?_); intro g cap w5 hown5 hgrow5 hat5 hlt5; have hr5 : w5.heap[s]? = some (.cells #[.slice va L.length vc, .map (some mb)] 154 (0, 0)) := (hgrow5.block s (Nat.lt_of_lt_of_le hrl (by simp)) Hrne.out).trans ((heap_alloc_old _ _ hrl).trans Hrow.out); have z5 := free_row hr5 0; have c5 : w5.cell? ⟨s, 0, none⟩ = some (.slice va L.length vc) := (cell_row hr5 _).trans rfl; have Hr5 := Lib.hid hr5; clear hr5; have Hown5 := Lib.hid hown5; clear hown5; have Hgrow5 := Lib.hid hgrow5; clear hgrow5; have Hat5 := Lib.hid hat5; clear hat5; have Hlt5 := Lib.hid hlt5; clear hlt5)
      all_goals
        clear z5 c5 z0
        have hgs : g ≠ s ∧ g ≠ mb := by
          rcases Hat5.out with e | e
          · exact (HF.out.2.2.2 g e).2
          · have := Hml.out
            omega
        have hr6 := row_setCell Hr5.out 0 (.slice (some ⟨g, 0, none⟩) (L.length + 1) cap)
        have hown6 := ownsRow_setCell_other (a := ⟨s, 0, none⟩) Hown5.out (by simp [Value.ownBlock, hgs.1]) (.slice (some ⟨g, 0, none⟩) (L.length + 1) cap)
        have hmap5 : w5.ownsMap Tryz.prog 107 (plainElem Tryz.prog 3) mb L.length D := (Hmap.out.alloc _).drew.kept Hgrow5.out (fun e => (HF.out.2.2.2 mb e.symm).2.2 rfl)
        have hmap6 := hmap5.setCell (a := ⟨s, 0, none⟩) HF.out.2.2.1 (.slice (some ⟨g, 0, none⟩) (L.length + 1) cap)
        clear hmap5
        have hFg : ∀ k, k = g → F k ∨ (w.heap.size ≤ k ∧ k < (w5.setCell ⟨s, 0, none⟩ (.slice (some ⟨g, 0, none⟩) (L.length + 1) cap)).heap.size) := fun k e => by
          subst e
          rcases Hat5.out with e | e
          · exact .inl (HF.out.2.2.2 _ e).1
          · refine .inr ⟨by have := HTX.out.size; omega, ?_⟩
            simpa [World.setCell] using Hlt5.out
        have hT6 : Turned F w (w5.setCell ⟨s, 0, none⟩ (.slice (some ⟨g, 0, none⟩) (L.length + 1) cap)) :=
          ((HTX.out.alloc (.cells (TermD.arr ⟨kd, n, a, b⟩) 107)).drew.grown Hgrow5.out (fun k _ e => (HF.out.2.2.2 k e).1)).setCell (fun _ => HF.out.1) _
        have hsz : ∀ k, F k ∨ k = g → k < (w5.setCell ⟨s, 0, none⟩ (.slice (some ⟨g, 0, none⟩) (L.length + 1) cap)).heap.size := fun k hk => by
          rcases hk with hk | rfl
          · have h1 := HFX.out k hk
            have h2 := Hgrow5.out.size
            simp at h2
            simp [World.setCell]
            omega
          · simpa [World.setCell] using Hlt5.out
        have hx6 : ∀ j, (w5.setCell ⟨s, 0, none⟩ (.slice (some ⟨g, 0, none⟩) (L.length + 1) cap)).cell? ⟨q, j, none⟩ = wx.cell? ⟨q, j, none⟩ := fun j => by
          have e1 : (w5.setCell ⟨s, 0, none⟩ (.slice (some ⟨g, 0, none⟩) (L.length + 1) cap)).heap[q]? = wx.heap[q]? :=
            (Below.heap_setCell _ _ _ _ (show q ≠ (⟨s, 0, none⟩ : Addr).block from Hqr.out)).trans ((Hgrow5.out.block q (Nat.lt_of_lt_of_le hqX (by simp)) Hqne.out).trans (heap_alloc_old _ _ hqX))
          exact World.cell?_of_block (w := wx) e1
        generalize w5.setCell ⟨s, 0, none⟩ (.slice (some ⟨g, 0, none⟩) (L.length + 1) cap) = w6 at hr6 hown6 hmap6 hFg hT6 hsz hx6 ⊢
        have c6 : w6.cell? ⟨s, 0, none⟩ = some (.slice (some ⟨g, 0, none⟩) (L.length + 1) cap) := (cell_row hr6 0).trans rfl
        have d6 : w6.cell? ⟨s, 1, none⟩ = some (.map (some mb)) := (cell_row hr6 1).trans rfl
        have y0 := (hx6 0).trans X0
        have y1 := (hx6 1).trans X1
        have y2 := (hx6 2).trans X2
        have y3 := (hx6 3).trans X3
        obtain ⟨kl, hkl⟩ : ∃ k, keyT ⟨kd, n, a, b⟩ = k := ⟨_, rfl⟩
        have hkey : keyOf Tryz.prog 107 (.agg (TermD.arr ⟨kd, n, a, b⟩)) = some kl := (keyT_some Ht.out).trans (congrArg some hkl)
        have hmap6d : w6.drew.ownsMap Tryz.prog 107 (plainElem Tryz.prog 3) mb L.length D := hmap6
        obtain ⟨w7, hrun7, hmap7, hgrow7⟩ := World.ownsMap.update hmap6d keyedT Tryz.underlying152 (by have := Hl.out; unfold maxLen; omega) hkey (plainElem_int (H := Unit) Tryz.underlying3 (q := .i64) (a := (L.length : Int) + 1) (WalkArith.wf_i64 (by have := Hl.out; omega)))
        have hrun8 : (Instr.mapUpdate 152 (.map (some mb)) (.agg #[.int .u8 kd, .int .i64 n, .int .i64 a, .int .i64 b]) (.int .i64 ((L.length : Int) + 1))).run Tryz.prog w6.drew = .ok () w7 := hrun7
        clear hrun7
        have Hr6 := Lib.hid hr6; clear hr6
        have Hown6 := Lib.hid hown6; clear hown6
        have HFg := Lib.hid hFg; clear hFg
        have HT6 := Lib.hid hT6; clear hT6
        have Hsz := Lib.hid hsz; clear hsz
        have Hgs := Lib.hid hgs; clear hgs
        have Hkl := Lib.hid hkl; clear hkl hkey
        have Hmap7 := Lib.hid hmap7; clear hmap7 hmap6 hmap6d
        have Hgrow7 := Lib.hid hgrow7; clear hgrow7
        clear Hown5 Hgrow5 Hat5 Hlt5 Hr5 hx6 C0 X0 X1 X2 X3 Hqne Hqr hqX
        go_wp2_with fail
        go_region
        all_goals
          clear hrun8 c6 d6 y0 y1 y2 y3
          have hr7 := (Hgrow7.out.block s (Array.getElem?_eq_some_iff.1 Hr6.out).1 (fun e => HF.out.2.2.1 (by injection e with e; exact e.symm))).trans Hr6.out
          have c7 : w7.cell? ⟨s, 0, none⟩ = some (.slice (some ⟨g, 0, none⟩) (L.length + 1) cap) := (cell_row hr7 0).trans rfl
          have hown7 := World.ownsRow.kept (w := w6.drew) Hown6.out Hgrow7.out (.inr (by simp [Value.ownBlock, Hgs.out.2]))
          have hT7 : Turned F w w7 := HT6.out.drew.grown Hgrow7.out (fun k _ e => by injection e with e; exact e ▸ HF.out.2.1)
          have hFg7 : ∀ k, k = g → F k ∨ (w.heap.size ≤ k ∧ k < w7.heap.size) := fun k e => (HFg.out k e).imp id fun h => ⟨h.1, Nat.lt_of_lt_of_le h.2 Hgrow7.out.size⟩
          have hsz7 : ∀ k, F k ∨ k = g → k < w7.heap.size := fun k hk => Nat.lt_of_lt_of_le (Hsz.out k hk) Hgrow7.out.size
          have Hr7 := Lib.hid hr7; clear hr7
          have Hown7 := Lib.hid hown7; clear hown7
          have HT7 := Lib.hid hT7; clear hT7
          have HFg7 := Lib.hid hFg7; clear hFg7
          have Hsz7 := Lib.hid hsz7; clear hsz7
          go_wp2
          go_ret2
          refine ⟨⟨ret2 Hm1.out.symm Hm2.out.symm, fun k => F k ∨ k = g, fun k hk => hk.elim .inl (HFg7.out k), ?_, HT7.out⟩, ((cell_row Hr7.out 1).trans rfl).trans Hcw.out.symm⟩
          rw [Hm3.out]
          refine ⟨_, mb, _, Hr7.out, ?_, ?_, HTput.out kl Hkl.out, ⟨.inl HF.out.1, .inl HF.out.2.1, HF.out.2.2.1, fun g' hg' => ?_⟩, Hsz7.out⟩
          · unfold OwnT
            rw [List.length_append, List.flatMap_append]
            exact Hown7.out
          · rw [List.length_append]
            exact Hmap7.out
          · obtain rfl : g = g' := by simpa [Value.ownBlock] using hg'
            exact ⟨.inr rfl, Hgs.out⟩

set_option maxRecDepth 100000 in
theorem derivedM_any (s : Nat) (F : Nat → Prop) (L : List TermD) (label x : Int) (ht : (⟨4, label, x, 0⟩ : TermD).ok) (hG : Good L) (hl : L.length < 1048576) (w : World) (h : ProgStore w s F L) :
    Calls Tryz.prog 38 #[.pointer (some ⟨s, 0, none⟩), .int .i64 label, .int .i64 x] w (fun e w' => (SPost s F (makeL L ⟨4, label, x, 0⟩) (.tuple #[.int .i64 (makeN L ⟨4, label, x, 0⟩), .int .i64 (makeE L ⟨4, label, x, 0⟩)]) w) e w' ∧ MapKept s w w') := by
  have hmake := fun W hW => smakeM_any s F L ⟨4, label, x, 0⟩ ht hG hl W hW
  have Hmake := Lib.hid hmake; clear hmake
  have H := Lib.hid h; clear h
  have Hl := Lib.hid hl; clear hl
  clear hG ht
  go_enter Tryz.func38, Tryz.ntmps38
  go_wp2_with fail
  refine (Hmake.out _ H.out).mono ?_
  rintro e w1 ⟨⟨rfl, F', hx, hs, hT⟩, hmk⟩
  have Hmk := Lib.hid hmk; clear hmk
  have Hx := Lib.hid hx; clear hx
  have Hs := Lib.hid hs; clear hs
  have HT := Lib.hid hT; clear hT
  go_wp2
  go_ret2
  exact ⟨⟨rfl, F', Hx.out, Hs.out, HT.out⟩, Hmk.out⟩

set_option maxRecDepth 100000 in
set_option maxHeartbeats 800000 in
theorem snodeM_any (s : Nat) (F : Nat → Prop) (L : List TermD) (x : Int) (hG : Good L) (hl : L.length ≤ 5000) (w : World) (h : ProgStore w s F L) :
    Calls Tryz.prog 9 #[.pointer (some ⟨s, 0, none⟩), .int .i64 x] w (fun e w' => (SPost s F (nodeT L x) (.tuple #[.int .i64 (nodeK L x), .int .i64 (nodeP L x), .int .i64 (nodeE L x)]) w) e w' ∧ MapKept s w w') := by
  have hal := palive_any s F L w h
  have Hal := Lib.hid hal; clear hal
  have his := sis_any s F L x w h (by omega)
  cases hx : thereD L.length x with
  | false =>
    rw [hx] at his
    have His := Lib.hid his; clear his
    have hk : nodeK L x = 0 ∧ nodeP L x = 0 ∧ nodeE L x = 1 ∧ nodeT L x = L := by unfold nodeK nodeP nodeE nodeT; rw [hx]; simp
    have Hk := Lib.hid hk; clear hk hx
    have H := Lib.hid h; clear h
    go_enter Tryz.func9, Tryz.ntmps9
    go_wp2_with fail
    refine Hal.out.mono ?_
    rintro e wx ⟨rfl, hwx⟩; subst wx
    go_wp2_with fail
    refine His.out.mono ?_
    rintro e w1 ⟨rfl, hb1⟩
    have Hb1 := Lib.hid hb1; clear hb1
    go_wp2
    go_ret3
    exact ⟨⟨ret3 Hk.out.1.symm Hk.out.2.1.symm Hk.out.2.2.1.symm, F, Ext.refl _ _ _, by rw [Hk.out.2.2.2]; exact H.out.new Hb1.out, Turned.new F Hb1.out⟩, MapKept.new Hb1.out H.out.sl⟩
  | true =>
    rw [hx] at his
    have His := Lib.hid his; clear his
    have hk : nodeK L x = makeN L (kdfT 2 x) ∧ nodeP L x = makeN (makeL L (kdfT 2 x)) (pubT (makeN L (kdfT 2 x))) ∧ nodeE L x = 0 ∧ nodeT L x = makeL (makeL L (kdfT 2 x)) (pubT (makeN L (kdfT 2 x))) := by unfold nodeK nodeP nodeE nodeT; rw [hx]; simp
    have hm := make_ok (may_kdf (label := 2) (by omega) hx) (by omega : L.length < 1048576)
    have h1 := makeL_len L (kdfT 2 x)
    have hk1 : (kdfT 2 x).ok := kdf_ok (by simp [i64ok]) (there_i64 hx (by omega))
    have hk2 : (pubT (makeN L (kdfT 2 x))).ok := pub_ok (there_i64 hm.2 (by omega))
    have hm2 := make_ok (may_pub hm.2) (by omega : (makeL L (kdfT 2 x)).length < 1048576)
    have hkdf := fun W hW => derivedM_any s F L 2 x hk1 hG (by omega) W hW
    have hpub := fun F' W hW => smakeM_any s F' (makeL L (kdfT 2 x)) (pubT (makeN L (kdfT 2 x))) hk2 (hG.make hk1) (by omega) W hW
    have Hk := Lib.hid hk; clear hk h1 hk1 hk2
    change ∀ W, ProgStore W s F L → Calls _ _ _ _ (fun e w' => SPost s F (makeL L (kdfT 2 x)) (.tuple #[.int .i64 (makeN L (kdfT 2 x)), .int .i64 (makeE L (kdfT 2 x))]) W e w' ∧ MapKept s W w') at hkdf
    unfold SMakePost at hpub
    rw [hm.1] at hkdf
    rw [hm2.1] at hpub
    generalize makeN (makeL L (kdfT 2 x)) (pubT (makeN L (kdfT 2 x))) = pv at Hk hpub
    unfold pubT at hpub
    dsimp only at hpub
    have hkeep : nodeT L x = makeL (makeL L (kdfT 2 x)) ⟨5, 0, makeN L (kdfT 2 x), 0⟩ := Hk.out.2.2.2
    have Hkeep := Lib.hid hkeep; clear hkeep
    have Hk1 := Lib.hid Hk.out.1
    have Hk2 := Lib.hid Hk.out.2.1
    have Hk3 := Lib.hid Hk.out.2.2.1
    clear Hk hm hm2
    generalize makeN L (kdfT 2 x) = kv at Hk1 hkdf hpub Hkeep
    have Hkdf := Lib.hid hkdf; clear hkdf
    have Hpub := Lib.hid hpub; clear hpub hx
    have H := Lib.hid h; clear h
    go_enter Tryz.func9, Tryz.ntmps9
    go_wp2_with fail
    refine Hal.out.mono ?_
    rintro e wx ⟨rfl, hwx⟩; subst wx
    go_wp2_with fail
    refine His.out.mono ?_
    rintro e w1 ⟨rfl, hb1⟩
    have Hb1 := Lib.hid hb1; clear hb1
    go_wp2_with fail
    refine (Hkdf.out _ (H.out.new Hb1.out)).mono ?_
    rintro e w2 ⟨⟨rfl, F1, hx1, hs1, hT1⟩, hk1⟩
    have HK1 := Lib.hid hk1; clear hk1
    have Hx1 := Lib.hid hx1; clear hx1
    have Hs1 := Lib.hid hs1; clear hs1
    have HT1 := Lib.hid hT1; clear hT1
    go_wp2_with fail
    refine (Hpub.out F1 _ Hs1.out).mono ?_
    rintro e w3 ⟨⟨rfl, F2, hx2, hs2, hT2⟩, hk2⟩
    have HK2 := Lib.hid hk2; clear hk2
    have Hx2 := Lib.hid hx2; clear hx2
    have Hs2 := Lib.hid hs2; clear hs2
    have HT2 := Lib.hid hT2; clear hT2
    go_wp2
    go_ret3
    obtain ⟨a1, a2⟩ := foot_trans (Ext.refl F w w1) (Turned.new F Hb1.out) Hx1.out HT1.out
    obtain ⟨a3, a4⟩ := foot_trans a1 a2 Hx2.out HT2.out
    exact ⟨⟨ret3 Hk1.out.symm Hk2.out.symm Hk3.out.symm, F2, a3, by rw [Hkeep.out]; exact Hs2.out, a4⟩, ((MapKept.new Hb1.out H.out.sl).trans HK1.out).trans HK2.out⟩
end Go.Proofs.YtedpljclnpiggaaGreatDoor

/-
  What a world must bear on the way through path.Above.
-/
namespace Go.Proofs.YtedpljclnpiggaaGreatDoor
open Go Go.RowKit

/-- The store s, its map m, all its blocks from B on. -/
structure Lw (B s m : Nat) (F : Nat → Prop) (L : List TermD) (w : World) : Prop where
  tz : TzF w
  ps : ProgStore w s F L
  mb : w.cell? ⟨s, 1, none⟩ = some (.map (some m))
  far : ∀ k, F k → B ≤ k
  three : 3 ≤ B
  size : B ≤ w.heap.size

theorem Lw.new {B s m : Nat} {F : Nat → Prop} {L : List TermD} {w w' : World} (h : Lw B s m F L w) (hb : Below w.heap.size w w') : Lw B s m F L w' :=
  ⟨h.tz.below hb (Nat.le_trans h.three h.size), h.ps.new hb, Eq.trans (MapKept.new hb h.ps.sl) h.mb, h.far, h.three, Nat.le_trans h.size hb.size⟩
theorem Lw.step {B s m : Nat} {F F' : Nat → Prop} {L L' : List TermD} {w w' : World} (h : Lw B s m F L w) (hx : Ext F F' w w') (hs : ProgStore w' s F' L') (hT : Turned F w w') (hk : MapKept s w w') : Lw B s m F' L' w' :=
  ⟨h.tz.below (hT.below h.size h.far) h.three, hs, Eq.trans hk h.mb, fun k hk => (hx k hk).elim (h.far k) (fun h2 => Nat.le_trans h.size h2.1), h.three, Nat.le_trans h.size hT.size⟩
theorem Lw.sF {B s m : Nat} {F : Nat → Prop} {L : List TermD} {w : World} (h : Lw B s m F L w) : F s := by
  obtain ⟨v, b, D, _, _, _, _, h5, _⟩ := h.ps
  exact h5.1
theorem Lw.turn {B s m : Nat} {F G : Nat → Prop} {L : List TermD} {w w' : World} (h : Lw B s m F L w) (hT : Turned G w w') (hd : ∀ k, F k → ¬ G k) (hG : ∀ k, G k → B ≤ k) : Lw B s m F L w' :=
  ⟨h.tz.below (hT.below h.size hG) h.three, h.ps.kept hT hd, (hT.cell (p := ⟨s, 1, none⟩) h.ps.sl (hd s h.sF)).trans h.mb, h.far, h.three, Nat.le_trans h.size hT.size⟩

/-- A footprint of the store alone. -/
def Tight (F : Nat → Prop) (m : Nat) (w : World) : Prop := ∀ k, F k → k = m ∨ ∃ cs t, w.heap[k]? = some (.cells cs t (0, 0)) ∧ t ≠ 3

theorem Lw.tight {B s m : Nat} {F : Nat → Prop} {L : List TermD} {w : World} (h : Lw B s m F L w) :
    ∃ F0, (∀ k, F0 k → F k) ∧ Lw B s m F0 L w ∧ Tight F0 m w ∧ F0 m ∧ ∃ es c, w.heap[m]? = some (.map es c) := by
  obtain ⟨v, b, D, h1, h2, h3, h4, h5, h6⟩ := h.ps
  have hbm : b = m := by
    have e := h.mb
    rw [cell_row h1] at e
    simpa using e
  subst hbm
  refine ⟨fun k => k = s ∨ k = b ∨ v.ownBlock = some k, fun k hk => ?_, ⟨h.tz, ⟨v, b, D, h1, h2, h3, h4, ⟨.inl rfl, .inr (.inl rfl), h5.2.2.1, fun g hg => ⟨.inr (.inr hg), (h5.2.2.2 g hg).2⟩⟩, fun k hk => ?_⟩, h.mb, fun k hk => ?_, h.three, h.size⟩, fun k hk => ?_, .inr (.inl rfl), ?_⟩
  · rcases hk with rfl | rfl | hk
    · exact h5.1
    · exact h5.2.1
    · exact (h5.2.2.2 k hk).1
  · rcases hk with rfl | rfl | hk
    · exact h6 _ h5.1
    · exact h6 _ h5.2.1
    · exact h6 k (h5.2.2.2 k hk).1
  · rcases hk with rfl | rfl | hk
    · exact h.far _ h5.1
    · exact h.far _ h5.2.1
    · exact h.far k (h5.2.2.2 k hk).1
  · rcases hk with rfl | rfl | hk
    · exact .inr ⟨_, _, h1, by decide⟩
    · exact .inl rfl
    · rcases h2.2 with ⟨e, _⟩ | ⟨g, cap, cur, e, _, hg, _⟩
      · rw [e] at hk; simp [Value.ownBlock] at hk
      · rw [e] at hk
        obtain rfl : g = k := by simpa [Value.ownBlock] using hk
        exact .inr ⟨_, _, hg, by decide⟩
  · obtain ⟨es, clock, hb, _⟩ := h3
    exact ⟨es, clock, hb⟩

/-- What the step of Above finds. -/
structure StepA (B s m : Nat) (F : Nat → Prop) (L : List TermD) (a : Option Addr) (c : Nat) (T : List NodeD) (bs bx bt bl : Nat) (v : Value) (x : Int) (w : World) : Prop where
  lw : Lw B s m F L w
  tr : TreeAt B w a T
  cs : Stays F w bs (boxP s)
  cx : Stays F w bx (boxI x)
  ct : Stays F w bt (boxT (.slice a T.length c))
  cl : Stays F w bl (boxK v)
section
variable {B s m : Nat} {F F' : Nat → Prop} {L L' : List TermD} {a : Option Addr} {c : Nat} {T : List NodeD} {bs bx bt bl : Nat} {v : Value} {x : Int} {w w' : World}
theorem Stays.sub {k : Nat} {o : Obj} (h : Stays F w k o) (hs : ∀ k, F' k → F k) : Stays F' w k o := ⟨h.at', fun hf => h.out (hs k hf)⟩
theorem StepA.new (h : StepA B s m F L a c T bs bx bt bl v x w) (hb : Below w.heap.size w w') : StepA B s m F L a c T bs bx bt bl v x w' :=
  ⟨h.lw.new hb, h.tr.below (hb.mono h.lw.size), h.cs.new hb, h.cx.new hb, h.ct.new hb, h.cl.new hb⟩
theorem StepA.step (h : StepA B s m F L a c T bs bx bt bl v x w) (hx : Ext F F' w w') (hs : ProgStore w' s F' L') (hT : Turned F w w') (hk : MapKept s w w') : StepA B s m F' L' a c T bs bx bt bl v x w' :=
  ⟨h.lw.step hx hs hT hk, h.tr.below (hT.below h.lw.size h.lw.far), h.cs.step hx hT, h.cx.step hx hT, h.ct.step hx hT, h.cl.step hx hT⟩
/-- A store into the box of the list. -/
theorem StepA.list (h : StepA B s m F L a c T bs bx bt bl v x w) (hB : B ≤ bl) (h1 : bs ≠ bl) (h2 : bx ≠ bl) (h3 : bt ≠ bl) (v' : Value) : StepA B s m F L a c T bs bx bt bl v' x (w.setCell ⟨bl, 0, none⟩ v') := by
  have hT : Turned (fun k => k = bl) w (w.setCell ⟨bl, 0, none⟩ v') := Turned.setCell (F := fun k => k = bl) (Turned.refl _ _) (p := ⟨bl, 0, none⟩) (fun _ => rfl) _
  exact ⟨h.lw.turn hT (fun k hk e => h.cl.out (e ▸ hk)) (fun k hk => hk ▸ hB), h.tr.below (hT.below h.lw.size (fun k hk => hk ▸ hB)), h.cs.turn hT h1, h.cx.turn hT h2, h.ct.turn hT h3, ⟨row_setCell h.cl.at' 0 _, h.cl.out⟩⟩
/-- A store into the box of the secret. -/
theorem StepA.secret (h : StepA B s m F L a c T bs bx bt bl v x w) (hB : B ≤ bx) (h1 : bs ≠ bx) (h2 : bl ≠ bx) (h3 : bt ≠ bx) (x' : Int) : StepA B s m F L a c T bs bx bt bl v x' (w.setCell ⟨bx, 0, none⟩ (.int .i64 x')) := by
  have hT : Turned (fun k => k = bx) w (w.setCell ⟨bx, 0, none⟩ (.int .i64 x')) := Turned.setCell (F := fun k => k = bx) (Turned.refl _ _) (p := ⟨bx, 0, none⟩) (fun _ => rfl) _
  exact ⟨h.lw.turn hT (fun k hk e => h.cx.out (e ▸ hk)) (fun k hk => hk ▸ hB), h.tr.below (hT.below h.lw.size (fun k hk => hk ▸ hB)), h.cs.turn hT h1, ⟨row_setCell h.cx.at' 0 _, h.cx.out⟩, h.ct.turn hT h3, h.cl.turn hT h2⟩
theorem StepA.turn {G : Nat → Prop} (h : StepA B s m F L a c T bs bx bt bl v x w) (hT : Turned G w w') (hd : ∀ k, F k → ¬ G k) (hG : ∀ k, G k → B ≤ k) (h1 : ¬ G bs) (h2 : ¬ G bx) (h3 : ¬ G bt) (h4 : ¬ G bl) : StepA B s m F L a c T bs bx bt bl v x w' :=
  ⟨h.lw.turn hT hd hG, h.tr.below (hT.below h.lw.size hG), h.cs.turn hT h1, h.cx.turn hT h2, h.ct.turn hT h3, h.cl.turn hT h4⟩
theorem StepA.tight (h : StepA B s m F L a c T bs bx bt bl v x w) : ∃ F0, (∀ k, F0 k → F k) ∧ StepA B s m F0 L a c T bs bx bt bl v x w ∧ Tight F0 m w ∧ F0 m ∧ ∃ es c, w.heap[m]? = some (.map es c) := by
  obtain ⟨F0, h0, h1, h2, h3, h4⟩ := h.lw.tight
  exact ⟨F0, h0, ⟨h1, h.tr, h.cs.sub h0, h.cx.sub h0, h.ct.sub h0, h.cl.sub h0⟩, h2, h3, h4⟩
end
end Go.Proofs.YtedpljclnpiggaaGreatDoor

/-
  The step of path.Above, over any tree.
-/
namespace Go.Proofs.YtedpljclnpiggaaGreatDoor
open Go Go.RowKit

theorem node_e {L : List TermD} {x : Int} (h : thereD L.length x = true) : nodeE L x = 0 := by unfold nodeE; rw [h]; rfl

/-- The boxes of a call of Above. -/
structure Boxes (B bs bx bt bl M : Nat) : Prop where
  l : B ≤ bl ∧ bs ≠ bl ∧ bx ≠ bl ∧ bt ≠ bl
  x : B ≤ bx ∧ bs ≠ bx ∧ bl ≠ bx ∧ bt ≠ bx
  m : bs < M ∧ bx < M ∧ bt < M ∧ bl < M ∧ B ≤ M

theorem StO.nil' (F : Nat → Prop) (w : World) (e : TypeId) (sz : Nat) : StO F w e sz (.slice none 0 0) 0 [] := ⟨World.ownsRow_nil w 0 e sz, fun g hg => by simp [Value.ownBlock] at hg⟩
theorem StO.sub {F F' : Nat → Prop} {w : World} {e : TypeId} {sz : Nat} {v : Value} {n : Nat} {xs : List Value} (h : StO F w e sz v n xs) (hs : ∀ k, F' k → F k) : StO F' w e sz v n xs := ⟨h.own, fun g hg hf => h.out g hg (hs g hf)⟩

def foot (F : Nat → Prop) (bl bx : Nat) (v : Value) : Nat → Prop := fun k => F k ∨ k = bl ∨ k = bx ∨ v.ownBlock = some k

def StepOk (B s m : Nat) (F : Nat → Prop) (L : List TermD) (a : Option Addr) (c : Nat) (T : List NodeD) (bs bx bt bl M : Nat) (l : List KeyP) (v : Value) (x : Nat) (sec : Int) (w : World) (r : Ending) (w' : World) : Prop :=
  r = .returned (.int .i64 0) ∧ ∃ F' va' vc', StepA B s m F' (makeL (nodeT L sec) (kdfT 1 sec)) a c T bs bx bt bl (.slice va' (l.length + 1) vc') (makeN (nodeT L sec) (kdfT 1 sec)) w' ∧
    StO F' w' 123 2 (.slice va' (l.length + 1) vc') (l.length + 1) ((l ++ [((x : Int), nodeK L sec)]).flatMap keyV) ∧ (∀ g, (Value.slice va' (l.length + 1) vc').ownBlock = some g → M ≤ g) ∧ Ext F F' w w' ∧ Turned (foot F bl bx v) w w'

set_option maxRecDepth 100000 in
set_option maxHeartbeats 1600000 in
theorem stepA_ok (B s m : Nat) (F : Nat → Prop) (L : List TermD) (a : Option Addr) (c : Nat) (T : List NodeD) (bs bx bt bl M : Nat) (hbo : Boxes B bs bx bt bl M) (l : List KeyP) (va : Option Addr) (vc : Nat) (x : Nat) (sec : Int)
    (hway : OnWay L sec 3900) (hx : x < T.length) (hll : l.length ≤ 100) (hp : (nodeD T x).pub = nodeP L sec) (w : World) (hMw : M ≤ w.heap.size) (h : StepA B s m F L a c T bs bx bt bl (.slice va l.length vc) sec w)
    (hk : StO F w 123 2 (.slice va l.length vc) l.length (l.flatMap keyV)) (hg : ∀ g, (Value.slice va l.length vc).ownBlock = some g → M ≤ g) :
    Calls Tryz.prog 47 #[.int .i64 x, .pointer (some ⟨bs, 0, none⟩), .pointer (some ⟨bx, 0, none⟩), .pointer (some ⟨bt, 0, none⟩), .pointer (some ⟨bl, 0, none⟩)] w
      (StepOk B s m F L a c T bs bx bt bl M l (.slice va l.length vc) x sec w) := by
  obtain ⟨iK, hiK, hk0, hk1, hk2⟩ := info_parts infoKey
  obtain ⟨b, o, ra, hnd⟩ := h.tr x hx
  subst ra
  have H := Lib.hid h
  have Hbo := Lib.hid hbo
  have Hk := Lib.hid hk
  have Hg := Lib.hid hg
  have Hll := Lib.hid hll
  have HMw := Lib.hid hMw
  have hnode := fun W hW => snodeM_any s F L sec hway.good (by have := hway.len; omega) W hW
  rw [node_e hway.there] at hnode
  obtain ⟨hn1, hn2, hn3⟩ := hway.node (by have := hway.len; omega)
  have hder := fun F' W hW => derivedM_any s F' (nodeT L sec) 1 sec (kdf_ok (by simp [i64ok]) (there_i64 hn2 (by have := hn1.len; omega))) hn1.good (by have := hn1.len; omega) W hW
  have hme := (make_ok (may_kdf (label := 1) (by omega) hn2) (by have := hn1.len; omega : (nodeT L sec).length < 1048576)).1
  change makeE (nodeT L sec) ⟨4, 1, sec, 0⟩ = 0 at hme
  rw [hme] at hder
  have hpost : ∀ r w', StepOk B s m F L (some ⟨b, o, none⟩) c T bs bx bt bl M l (.slice va l.length vc) x sec w r w' = StepOk B s m F L (some ⟨b, o, none⟩) c T bs bx bt bl M l (.slice va l.length vc) x sec w r w' := fun _ _ => rfl
  unfold StepOk
  change Calls _ _ _ _ (fun r w' => r = .returned (.int .i64 0) ∧ ∃ F' va' vc', StepA B s m F' (makeL (nodeT L sec) ⟨4, 1, sec, 0⟩) (some ⟨b, o, none⟩) c T bs bx bt bl (.slice va' (l.length + 1) vc') (makeN (nodeT L sec) ⟨4, 1, sec, 0⟩) w' ∧ _ ∧ _ ∧ _ ∧ _)
  have hkok : (0 : Int) ≤ nodeK L sec := (node_facts (x := sec) hway.good (by have := hway.len; omega)).2.2.2.1.1
  clear hpost hme hway hn1 hn2 hn3
  generalize makeL (nodeT L sec) ⟨4, 1, sec, 0⟩ = L2 at hder ⊢
  generalize makeN (nodeT L sec) ⟨4, 1, sec, 0⟩ = s2 at hder ⊢
  generalize nodeT L sec = L1 at hder hnode
  generalize nodeK L sec = kv at hnode hkok ⊢
  have kp0 := hnd.c0
  rw [hp] at kp0
  clear hp hnd
  generalize nodeP L sec = pv at hnode kp0
  have Hnode := Lib.hid hnode
  have Hder := Lib.hid hder
  have k0 := cell_row h.cs.at' 0
  have k1 := cell_row h.cx.at' 0
  have k2 := cell_row h.ct.at' 0
  have k3 := cell_row h.cl.at' 0
  have hxI : (x : Int) < T.length := by omega
  have htr : ∀ W, StepA B s m F L (some ⟨b, o, none⟩) c T bs bx bt bl (.slice va l.length vc) sec w → Below B w W → W.cell? ⟨b, o + x * 4, none⟩ = some (.int .i64 pv) := fun W h hW => by
    obtain ⟨b', o', e, hn⟩ := h.tr x hx
    obtain ⟨rfl, rfl⟩ : b = b' ∧ o = o' := by simpa using e
    exact (hW.cell (p := ⟨b, o + x * 4, none⟩) hn.lt).trans kp0
  have Htr := Lib.hid htr
  clear h hbo hk hg hll hMw hnode hder kp0 hkok htr
  go_enter Tryz.func47, Tryz.ntmps47
  go_wp2_with fail
  refine (Hnode.out _ H.out.lw.ps).mono ?_
  rintro e w1 ⟨⟨rfl, F1, hx, hs, hTu⟩, hmk⟩
  have k4 := Htr.out w1 H.out (hTu.below H.out.lw.size H.out.lw.far)
  have H1 := Lib.hid (H.out.step hx hs hTu hmk)
  have HX1 := Lib.hid (And.intro hx hTu)
  have Hk1 := Lib.hid (Hk.out.step hx hTu)
  clear k0 k1 k2 k3 hx hs hTu hmk Hnode Hk
  have k0 := cell_row H1.out.cs.at' 0
  have k1 := cell_row H1.out.cx.at' 0
  have k2 := cell_row H1.out.ct.at' 0
  have k3 := cell_row H1.out.cl.at' 0
  have hMw1 := Nat.le_trans HMw.out HX1.out.2.size
  have HMw1 := Lib.hid hMw1; clear hMw1
  go_upto_region 7 with (at_builtin; refine wpList_append_lies _ rfl (.tmp 32) (.tmp 36) 47 rfl 0 123 iK (.agg #[.int .i64 0, .int .i64 0]) 2 16 Tryz.underlying47 hiK hk0 hk1 hk2 rfl (by decide) (.slice va l.length vc) l.length (l.flatMap keyV) rfl (Hk1.out.own.alloc _) ⟨w1.heap.size, 0, none⟩ 1 1 (keyV ((x : Int), kv)) rfl rfl (keyV_cells w1 ((x : Int), kv) 123) (by intro u hu; simp [keyV] at hu; rcases hu with rfl | rfl <;> rfl) (by omega) (by have := Hll.out; unfold maxLen; omega) (by have := Hll.out; omega) (Nat.zero_le _) (w1.heap.size + 1) (by simp) ?_; intro g cg w2 hown2 hgrow2 hat2 hlt2; have Hown2 := Lib.hid hown2; have Hgr2 := Lib.hid hgrow2; have Hat2 := Lib.hid hat2; have Hlt2 := Lib.hid hlt2; have hr2 : w2.heap[bl]? = some (boxK (.slice va l.length vc)) := (hgrow2.block bl (Nat.lt_of_lt_of_le H1.out.cl.lt (by simp)) (fun e => by have := Hg.out bl e.symm; have := Hbo.out.m; omega)).trans ((old_at H1.out.cl.lt).trans H1.out.cl.at'); clear hown2 hgrow2 hat2 hlt2 k0 k1 k2 k3 k4; have k3 := cell_row hr2 0; have f3 := free_row hr2 0; clear hr2)
  have hal := (Below.refl w1.heap.size w1).alloc (Nat.le_refl _) (.cells #[.int .i64 x, .int .i64 kv] 123)
  have hT12 : Turned (fun k => (Value.slice va l.length vc).ownBlock = some k) w1 w2 := (Turned.new (fun k => (Value.slice va l.length vc).ownBlock = some k) hal).grown Hgr2.out (fun k _ e => e)
  have hgM : M ≤ g := Hat2.out.elim (fun e => Hg.out g e) (fun e => by have := HMw1.out; omega)
  have hb := Hbo.out
  have hnb : ∀ k, k < M → ¬ (Value.slice va l.length vc).ownBlock = some k := fun k hk e => by have := Hg.out k e; omega
  have hA2 := H1.out.turn hT12 (fun k hk e => Hk1.out.out k e hk) (fun k e => Nat.le_trans hb.m.2.2.2.2 (Hg.out k e)) (hnb _ hb.m.1) (hnb _ hb.m.2.1) (hnb _ hb.m.2.2.1) (hnb _ hb.m.2.2.2.1)
  have hF1g : ¬ F1 g := fun hf => by
    rcases Hat2.out with e | e
    · exact Hk1.out.out g e hf
    · have := H1.out.lw.ps.lt _ hf; omega
  have hs2 : StO F1 w2 123 2 (.slice (some ⟨g, 0, none⟩) (l.length + 1) cg) (l.length + 1) ((l ++ [((x : Int), kv)]).flatMap keyV) :=
    ⟨by rw [List.flatMap_append]; exact Hown2.out, fun k hk hf => by
      have h1 : g = k := by simpa [Value.ownBlock] using hk
      subst h1; exact hF1g hf⟩
  have h3 := hA2.list hb.l.1 hb.l.2.1 hb.l.2.2.1 hb.l.2.2.2 (.slice (some ⟨g, 0, none⟩) (l.length + 1) cg)
  have hTb : Turned (fun k => k = bl) w2 (w2.setCell ⟨bl, 0, none⟩ (.slice (some ⟨g, 0, none⟩) (l.length + 1) cg)) := Turned.setCell (F := fun k => k = bl) (Turned.refl _ _) (p := ⟨bl, 0, none⟩) (fun _ => rfl) _
  have hs3 := hs2.turn hTb (fun k hk e => by
    have h1 : g = k := by simpa [Value.ownBlock] using hk
    have := hb.m
    omega)
  have hT1 : Turned (foot F bl bx (.slice va l.length vc)) w w1 := HX1.out.2.mono (fun k _ hk => .inl hk)
  have hT2 : Turned (foot F bl bx (.slice va l.length vc)) w w2 := hT1.trans hT12 (fun k _ e => .inr (.inr (.inr e)))
  have hT3 := hT2.trans hTb (fun k _ h => .inr (.inl h))
  have hsz12 : w1.heap.size ≤ w2.heap.size := hT12.size
  have hx3 : Ext F F1 w (w2.setCell ⟨bl, 0, none⟩ (.slice (some ⟨g, 0, none⟩) (l.length + 1) cg)) := fun k hk => (HX1.out.1 k hk).imp id fun h2 => ⟨h2.1, Nat.lt_of_lt_of_le h2.2 (Nat.le_trans hsz12 hTb.size)⟩
  generalize w2.setCell ⟨bl, 0, none⟩ (.slice (some ⟨g, 0, none⟩) (l.length + 1) cg) = w3 at h3 hs3 hT3 hx3 ⊢
  have H3 := Lib.hid h3
  have Hs3 := Lib.hid hs3
  have HX3 := Lib.hid (And.intro hx3 hT3)
  have HgM := Lib.hid hgM
  clear h3 hs3 hT3 hx3 hgM hF1g hTb hs2 hT12 hT1 hT2 hal hA2 hnb hb hsz12 H1 Hown2 Hgr2 Hat2 Hlt2 HX1 H k3 f3
  have k0 := cell_row H3.out.cs.at' 0
  have k1 := cell_row H3.out.cx.at' 0
  go_wp2_with fail
  refine (Hder.out F1 _ H3.out.lw.ps).mono ?_
  rintro e w4 ⟨⟨rfl, F2, hx, hs, hTu⟩, hmk⟩
  have H4 := Lib.hid (H3.out.step hx hs hTu hmk)
  have Hs4 := Lib.hid (Hs3.out.step hx hTu)
  have HX4 := Lib.hid (And.intro hx hTu)
  clear hx hs hTu hmk k0 k1
  have k1 := cell_row H4.out.cx.at' 0
  have f1 := free_row H4.out.cx.at' 0
  go_wp2
  go_ret
  have hb := Hbo.out
  have h5 := H4.out.secret hb.x.1 hb.x.2.1 hb.x.2.2.1 hb.x.2.2.2 s2
  have hTb : Turned (fun k => k = bx) w4 (w4.setCell ⟨bx, 0, none⟩ (.int .i64 s2)) := Turned.setCell (F := fun k => k = bx) (Turned.refl _ _) (p := ⟨bx, 0, none⟩) (fun _ => rfl) _
  have hT4 : Turned (foot F bl bx (.slice va l.length vc)) w w4 := HX3.out.2.trans HX4.out.2 (fun k hk h => (HX3.out.1 k h).elim Or.inl (fun h2 => absurd h2.1 (Nat.not_le_of_lt hk)))
  have hT5 := hT4.trans hTb (fun k _ h => .inr (.inr (.inl h)))
  have hs5 := Hs4.out.turn hTb (fun k hk e => by
    have h1 : g = k := by simpa [Value.ownBlock] using hk
    have := HgM.out
    have := hb.m
    omega)
  refine ⟨rfl, F2, some ⟨g, 0, none⟩, cg, h5, hs5, fun k hk => ?_, ?_, hT5⟩
  · have h1 : g = k := by simpa [Value.ownBlock] using hk
    subst h1; exact HgM.out
  intro k hk
  have h4 := hTb.size
  rcases HX4.out.1 k hk with h | h
  · rcases HX3.out.1 k h with h2 | h2
    · exact Or.inl h2
    · exact Or.inr ⟨h2.1, by have := HX4.out.2.size; omega⟩
  · exact Or.inr ⟨by have := HX3.out.2.size; omega, by omega⟩

def StepBad (B s m : Nat) (F : Nat → Prop) (L : List TermD) (a : Option Addr) (c : Nat) (T : List NodeD) (bs bx bt bl : Nat) (v : Value) (sec : Int) (w : World) (r : Ending) (w' : World) : Prop :=
  r = .returned (.int .i64 12) ∧ ∃ F', StepA B s m F' (nodeT L sec) a c T bs bx bt bl v sec w' ∧ Ext F F' w w' ∧ Turned F w w'

set_option maxRecDepth 100000 in
set_option maxHeartbeats 1600000 in
theorem stepA_bad (B s m : Nat) (F : Nat → Prop) (L : List TermD) (a : Option Addr) (c : Nat) (T : List NodeD) (bs bx bt bl : Nat) (v : Value) (x : Nat) (sec : Int)
    (hway : OnWay L sec 3900) (hx : x < T.length) (hp : (nodeD T x).pub ≠ nodeP L sec) (w : World) (h : StepA B s m F L a c T bs bx bt bl v sec w) :
    Calls Tryz.prog 47 #[.int .i64 x, .pointer (some ⟨bs, 0, none⟩), .pointer (some ⟨bx, 0, none⟩), .pointer (some ⟨bt, 0, none⟩), .pointer (some ⟨bl, 0, none⟩)] w
      (StepBad B s m F L a c T bs bx bt bl v sec w) := by
  obtain ⟨b, o, ra, hnd⟩ := h.tr x hx
  subst ra
  have H := Lib.hid h
  have hnode := fun W hW => snodeM_any s F L sec hway.good (by have := hway.len; omega) W hW
  rw [node_e hway.there] at hnode
  unfold StepBad
  generalize nodeT L sec = L1 at hnode ⊢
  generalize nodeK L sec = kv at hnode
  have kp0 := hnd.c0
  clear hnd hway
  generalize nodeP L sec = pv at hnode hp
  have hne : ((nodeD T x).pub == pv) = false := beq_eq_false_iff_ne.2 hp
  have hxx := hx
  generalize (nodeD T x).pub = pw at kp0 hne hp
  have Hnode := Lib.hid hnode
  have k0 := cell_row h.cs.at' 0
  have k1 := cell_row h.cx.at' 0
  have hxI : (x : Int) < T.length := by omega
  have htr : ∀ W, StepA B s m F L (some ⟨b, o, none⟩) c T bs bx bt bl v sec w → Below B w W → W.cell? ⟨b, o + x * 4, none⟩ = some (.int .i64 pw) := fun W h hW => by
    obtain ⟨b', o', e, hn⟩ := h.tr x hx
    obtain ⟨rfl, rfl⟩ : b = b' ∧ o = o' := by simpa using e
    exact (hW.cell (p := ⟨b, o + x * 4, none⟩) hn.lt).trans kp0
  have Htr := Lib.hid htr
  clear h hnode kp0 htr hp
  go_enter Tryz.func47, Tryz.ntmps47
  go_wp2_with fail
  refine (Hnode.out _ H.out.lw.ps).mono ?_
  rintro e w1 ⟨⟨rfl, F1, hx, hs, hTu⟩, hmk⟩
  have k4 := Htr.out w1 H.out (hTu.below H.out.lw.size H.out.lw.far)
  have H1 := Lib.hid (H.out.step hx hs hTu hmk)
  have HX1 := Lib.hid (And.intro hx hTu)
  clear k0 k1 hx hs hTu hmk Hnode
  have k0 := cell_row H1.out.cs.at' 0
  have k1 := cell_row H1.out.cx.at' 0
  have k2 := cell_row H1.out.ct.at' 0
  go_wp2
  go_ret
  exact ⟨rfl, F1, H1.out, HX1.out.1, HX1.out.2⟩
end Go.Proofs.YtedpljclnpiggaaGreatDoor
