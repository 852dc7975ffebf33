/-
  The document's Add: into a tree of one leaf.
-/
import Derived.Test.YtedpljclnpiggaaGreatDoorQRAdd
set_option linter.unusedVariables false
set_option linter.unusedSimpArgs false
namespace Go.Proofs.YtedpljclnpiggaaGreatDoor
open Go Go.RowKit

def RAdd1Post (w : World) (p0 m0 e0 p m e : Int) (r : Ending) (w' : World) : Prop :=
  ∃ g c, r = .returned (.tuple #[.agg #[.slice (some ⟨g, 0, none⟩) 3 c], .int .i64 1, .int .i64 0]) ∧ T3 w' g p0 m0 e0 0 p m e ∧ w.heap.size ≤ g ∧ Below w.heap.size w w'

set_option maxRecDepth 100000 in
set_option maxHeartbeats 3200000 in
theorem radd_1 (b c : Nat) (m0 e0 p0 m e p : Int) (hm0 : 0 ≤ m0) (he0 : 0 ≤ e0) (hp0 : 0 < p0) (hm : 0 ≤ m) (he : 0 ≤ e) (hp : 0 < p) (hne : ¬ m0 = m) (w : World) (h : T1 w b p0 m0 e0) :
    Calls Tryz.prog 177 #[.agg #[.slice (some ⟨b, 0, none⟩) 1 c], .agg #[.int .i64 m, .int .i64 e, .int .i64 p]] w (RAdd1Post w p0 m0 e0 p m e) := by
  obtain ⟨iN, hiN, hn0, hn1, hn2⟩ := info_parts infoNode
  have hm1 : ¬ m < 0 := by omega
  have he1 : ¬ e < 0 := by omega
  have hp1 : ¬ p < 1 := by omega
  have hb1 := (((Below.refl w.heap.size w).alloc (Nat.le_refl _) (boxT (.slice (some ⟨b, 0, none⟩) 1 c))).alloc (by simp) (.cells #[.int .i64 m, .int .i64 e, .int .i64 p] 163)).alloc (by simp; omega) (boxT (.slice none 0 0))
  have h0 : St (((w.alloc (boxT (.slice (some ⟨b, 0, none⟩) 1 c))).alloc (.cells #[.int .i64 m, .int .i64 e, .int .i64 p] 163)).alloc (boxT (.slice none 0 0))) w.heap.size (boxT (.slice (some ⟨b, 0, none⟩) 1 c)) := St.mk' ((heap_alloc_old _ _ (by simp <;> omega)).trans ((heap_alloc_old _ _ (by simp)).trans (row_alloc _ _ _)))
  have h1 : St (((w.alloc (boxT (.slice (some ⟨b, 0, none⟩) 1 c))).alloc (.cells #[.int .i64 m, .int .i64 e, .int .i64 p] 163)).alloc (boxT (.slice none 0 0))) (w.heap.size + 1) (.cells #[.int .i64 m, .int .i64 e, .int .i64 p] 163 (0, 0)) := St.mk' ((heap_alloc_old _ _ (by simp)).trans (by have := row_alloc (w := w.alloc (boxT (.slice (some ⟨b, 0, none⟩) 1 c))) #[.int .i64 m, .int .i64 e, .int .i64 p] 163 (0, 0); simpa using this))
  have h2 : St (((w.alloc (boxT (.slice (some ⟨b, 0, none⟩) 1 c))).alloc (.cells #[.int .i64 m, .int .i64 e, .int .i64 p] 163)).alloc (boxT (.slice none 0 0))) (w.heap.size + 1 + 1) (boxT (.slice none 0 0)) := St.mk' (by have := row_alloc (w := (w.alloc (boxT (.slice (some ⟨b, 0, none⟩) 1 c))).alloc (.cells #[.int .i64 m, .int .i64 e, .int .i64 p] 163)) #[.slice none 0 0] 44 (0, 0); simpa using this)
  have HT := Lib.hid (h.new hb1); clear h
  have Hb1 := Lib.hid hb1; clear hb1
  have H0 := Lib.hid h0; clear h0
  have H1 := Lib.hid h1; clear h1
  have H2 := Lib.hid h2; clear h2
  go_enter Tryz.func177, Tryz.ntmps177
  go_wp2_with fail
  refine (rcheck_1 b c p0 m0 e0 hp0 hm0 he0 _ HT.out).mono ?_
  obtain ⟨q, hq⟩ : ∃ q, q = w.heap.size := ⟨_, rfl⟩
  rw [← hq] at H0 H1 H2 ⊢
  have Hq := Lib.hid hq; clear hq
  generalize ((w.alloc (boxT (.slice (some ⟨b, 0, none⟩) 1 c))).alloc (.cells #[.int .i64 m, .int .i64 e, .int .i64 p] 163)).alloc (boxT (.slice none 0 0)) = w1 at Hb1 H0 H1 H2 HT ⊢
  rintro r w2 ⟨rfl, hb⟩
  have H02 := Lib.hid (H0.out.new hb); have H12 := Lib.hid (H1.out.new hb); have H22 := Lib.hid (H2.out.new hb)
  have HT2 := Lib.hid (HT.out.new hb)
  have Hb2 := Lib.hid (Hb1.out.trans (hb.mono Hb1.out.size)); clear hb H0 H1 H2 Hb1
  have k := cell_row H02.out.at' 0
  have k0 := cell_row H12.out.at' 0
  have k1 := cell_row H12.out.at' 1
  have k2 := cell_row H12.out.at' 2
  go_wp2_with fail
  refine (rfind_1 b c p0 m0 e0 m hp0 hm0 he0 hne _ HT2.out).mono ?_
  rintro r w3 ⟨rfl, hb⟩
  have H03 := Lib.hid (H02.out.new hb); have H13 := Lib.hid (H12.out.new hb); have H23 := Lib.hid (H22.out.new hb)
  have HT3 := Lib.hid (HT2.out.new hb)
  have Hb3 := Lib.hid (Hb2.out.trans (hb.mono Hb2.out.size)); clear hb H02 H12 H22 Hb2 k k0 k1 k2
  have k := cell_row H03.out.at' 0
  go_wp2_with fail
  refine (rtwin_1 b c p0 m0 e0 _ HT3.out).mono ?_
  rintro r w4 ⟨g5, c5, v5, rfl, hc5, hown5, ⟨a5, n5, rfl⟩, hg5, hb⟩
  have hst5 : StO (fun _ => False) w4 125 4 (.slice (some ⟨g5, 0, none⟩) 1 c5) 1 [.int .i64 p0, .int .i64 m0, .int .i64 e0, .slice a5 0 n5] := ⟨hown5, fun _ _ h => h⟩
  have hq25 : q + 1 + 1 < g5 := by have := H23.out.lt; omega
  have H04 := Lib.hid (H03.out.new hb); have H14 := Lib.hid (H13.out.new hb); have H24 := Lib.hid (H23.out.new hb)
  have HT4 := Lib.hid (HT3.out.new hb)
  have Hb4 := Lib.hid (Hb3.out.trans (hb.mono Hb3.out.size)); clear hb H03 H13 H23 Hb3 k
  have k := cell_row H04.out.at' 0
  have hal := (Below.refl w4.heap.size w4).alloc (Nat.le_refl _) (boxT (.slice (some ⟨g5, 0, none⟩) 1 c5))
  have H74 := Lib.hid (show St (w4.alloc (boxT (.slice (some ⟨g5, 0, none⟩) 1 c5))) w4.heap.size (boxT (.slice (some ⟨g5, 0, none⟩) 1 c5)) from St.mk' (row_alloc _ _ _))
  have H05 := Lib.hid (H04.out.new hal); have H15 := Lib.hid (H14.out.new hal); have H25 := Lib.hid (H24.out.new hal)
  have HT5 := Lib.hid (HT4.out.new hal)
  have Hs5 := Lib.hid (hst5.new hal)
  have hg57 : g5 < w4.heap.size := hst5.lt rfl
  clear hst5 hown5
  have Hb5 := Lib.hid (Hb4.out.trans (hal.mono Hb4.out.size)); clear hal
  have hql := H04.out.lt
  go_wp2_with fail
  refine (rfree_1 b c p0 m0 e0 hp0 _ HT5.out).mono ?_
  obtain ⟨q7, hq7⟩ : ∃ q, q = w4.heap.size := ⟨_, rfl⟩
  have hb47 := Hb4.out.size
  rw [← hq7] at H74 hb47 hg57 ⊢
  have hqn : q + 1 + 1 < q7 := by have := H24.out.lt; omega
  have Hq7 := Lib.hid (And.intro hb47 hqn); clear hq7 hb47 hqn
  generalize w4.alloc (boxT (.slice (some ⟨g5, 0, none⟩) 1 c5)) = w5 at HT5 Hs5 H74 H05 H15 H25 Hb5 ⊢
  rintro r w6 ⟨rfl, hb⟩
  clear k hql H04 H14 H24 Hb4
  have H06 := Lib.hid (H05.out.new hb); have H16 := Lib.hid (H15.out.new hb); have H26 := Lib.hid (H25.out.new hb); have H76 := Lib.hid (H74.out.new hb)
  have Hs6 := Lib.hid (Hs5.out.new hb)
  have Hb6 := Lib.hid (Hb5.out.trans (hb.mono Hb5.out.size)); clear hb H05 H15 H25 H74 Hb5
  have k := cell_row H06.out.at' 0
  go_wp2_with fail
  refine (rleaves_1 _ _ _).mono ?_
  rintro r w7 ⟨rfl, hb⟩
  have H17 := Lib.hid (H16.out.new hb); have H27 := Lib.hid (H26.out.new hb); have H77 := Lib.hid (H76.out.new hb)
  have Hs7 := Lib.hid (Hs6.out.new hb)
  have Hb7 := Lib.hid (Hb6.out.trans (hb.mono Hb6.out.size)); clear hb H06 H16 H26 H76 Hb6 k
  have k7 := cell_row H77.out.at' 0
  have hql := H77.out.lt
  have hgq7 : g5 ≠ q7 := by omega
  have hq7g : q7 ≠ g5 := by omega
  go_wp2_with fail
  refine wp_loop_rounds 3 ?_
  rw [rounds_succ]
  have Hgs := Lib.hid (show q + 1 + 1 < g5 ∧ g5 < q7 from ⟨hq25, hg57⟩)
  have k7 := cell_row H77.out.at' 0
  have hql := H77.out.lt
  go_wp2_with (at_builtin; refine wpList_append_lies _ rfl (.tmp 71) (.tmp 73) 42 rfl 0 125 iN (.agg #[.int .i64 0, .int .i64 0, .int .i64 0, .slice none 0 0]) 4 48 Tryz.underlying42 hiN hn0 hn1 hn2 rfl (by decide) (.slice (some ⟨g5, 0, none⟩) 1 c5) 1 [.int .i64 p0, .int .i64 m0, .int .i64 e0, .slice a5 0 n5] rfl (Hs7.out.own.alloc _) ⟨w7.heap.size, 0, none⟩ 1 1 [.int .i64 0, .int .i64 0, .int .i64 0, .slice none 0 0] rfl rfl (node_cells w7 0 0 0 (.slice none 0 0) 125) (by intro u hu; simp at hu; rcases hu with rfl | rfl <;> rfl) (by omega) (by unfold maxLen; omega) (by omega) (Nat.zero_le _) (w7.heap.size + 1) (by simp) ?_; intro g8 c8 w8 hownN hgrowN hatN hltN; have hTN := Turned.grown ((Turned.refl (fun k => k = g5) w7).alloc (.cells #[.int .i64 0, .int .i64 0, .int .i64 0, .slice none 0 0] 125)) hgrowN (fun k _ hk => by simp [Value.ownBlock] at hk; exact hk.symm); have hstN := H77.out.turn hTN (Ne.symm hgq7); have k8 := cell_row hstN.at' 0; have f8 := free_row hstN.at' 0; have H7N := Lib.hid hstN; have H1N := Lib.hid (H17.out.turn hTN (by have := Hgs.out; omega)); have H2N := Lib.hid (H27.out.turn hTN (by have := Hgs.out; omega)); have HbN := Lib.hid (Hb7.out.trans (hTN.below (B := w.heap.size) Hb7.out.size (fun k hk => by have := Hgs.out; have := Hq.out; omega))); have HownN := Lib.hid hownN; have HatN := Lib.hid hatN; clear hownN hgrowN hatN hltN hTN hstN)
  have hgq8 : g8 ≠ q7 ∧ q + 1 + 1 < g8 := by
    have h1 := Hgs.out
    have h2 := H77.out.lt
    rcases HatN.out with h3 | h3
    · have h4 : g5 = g8 := by simpa [Value.ownBlock] using h3
      omega
    · omega
  have Hgs8 := Lib.hid hgq8
  have h7w := St.mk' (row_setCell H7N.out.at' 0 (.slice (some ⟨g8, 0, none⟩) 2 c8))
  have h1w := H1N.out.put (p := ⟨q7, 0, none⟩) (by have := Hq7.out.2; simp only; omega) (.slice (some ⟨g8, 0, none⟩) 2 c8)
  have h2w := H2N.out.put (p := ⟨q7, 0, none⟩) (by have := Hq7.out.2; simp only; omega) (.slice (some ⟨g8, 0, none⟩) 2 c8)
  have hbw := HbN.out.setCell (p := ⟨q7, 0, none⟩) Hq7.out.1 (.slice (some ⟨g8, 0, none⟩) 2 c8)
  have hsw : StO (fun _ => False) (w8.setCell ⟨q7, 0, none⟩ (.slice (some ⟨g8, 0, none⟩) 2 c8)) 125 4 (.slice (some ⟨g8, 0, none⟩) 2 c8) 2 [.int .i64 p0, .int .i64 m0, .int .i64 e0, .slice a5 0 n5, .int .i64 0, .int .i64 0, .int .i64 0, .slice none 0 0] :=
    by
      refine StO.turn (G := fun k => k = q7) ⟨HownN.out, fun _ _ h => h⟩ (Turned.setCell (F := fun k => k = q7) (Turned.refl _ _) (p := ⟨q7, 0, none⟩) (fun _ => rfl) _) (fun g hg e => hgq8.1 ?_)
      have h1 : g8 = g := by simpa [Value.ownBlock] using hg
      omega
  generalize w8.setCell ⟨q7, 0, none⟩ (.slice (some ⟨g8, 0, none⟩) 2 c8) = w9 at h7w h1w h2w hbw hsw ⊢
  have H79 := Lib.hid h7w
  have H19 := Lib.hid h1w
  have H29 := Lib.hid h2w
  have Hb9 := Lib.hid hbw
  have Hs9 := Lib.hid hsw
  have hgq8' := hgq8.1
  clear h7w h1w h2w hbw hsw k7 k8 f8 hql H7N H1N H2N HbN HownN HatN hgq8 H17 H27 H77 Hb7 Hs7
  clear Hgs
  have Hgs := Hgs8
  rw [rounds_succ]
  have k7 := cell_row H79.out.at' 0
  have hql := H79.out.lt
  go_wp2_with (at_builtin; refine wpList_append_lies _ rfl (.tmp 71) (.tmp 73) 42 rfl 0 125 iN (.agg #[.int .i64 0, .int .i64 0, .int .i64 0, .slice none 0 0]) 4 48 Tryz.underlying42 hiN hn0 hn1 hn2 rfl (by decide) (.slice (some ⟨g8, 0, none⟩) 2 c8) 2 [.int .i64 p0, .int .i64 m0, .int .i64 e0, .slice a5 0 n5, .int .i64 0, .int .i64 0, .int .i64 0, .slice none 0 0] rfl (Hs9.out.own.alloc _) ⟨w9.heap.size, 0, none⟩ 1 1 [.int .i64 0, .int .i64 0, .int .i64 0, .slice none 0 0] rfl rfl (node_cells w9 0 0 0 (.slice none 0 0) 125) (by intro u hu; simp at hu; rcases hu with rfl | rfl <;> rfl) (by omega) (by unfold maxLen; omega) (by omega) (Nat.zero_le _) (w9.heap.size + 1) (by simp) ?_; intro g10 c10 w10 hownN hgrowN hatN hltN; have hTN := Turned.grown ((Turned.refl (fun k => k = g8) w9).alloc (.cells #[.int .i64 0, .int .i64 0, .int .i64 0, .slice none 0 0] 125)) hgrowN (fun k _ hk => by simp [Value.ownBlock] at hk; exact hk.symm); have hstN := H79.out.turn hTN (Ne.symm hgq8'); have k8 := cell_row hstN.at' 0; have f8 := free_row hstN.at' 0; have H7N := Lib.hid hstN; have H1N := Lib.hid (H19.out.turn hTN (by have := Hgs.out; omega)); have H2N := Lib.hid (H29.out.turn hTN (by have := Hgs.out; omega)); have HbN := Lib.hid (Hb9.out.trans (hTN.below (B := w.heap.size) Hb9.out.size (fun k hk => by have := Hgs.out; have := Hq.out; omega))); have HownN := Lib.hid hownN; have HatN := Lib.hid hatN; clear hownN hgrowN hatN hltN hTN hstN)
  have hg10 : g10 ≠ q7 ∧ q + 1 + 1 < g10 := by
    have h1 := Hgs.out
    have h2 := H79.out.lt
    rcases HatN.out with h3 | h3
    · have h4 : g8 = g10 := by simpa [Value.ownBlock] using h3
      omega
    · omega
  have h79 : St (w10.setCell ⟨q7, 0, none⟩ (.slice (some ⟨g10, 0, none⟩) 3 c10)) q7 (boxT (.slice (some ⟨g10, 0, none⟩) 3 c10)) := St.mk' (row_setCell H7N.out.at' 0 _)
  have h19 := H1N.out.put (p := ⟨q7, 0, none⟩) (by have := Hq7.out.2; simp only; omega) (.slice (some ⟨g10, 0, none⟩) 3 c10)
  have h29 := H2N.out.put (p := ⟨q7, 0, none⟩) (by have := Hq7.out.2; simp only; omega) (.slice (some ⟨g10, 0, none⟩) 3 c10)
  have hb9 := HbN.out.setCell (p := ⟨q7, 0, none⟩) Hq7.out.1 (.slice (some ⟨g10, 0, none⟩) 3 c10)
  obtain ⟨cur, hg9, hcs, htk⟩ : ∃ cur : Array Value, (w10.setCell ⟨q7, 0, none⟩ (.slice (some ⟨g10, 0, none⟩) 3 c10)).heap[g10]? = some (.cells cur 125 (0, 0)) ∧ 12 ≤ cur.size ∧ cur.toList.take 12 = [.int .i64 p0, .int .i64 m0, .int .i64 e0, .slice a5 0 n5, .int .i64 0, .int .i64 0, .int .i64 0, .slice none 0 0, .int .i64 0, .int .i64 0, .int .i64 0, .slice none 0 0] := by
    rcases HownN.out.2 with ⟨e1, _⟩ | ⟨g', cap, cur, e1, _, hg, h1, _, hsz, htk⟩
    · simp at e1
    · obtain ⟨rfl, rfl⟩ : g10 = g' ∧ c10 = cap := by simpa using e1
      exact ⟨cur, (Below.heap_setCell w10 ⟨q7, 0, none⟩ _ g10 hg10.1).trans hg, by omega, by simpa using htk⟩
  have Hg10 := Lib.hid hg10
  have hg107 := hg10.1
  clear hg10 k8 f8
  generalize w10.setCell ⟨q7, 0, none⟩ (.slice (some ⟨g10, 0, none⟩) 3 c10) = w11 at h79 h19 h29 hb9 hg9 ⊢
  have k7 := cell_row h79.at' 0
  have k0 := cell_row h19.at' 0
  have k1 := cell_row h19.at' 1
  have k2 := cell_row h19.at' 2
  have hcj : ∀ j, j < 12 → ∃ v, w11.cell? ⟨g10, j, none⟩ = some v := fun j hj => ⟨_, (cell_row hg9 j).trans (Array.getElem?_eq_getElem (by omega))⟩
  obtain ⟨v0, y0⟩ := hcj 8 (by omega)
  obtain ⟨v1, y1⟩ := hcj 9 (by omega)
  obtain ⟨v2, y2⟩ := hcj 10 (by omega)
  obtain ⟨v3, y3⟩ := hcj 11 (by omega)
  have z0 := free_row hg9 8
  have z1 := free_row hg9 9
  have z2 := free_row hg9 10
  have z3 := free_row hg9 11
  have h10 : OutAt w11 ((((w11.setCell ⟨g10, 8, none⟩ (.int .i64 p)).setCell ⟨g10, 9, none⟩ (.int .i64 m)).setCell ⟨g10, 10, none⟩ (.int .i64 e)).setCell ⟨g10, 11, none⟩ (.slice none 0 0)) g10 _ := (((OutAt.put ⟨hg9, Turned.refl _ _⟩ 8 (.int .i64 p)).put 9 (.int .i64 m)).put 10 (.int .i64 e)).put 11 (.slice none 0 0)
  have H10 := Lib.hid h10
  have H79' := Lib.hid h79
  have H29' := Lib.hid h29
  have Hb11 := Lib.hid hb9
  have Hcs := Lib.hid hcs
  have Htk := Lib.hid htk
  clear h10 h79 h29 h19 hb9 hg9 hcs hcj htk H7N H1N H2N HbN HownN HatN H79 H19 H29 Hb9 Hs9 Hgs hql
  rw [rounds_succ]
  go_wp2_with fail
  refine (rleaves_3 _ _ _).mono ?_
  rintro r w12 ⟨rfl, hb⟩
  have H12 := Lib.hid (H10.out.step hb); clear hb H10 k7 k0 k1 k2 y0 y1 y2 y3 z0 z1 z2 z3
  go_wp2_with fail
  refine (rdirect_22 _).mono ?_
  intro r w13 hx
  obtain ⟨go, co, rfl, hco1, hco2, hgo, cgo, hbo⟩ := newI_one hx
  unfold maxLen at hco2
  have H13 := Lib.hid (H12.out.step hbo)
  have h7x := (H13.out.turned.block q7 H79'.out.lt (Ne.symm hg107)).trans H79'.out.at'
  have k7 := cell_row h7x 0
  have ky : w13.cell? ⟨g10, 4, none⟩ = some (.int .i64 0) := by
    rw [cell_row H13.out.row 4]
    have hcs := Hcs.out
    have htk := Htk.out
    have h4 : cur[4]? = some (.int .i64 0) := by
      rw [← Array.getElem?_toList]
      have := congrArg (fun l : List Value => l[4]?) htk
      simpa [List.getElem?_take] using this
    simpa [Array.getElem?_setIfInBounds] using h4
  clear hx hbo H12
  go_wp2_with fail
  refine wp_loop_rounds 2 ?_
  rw [rounds_succ]
  go_wp2_with fail
  go_quiet (fail)
  go_wp2
  rw [rounds_succ]
  have hr2 := (H13.out.turned.block (q + 1 + 1) H29'.out.lt (by have := Hg10.out; omega)).trans H29'.out.at'
  have kr := cell_row hr2 0
  have fr := free_row hr2 0
  have Hr2 := Lib.hid hr2; clear hr2
  go_wp2
  refine bodyPost_ret_by (add_results _ _ (q + 1 + 1) _ rfl (row_setCell Hr2.out 0 _)) rfl ?_
  have hg2 : g10 ≠ q + 1 + 1 := by have := Hg10.out; omega
  have hrow := (Below.heap_setCell (w13.drewN nq) ⟨q + 1 + 1, 0, none⟩ (.slice (some ⟨g10, 0, none⟩) 3 c10) g10 hg2).trans (show (w13.drewN nq).heap[g10]? = _ from H13.out.row)
  have hc := fun j => cell_row hrow j
  have hcs := Hcs.out
  have htk := Htk.out
  have hq := Hq.out
  have hg := Hg10.out
  have hb13 := Hb11.out.trans ((H13.out.turned.below (B := w.heap.size) Hb11.out.size (fun k hk => by omega)))
  have hcur : ∀ j, j < 12 → cur[j]? = ([.int .i64 p0, .int .i64 m0, .int .i64 e0, .slice a5 0 n5, .int .i64 0, .int .i64 0, .int .i64 0, .slice none 0 0, .int .i64 0, .int .i64 0, .int .i64 0, .slice none 0 0] : List Value)[j]? := by
    intro j hj
    rw [← htk, ← Array.getElem?_toList, List.getElem?_take, if_pos hj]
  have h0 := hcur 0 (by omega)
  have h1 := hcur 1 (by omega)
  have h2 := hcur 2 (by omega)
  have h3 := hcur 3 (by omega)
  have h4 := hcur 4 (by omega)
  have h5 := hcur 5 (by omega)
  have h6 := hcur 6 (by omega)
  have h7 := hcur 7 (by omega)
  refine ⟨g10, c10, rfl, ⟨?_, ?_, ?_, ⟨a5, n5, ?_⟩, ?_, ?_, ?_, ⟨none, 0, ?_⟩, ?_, ?_, ?_, ⟨none, 0, ?_⟩⟩, by omega, (show Below w.heap.size w (w13.drewN nq) from ⟨hb13.os, hb13.tape, hb13.output, hb13.size, hb13.block⟩).setCell (p := ⟨q + 1 + 1, 0, none⟩) (by simp only; omega) _⟩
  · rw [hc 0]; simpa [Array.getElem?_setIfInBounds] using h0
  · rw [hc 1]; simpa [Array.getElem?_setIfInBounds] using h1
  · rw [hc 2]; simpa [Array.getElem?_setIfInBounds] using h2
  · rw [hc 3]; simpa [Array.getElem?_setIfInBounds] using h3
  · rw [hc 4]; simpa [Array.getElem?_setIfInBounds] using h4
  · rw [hc 5]; simpa [Array.getElem?_setIfInBounds] using h5
  · rw [hc 6]; simpa [Array.getElem?_setIfInBounds] using h6
  · rw [hc 7]; simpa [Array.getElem?_setIfInBounds] using h7
  · rw [hc 8]; simp [Array.getElem?_setIfInBounds, show 8 < cur.size by omega]
  · rw [hc 9]; simp [Array.getElem?_setIfInBounds, show 9 < cur.size by omega]
  · rw [hc 10]; simp [Array.getElem?_setIfInBounds, show 10 < cur.size by omega]
  · rw [hc 11]; simp [Array.getElem?_setIfInBounds, show 11 < cur.size by omega]
end Go.Proofs.YtedpljclnpiggaaGreatDoor
