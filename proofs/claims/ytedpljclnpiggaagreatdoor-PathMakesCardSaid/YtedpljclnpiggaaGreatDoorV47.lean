/- phratrylaw01's Book: held lists are looked at. -/
import Derived.Test.YtedpljclnpiggaaGreatDoorV46
import Derived.Deep.RegionHeld3
import Derived.Deep.RegionLaw
import Derived.Deep.AppendLies
set_option linter.unusedVariables false
set_option linter.unusedSimpArgs false
set_option maxRecDepth 100000
set_option maxHeartbeats 12800000
namespace Go.Proofs.YtedpljclnpiggaaGreatDoor
section
open Go Go.RowKit
theorem growNumber_any (b g n0 m cap : Nat) (V : Nat → Value) (K : Nat → Nat) (hn : n0 + m ≤ 1000) (hK : ∀ i, i < m → K i ≤ 100000) (w : World) (hb : w.cell? ⟨b, 2, none⟩ = some (.slice (some ⟨g, 0, none⟩) m cap)) (hbF : ¬ HFoot g m V b)
    (h : HeldR 199 3 1 w g n0 m V K (fun i => marksV (mkNumber (n0 + i)) (K i))) :
    Calls Tryz.prog 103 #[.pointer (some ⟨b, 0, none⟩)] w fun e w' => e = .returned (.tuple #[]) ∧ GrowAt 199 3 1 mkNumber w g n0 m V (fun i => K i + 3) w' := by
 obtain ⟨i0, hi0, hz0, hz1, hz2⟩ := info_parts infoI
 have hst : GrowAt 199 3 1 mkNumber w g n0 m V (growK K 0 0) w := ⟨V, K, h, fun i _ => Nat.le_of_eq (growK_zero K i).symm, Turned.refl _ _, Ext.refl _ _ _⟩
 have Hst := hQ hst
 have HK := hQ hK
 have HbF := hQ hbF
 have hbl := World.block_lt_of_cell? w _ hb
 have Hbc := hQ (And.intro hb hbl)
 have hmI : (m : Int) ≤ 1000 := by omega
 clear h hK hbF hbl hst
 go_enter Tryz.func103, Tryz.ntmps103
 go_wp2
 go_loopw [10] (fun i wr => ∃ k : Nat, k ≤ m ∧ i = .int .i64 k ∧ GrowAt 199 3 1 mkNumber w g n0 m V (growK K k 0) wr) (fun i _ => m - (intOf i).toNat)
 case atStart => exact ⟨0, Nat.zero_le _, rfl, Hst.out⟩
 case round =>
  obtain ⟨k, hk, rfl, hg⟩ := hrel
  by_cases hlt : k < m
  · have hcb : wr.cell? ⟨b, 2, none⟩ = some (.slice (some ⟨g, 0, none⟩) m cap) := by
      obtain ⟨V2, K2, _, _, hT, _⟩ := hg
      exact (hT.cell (p := ⟨b, 2, none⟩) Hbc.out.2 HbF.out).trans Hbc.out.1
    have Hg := hQ hg
    clear hg
    have hkI : (k : Int) < m := by omega
    go_wp2
    clear hcb
    go_loopw [4] (fun i wq => ∃ j : Nat, j ≤ 3 ∧ i = .int .i64 j ∧ GrowAt 199 3 1 mkNumber w g n0 m V (growK K k j) wq) (fun i _ => 3 - (intOf i).toNat)
    case atStart => exact ⟨0, Nat.zero_le _, rfl, Hg.out⟩
    case round =>
     obtain ⟨j, hj, rfl, hg2⟩ := hrel
     by_cases hjl : j < 3
     · obtain ⟨V2, K2, hh, hb2, hT, hx⟩ := hg2
       obtain ⟨d0, d1, _, hgl⟩ := hh.cells hlt
       obtain ⟨hc, hrow, _⟩ := hh.row
       have hown : wr.ownsRow 0 3 1 (V2 k) (K2 k) (marksV (mkNumber (n0 + k)) (K2 k)) := hh.own k hlt
       obtain ⟨nk, hnk⟩ : ∃ nk, nk = n0 + k := ⟨_, rfl⟩
       rw [← hnk] at d1 hown
       have HNk := hQ hnk
       have hnk1 : nk ≤ 1000 := by omega
       have hnkI : (nk : Int) ≤ 1000 := by omega
       have hl : K2 k ≤ 100003 := by have h1 := hb2 k hlt; have h2 := growK_le K k j k hj; have h3 := HK.out k hlt; omega
       have hne := hh.ne k hlt
       have Hst2 := hQ (And.intro hh (And.intro hb2 (And.intro hT hx)))
       have Hrow := hQ hrow
       obtain ⟨v, hv⟩ : ∃ v, v = V2 k := ⟨_, rfl⟩
       rw [← hv] at d0 hown hne
       have Hv := hQ hv
       have Hne := hQ hne
       obtain ⟨n, hnK⟩ : ∃ n, n = K2 k := ⟨_, rfl⟩
       rw [← hnK] at hl hown
       have HnK := hQ hnK
       have Hown := hQ hown
       clear hh hb2 hT hx hrow hown hne hv hnK hnk
       go_wp2_with fail
       go_region_law (first
        | (go_simp; go_at_call 55; refine (markNumber_any nk (by omega) _).mono ?_; rintro e w3 ⟨rfl, hw3⟩; have hb3x : Below wr.heap.size wr w3 := (by rw [hw3]; exact ⟨rfl, rfl, rfl, Nat.le_refl _, fun _ _ => rfl⟩); clear hw3; have hb3 : Below wr.heap.size wr w3 := ⟨hb3x.os, hb3x.tape, hb3x.output, hb3x.size, hb3x.block⟩; clear hb3x; have d0' := (hb3.cell (p := ⟨g, k * 2, none⟩) hgl).trans d0; have d1' := (hb3.cell (p := ⟨g, k * 2 + 1, none⟩) hgl).trans d1; have Hrow3 := hQ ((hb3.block g hgl).trans Hrow.out); have f0 := fRw Hrow3.out (k * 2); have Hown3 := hQ (oKp Hown.out (Turned.new (fun _ => False) hb3) (fun _ _ h => h)); have hgl3 : g < w3.heap.size := Nat.lt_of_lt_of_le hgl hb3.size; have Hb3 := hQ hb3; clear hb3)
        | (go_loud (refine step_append_lies _ rfl (.tmp 27) (.tmp 33) 27 rfl 0 3 i0 (.int .i64 0) 1 8 Tryz.underlying27 hi0 hz0 hz1 hz2 rfl (by decide) v n (marksV (mkNumber nk) n) (by simp [Act.eval, Act.put]) (Hown3.out.alloc _) ⟨w3.heap.size, 0, none⟩ 1 1 (mkNumber nk) (by simp [Act.eval, Act.put]) rfl (cells_new w3 (mkNumber nk) 3) (mkNumber_one nk) (by omega) (by unfold maxLen; omega) (by omega) (by simp) (w3.heap.size + 1) (by simp) ?_); intro g' c' w5 hown5 hgrow5 hat5 hlt5; have hr5 : w5.heap[g]? = some (.cells hc 199 (0, 0)) := (hgrow5.block g (Nat.lt_of_lt_of_le hgl3 (by simp)) (fun e => Hne.out e.symm)).trans ((heap_alloc_old _ _ hgl3).trans Hrow3.out); have z5 := fRw hr5 (k * 2); have c5 : w5.cell? ⟨g, k * 2, none⟩ = some v := (cRw hr5 _).trans ((cRw Hrow3.out _).symm.trans d0'); clear hr5 hlt5; have Hown5 := hQ hown5; clear hown5; have Hgrow5 := hQ hgrow5; clear hgrow5; have Hat5 := hQ hat5; clear hat5))
       all_goals
        clear d0' d1' f0 z5 c5
        obtain ⟨hh, hb2, hT, hx⟩ := Hst2.out
        have hG : GrowAt 199 3 1 mkNumber w g n0 m V (growK K k (j + 1)) (w5.setCell ⟨g, k * 2, none⟩ (.slice (some ⟨g', 0, none⟩) (n + 1) c')) := by
         have h := GrowAt.step (w3 := w3.alloc (.cells (mkNumber nk).toArray 3)) (w5 := w5) (g' := g') (c' := c') hh hb2 hT hx hlt (Hb3.out.alloc Hb3.out.size _) (by rw [← HnK.out, ← HNk.out]; exact Hown5.out) (by rw [← Hv.out]; exact Hgrow5.out) (by rw [← Hv.out]; simpa using Hat5.out)
         rw [← HnK.out] at h
         exact h
        have HG := hQ hG; clear hG Hown5 Hgrow5 Hat5 Hb3 Hown3 Hrow3 hh hb2 hT hx Hst2
        go_wp2
        exact ⟨⟨j + 1, by omega, by go_num, HG.out⟩, by simp [intOf]; omega⟩
     · obtain rfl : j = 3 := by omega
       have Hx := hQ (hg2.mono (fun i => Nat.le_of_eq (growK_three K k i)))
       clear hg2
       go_wp2
       exact ⟨⟨k + 1, by omega, by go_num, Hx.out⟩, by simp [intOf]; omega⟩
  · obtain rfl : k = m := by omega
    have Hx := hQ (hg.mono (fun i => growK_le K k 0 i (by omega)))
    have hkI : ¬ (k : Int) < k := by omega
    clear hg
    go_wp2
    go_end0
    exact ⟨rfl, Hx.out⟩
theorem growSeal_any (b g n0 m cap : Nat) (V : Nat → Value) (K : Nat → Nat) (hn : n0 + m ≤ 1000) (hK : ∀ i, i < m → K i ≤ 100000) (w : World) (hb : w.cell? ⟨b, 6, none⟩ = some (.slice (some ⟨g, 0, none⟩) m cap)) (hbF : ¬ HFoot g m V b)
    (h : HeldR 196 143 3 w g n0 m V K (fun i => marksV (mkSeal (n0 + i)) (K i))) :
    Calls Tryz.prog 107 #[.pointer (some ⟨b, 0, none⟩)] w fun e w' => e = .returned (.tuple #[]) ∧ GrowAt 196 143 3 mkSeal w g n0 m V (fun i => K i + 3) w' := by
 obtain ⟨i0, hi0, hz0, hz1, hz2⟩ := info_parts bkInfoSl
 have hst : GrowAt 196 143 3 mkSeal w g n0 m V (growK K 0 0) w := ⟨V, K, h, fun i _ => Nat.le_of_eq (growK_zero K i).symm, Turned.refl _ _, Ext.refl _ _ _⟩
 have Hst := hQ hst
 have HK := hQ hK
 have HbF := hQ hbF
 have hbl := World.block_lt_of_cell? w _ hb
 have Hbc := hQ (And.intro hb hbl)
 have hmI : (m : Int) ≤ 1000 := by omega
 clear h hK hbF hbl hst
 go_enter Tryz.func107, Tryz.ntmps107
 go_wp2
 go_loopw [10] (fun i wr => ∃ k : Nat, k ≤ m ∧ i = .int .i64 k ∧ GrowAt 196 143 3 mkSeal w g n0 m V (growK K k 0) wr) (fun i _ => m - (intOf i).toNat)
 case atStart => exact ⟨0, Nat.zero_le _, rfl, Hst.out⟩
 case round =>
  obtain ⟨k, hk, rfl, hg⟩ := hrel
  by_cases hlt : k < m
  · have hcb : wr.cell? ⟨b, 6, none⟩ = some (.slice (some ⟨g, 0, none⟩) m cap) := by
      obtain ⟨V2, K2, _, _, hT, _⟩ := hg
      exact (hT.cell (p := ⟨b, 6, none⟩) Hbc.out.2 HbF.out).trans Hbc.out.1
    have Hg := hQ hg
    clear hg
    have hkI : (k : Int) < m := by omega
    go_wp2
    clear hcb
    go_loopw [4] (fun i wq => ∃ j : Nat, j ≤ 3 ∧ i = .int .i64 j ∧ GrowAt 196 143 3 mkSeal w g n0 m V (growK K k j) wq) (fun i _ => 3 - (intOf i).toNat)
    case atStart => exact ⟨0, Nat.zero_le _, rfl, Hg.out⟩
    case round =>
     obtain ⟨j, hj, rfl, hg2⟩ := hrel
     by_cases hjl : j < 3
     · obtain ⟨V2, K2, hh, hb2, hT, hx⟩ := hg2
       obtain ⟨d0, d1, _, hgl⟩ := hh.cells hlt
       obtain ⟨hc, hrow, _⟩ := hh.row
       have hown : wr.ownsRow 0 143 3 (V2 k) (K2 k) (marksV (mkSeal (n0 + k)) (K2 k)) := hh.own k hlt
       obtain ⟨nk, hnk⟩ : ∃ nk, nk = n0 + k := ⟨_, rfl⟩
       rw [← hnk] at d1 hown
       have HNk := hQ hnk
       have hnk1 : nk ≤ 1000 := by omega
       have hnkI : (nk : Int) ≤ 1000 := by omega
       have hl : K2 k ≤ 100003 := by have h1 := hb2 k hlt; have h2 := growK_le K k j k hj; have h3 := HK.out k hlt; omega
       have hne := hh.ne k hlt
       have Hst2 := hQ (And.intro hh (And.intro hb2 (And.intro hT hx)))
       have Hrow := hQ hrow
       obtain ⟨v, hv⟩ : ∃ v, v = V2 k := ⟨_, rfl⟩
       rw [← hv] at d0 hown hne
       have Hv := hQ hv
       have Hne := hQ hne
       obtain ⟨n, hnK⟩ : ∃ n, n = K2 k := ⟨_, rfl⟩
       rw [← hnK] at hl hown
       have HnK := hQ hnK
       have Hown := hQ hown
       clear hh hb2 hT hx hrow hown hne hv hnK hnk
       go_wp2_with fail
       go_region_law (first
        | (go_simp; go_at_call 219; refine (markSeal_any nk (by omega) _).mono ?_; rintro e w3 ⟨rfl, hb3x⟩; have hb3 : Below wr.heap.size wr w3 := ⟨hb3x.os, hb3x.tape, hb3x.output, hb3x.size, hb3x.block⟩; clear hb3x; have d0' := (hb3.cell (p := ⟨g, k * 2, none⟩) hgl).trans d0; have d1' := (hb3.cell (p := ⟨g, k * 2 + 1, none⟩) hgl).trans d1; have Hrow3 := hQ ((hb3.block g hgl).trans Hrow.out); have f0 := fRw Hrow3.out (k * 2); have Hown3 := hQ (oKp Hown.out (Turned.new (fun _ => False) hb3) (fun _ _ h => h)); have hgl3 : g < w3.heap.size := Nat.lt_of_lt_of_le hgl hb3.size; have Hb3 := hQ hb3; clear hb3)
        | (go_loud (refine step_append_lies _ rfl (.tmp 27) (.tmp 33) 55 rfl 0 143 i0 (.agg #[.int .i64 0, .int .i64 0, .int .i64 0]) 3 24 Tryz.underlying55 hi0 hz0 hz1 hz2 rfl (by decide) v n (marksV (mkSeal nk) n) (by simp [Act.eval, Act.put]) (Hown3.out.alloc _) ⟨w3.heap.size, 0, none⟩ 1 1 (mkSeal nk) (by simp [Act.eval, Act.put]) rfl (cells_new w3 (mkSeal nk) 143) (mkSeal_one nk) (by omega) (by unfold maxLen; omega) (by omega) (by simp) (w3.heap.size + 1) (by simp) ?_); intro g' c' w5 hown5 hgrow5 hat5 hlt5; have hr5 : w5.heap[g]? = some (.cells hc 196 (0, 0)) := (hgrow5.block g (Nat.lt_of_lt_of_le hgl3 (by simp)) (fun e => Hne.out e.symm)).trans ((heap_alloc_old _ _ hgl3).trans Hrow3.out); have z5 := fRw hr5 (k * 2); have c5 : w5.cell? ⟨g, k * 2, none⟩ = some v := (cRw hr5 _).trans ((cRw Hrow3.out _).symm.trans d0'); clear hr5 hlt5; have Hown5 := hQ hown5; clear hown5; have Hgrow5 := hQ hgrow5; clear hgrow5; have Hat5 := hQ hat5; clear hat5))
       all_goals
        clear d0' d1' f0 z5 c5
        obtain ⟨hh, hb2, hT, hx⟩ := Hst2.out
        have hG : GrowAt 196 143 3 mkSeal w g n0 m V (growK K k (j + 1)) (w5.setCell ⟨g, k * 2, none⟩ (.slice (some ⟨g', 0, none⟩) (n + 1) c')) := by
         have h := GrowAt.step (w3 := w3.alloc (.cells (mkSeal nk).toArray 143)) (w5 := w5) (g' := g') (c' := c') hh hb2 hT hx hlt (Hb3.out.alloc Hb3.out.size _) (by rw [← HnK.out, ← HNk.out]; exact Hown5.out) (by rw [← Hv.out]; exact Hgrow5.out) (by rw [← Hv.out]; simpa using Hat5.out)
         rw [← HnK.out] at h
         exact h
        have HG := hQ hG; clear hG Hown5 Hgrow5 Hat5 Hb3 Hown3 Hrow3 hh hb2 hT hx Hst2
        go_wp2
        exact ⟨⟨j + 1, by omega, by go_num, HG.out⟩, by simp [intOf]; omega⟩
     · obtain rfl : j = 3 := by omega
       have Hx := hQ (hg2.mono (fun i => Nat.le_of_eq (growK_three K k i)))
       clear hg2
       go_wp2
       exact ⟨⟨k + 1, by omega, by go_num, Hx.out⟩, by simp [intOf]; omega⟩
  · obtain rfl : k = m := by omega
    have Hx := hQ (hg.mono (fun i => growK_le K k 0 i (by omega)))
    have hkI : ¬ (k : Int) < k := by omega
    clear hg
    go_wp2
    go_end0
    exact ⟨rfl, Hx.out⟩
theorem growKey_any (b g n0 m cap : Nat) (V : Nat → Value) (K : Nat → Nat) (hn : n0 + m ≤ 1000) (hK : ∀ i, i < m → K i ≤ 100000) (w : World) (hb : w.cell? ⟨b, 7, none⟩ = some (.slice (some ⟨g, 0, none⟩) m cap)) (hbF : ¬ HFoot g m V b)
    (h : HeldR 194 123 2 w g n0 m V K (fun i => marksV (mkKey (n0 + i)) (K i))) :
    Calls Tryz.prog 108 #[.pointer (some ⟨b, 0, none⟩)] w fun e w' => e = .returned (.tuple #[]) ∧ GrowAt 194 123 2 mkKey w g n0 m V (fun i => K i + 3) w' := by
 obtain ⟨i0, hi0, hz0, hz1, hz2⟩ := info_parts bkInfoKey
 have hst : GrowAt 194 123 2 mkKey w g n0 m V (growK K 0 0) w := ⟨V, K, h, fun i _ => Nat.le_of_eq (growK_zero K i).symm, Turned.refl _ _, Ext.refl _ _ _⟩
 have Hst := hQ hst
 have HK := hQ hK
 have HbF := hQ hbF
 have hbl := World.block_lt_of_cell? w _ hb
 have Hbc := hQ (And.intro hb hbl)
 have hmI : (m : Int) ≤ 1000 := by omega
 clear h hK hbF hbl hst
 go_enter Tryz.func108, Tryz.ntmps108
 go_wp2
 go_loopw [10] (fun i wr => ∃ k : Nat, k ≤ m ∧ i = .int .i64 k ∧ GrowAt 194 123 2 mkKey w g n0 m V (growK K k 0) wr) (fun i _ => m - (intOf i).toNat)
 case atStart => exact ⟨0, Nat.zero_le _, rfl, Hst.out⟩
 case round =>
  obtain ⟨k, hk, rfl, hg⟩ := hrel
  by_cases hlt : k < m
  · have hcb : wr.cell? ⟨b, 7, none⟩ = some (.slice (some ⟨g, 0, none⟩) m cap) := by
      obtain ⟨V2, K2, _, _, hT, _⟩ := hg
      exact (hT.cell (p := ⟨b, 7, none⟩) Hbc.out.2 HbF.out).trans Hbc.out.1
    have Hg := hQ hg
    clear hg
    have hkI : (k : Int) < m := by omega
    go_wp2
    clear hcb
    go_loopw [4] (fun i wq => ∃ j : Nat, j ≤ 3 ∧ i = .int .i64 j ∧ GrowAt 194 123 2 mkKey w g n0 m V (growK K k j) wq) (fun i _ => 3 - (intOf i).toNat)
    case atStart => exact ⟨0, Nat.zero_le _, rfl, Hg.out⟩
    case round =>
     obtain ⟨j, hj, rfl, hg2⟩ := hrel
     by_cases hjl : j < 3
     · obtain ⟨V2, K2, hh, hb2, hT, hx⟩ := hg2
       obtain ⟨d0, d1, _, hgl⟩ := hh.cells hlt
       obtain ⟨hc, hrow, _⟩ := hh.row
       have hown : wr.ownsRow 0 123 2 (V2 k) (K2 k) (marksV (mkKey (n0 + k)) (K2 k)) := hh.own k hlt
       obtain ⟨nk, hnk⟩ : ∃ nk, nk = n0 + k := ⟨_, rfl⟩
       rw [← hnk] at d1 hown
       have HNk := hQ hnk
       have hnk1 : nk ≤ 1000 := by omega
       have hnkI : (nk : Int) ≤ 1000 := by omega
       have hl : K2 k ≤ 100003 := by have h1 := hb2 k hlt; have h2 := growK_le K k j k hj; have h3 := HK.out k hlt; omega
       have hne := hh.ne k hlt
       have Hst2 := hQ (And.intro hh (And.intro hb2 (And.intro hT hx)))
       have Hrow := hQ hrow
       obtain ⟨v, hv⟩ : ∃ v, v = V2 k := ⟨_, rfl⟩
       rw [← hv] at d0 hown hne
       have Hv := hQ hv
       have Hne := hQ hne
       obtain ⟨n, hnK⟩ : ∃ n, n = K2 k := ⟨_, rfl⟩
       rw [← hnK] at hl hown
       have HnK := hQ hnK
       have Hown := hQ hown
       clear hh hb2 hT hx hrow hown hne hv hnK hnk
       go_wp2_with fail
       go_region_law (first
        | (go_simp; go_at_call 220; refine (markKey_any nk (by omega) _).mono ?_; rintro e w3 ⟨rfl, hb3x⟩; have hb3 : Below wr.heap.size wr w3 := ⟨hb3x.os, hb3x.tape, hb3x.output, hb3x.size, hb3x.block⟩; clear hb3x; have d0' := (hb3.cell (p := ⟨g, k * 2, none⟩) hgl).trans d0; have d1' := (hb3.cell (p := ⟨g, k * 2 + 1, none⟩) hgl).trans d1; have Hrow3 := hQ ((hb3.block g hgl).trans Hrow.out); have f0 := fRw Hrow3.out (k * 2); have Hown3 := hQ (oKp Hown.out (Turned.new (fun _ => False) hb3) (fun _ _ h => h)); have hgl3 : g < w3.heap.size := Nat.lt_of_lt_of_le hgl hb3.size; have Hb3 := hQ hb3; clear hb3)
        | (go_loud (refine step_append_lies _ rfl (.tmp 27) (.tmp 33) 47 rfl 0 123 i0 (.agg #[.int .i64 0, .int .i64 0]) 2 16 Tryz.underlying47 hi0 hz0 hz1 hz2 rfl (by decide) v n (marksV (mkKey nk) n) (by simp [Act.eval, Act.put]) (Hown3.out.alloc _) ⟨w3.heap.size, 0, none⟩ 1 1 (mkKey nk) (by simp [Act.eval, Act.put]) rfl (cells_new w3 (mkKey nk) 123) (mkKey_one nk) (by omega) (by unfold maxLen; omega) (by omega) (by simp) (w3.heap.size + 1) (by simp) ?_); intro g' c' w5 hown5 hgrow5 hat5 hlt5; have hr5 : w5.heap[g]? = some (.cells hc 194 (0, 0)) := (hgrow5.block g (Nat.lt_of_lt_of_le hgl3 (by simp)) (fun e => Hne.out e.symm)).trans ((heap_alloc_old _ _ hgl3).trans Hrow3.out); have z5 := fRw hr5 (k * 2); have c5 : w5.cell? ⟨g, k * 2, none⟩ = some v := (cRw hr5 _).trans ((cRw Hrow3.out _).symm.trans d0'); clear hr5 hlt5; have Hown5 := hQ hown5; clear hown5; have Hgrow5 := hQ hgrow5; clear hgrow5; have Hat5 := hQ hat5; clear hat5))
       all_goals
        clear d0' d1' f0 z5 c5
        obtain ⟨hh, hb2, hT, hx⟩ := Hst2.out
        have hG : GrowAt 194 123 2 mkKey w g n0 m V (growK K k (j + 1)) (w5.setCell ⟨g, k * 2, none⟩ (.slice (some ⟨g', 0, none⟩) (n + 1) c')) := by
         have h := GrowAt.step (w3 := w3.alloc (.cells (mkKey nk).toArray 123)) (w5 := w5) (g' := g') (c' := c') hh hb2 hT hx hlt (Hb3.out.alloc Hb3.out.size _) (by rw [← HnK.out, ← HNk.out]; exact Hown5.out) (by rw [← Hv.out]; exact Hgrow5.out) (by rw [← Hv.out]; simpa using Hat5.out)
         rw [← HnK.out] at h
         exact h
        have HG := hQ hG; clear hG Hown5 Hgrow5 Hat5 Hb3 Hown3 Hrow3 hh hb2 hT hx Hst2
        go_wp2
        exact ⟨⟨j + 1, by omega, by go_num, HG.out⟩, by simp [intOf]; omega⟩
     · obtain rfl : j = 3 := by omega
       have Hx := hQ (hg2.mono (fun i => Nat.le_of_eq (growK_three K k i)))
       clear hg2
       go_wp2
       exact ⟨⟨k + 1, by omega, by go_num, Hx.out⟩, by simp [intOf]; omega⟩
  · obtain rfl : k = m := by omega
    have Hx := hQ (hg.mono (fun i => growK_le K k 0 i (by omega)))
    have hkI : ¬ (k : Int) < k := by omega
    clear hg
    go_wp2
    go_end0
    exact ⟨rfl, Hx.out⟩
theorem growNode_any (b g n0 m cap : Nat) (V : Nat → Value) (K : Nat → Nat) (hn : n0 + m ≤ 1000) (hK : ∀ i, i < m → K i ≤ 100000) (w : World) (hb : w.cell? ⟨b, 19, none⟩ = some (.slice (some ⟨g, 0, none⟩) m cap)) (hbF : ¬ HFoot g m V b)
    (h : HeldR 296 125 4 w g n0 m V K (fun i => marksV (mkNode (n0 + i)) (K i))) :
    Calls Tryz.prog 120 #[.pointer (some ⟨b, 0, none⟩)] w fun e w' => e = .returned (.tuple #[]) ∧ GrowAt 296 125 4 mkNode w g n0 m V (fun i => K i + 3) w' := by
 obtain ⟨i0, hi0, hz0, hz1, hz2⟩ := info_parts bkInfoNode
 have hst : GrowAt 296 125 4 mkNode w g n0 m V (growK K 0 0) w := ⟨V, K, h, fun i _ => Nat.le_of_eq (growK_zero K i).symm, Turned.refl _ _, Ext.refl _ _ _⟩
 have Hst := hQ hst
 have HK := hQ hK
 have HbF := hQ hbF
 have hbl := World.block_lt_of_cell? w _ hb
 have Hbc := hQ (And.intro hb hbl)
 have hmI : (m : Int) ≤ 1000 := by omega
 clear h hK hbF hbl hst
 go_enter Tryz.func120, Tryz.ntmps120
 go_wp2
 go_loopw [10] (fun i wr => ∃ k : Nat, k ≤ m ∧ i = .int .i64 k ∧ GrowAt 296 125 4 mkNode w g n0 m V (growK K k 0) wr) (fun i _ => m - (intOf i).toNat)
 case atStart => exact ⟨0, Nat.zero_le _, rfl, Hst.out⟩
 case round =>
  obtain ⟨k, hk, rfl, hg⟩ := hrel
  by_cases hlt : k < m
  · have hcb : wr.cell? ⟨b, 19, none⟩ = some (.slice (some ⟨g, 0, none⟩) m cap) := by
      obtain ⟨V2, K2, _, _, hT, _⟩ := hg
      exact (hT.cell (p := ⟨b, 19, none⟩) Hbc.out.2 HbF.out).trans Hbc.out.1
    have Hg := hQ hg
    clear hg
    have hkI : (k : Int) < m := by omega
    go_wp2
    clear hcb
    go_loopw [4] (fun i wq => ∃ j : Nat, j ≤ 3 ∧ i = .int .i64 j ∧ GrowAt 296 125 4 mkNode w g n0 m V (growK K k j) wq) (fun i _ => 3 - (intOf i).toNat)
    case atStart => exact ⟨0, Nat.zero_le _, rfl, Hg.out⟩
    case round =>
     obtain ⟨j, hj, rfl, hg2⟩ := hrel
     by_cases hjl : j < 3
     · obtain ⟨V2, K2, hh, hb2, hT, hx⟩ := hg2
       obtain ⟨d0, d1, _, hgl⟩ := hh.cells hlt
       obtain ⟨hc, hrow, _⟩ := hh.row
       have hown : wr.ownsRow 0 125 4 (V2 k) (K2 k) (marksV (mkNode (n0 + k)) (K2 k)) := hh.own k hlt
       obtain ⟨nk, hnk⟩ : ∃ nk, nk = n0 + k := ⟨_, rfl⟩
       rw [← hnk] at d1 hown
       have HNk := hQ hnk
       have hnk1 : nk ≤ 1000 := by omega
       have hnkI : (nk : Int) ≤ 1000 := by omega
       have hl : K2 k ≤ 100003 := by have h1 := hb2 k hlt; have h2 := growK_le K k j k hj; have h3 := HK.out k hlt; omega
       have hne := hh.ne k hlt
       have Hst2 := hQ (And.intro hh (And.intro hb2 (And.intro hT hx)))
       have Hrow := hQ hrow
       obtain ⟨v, hv⟩ : ∃ v, v = V2 k := ⟨_, rfl⟩
       rw [← hv] at d0 hown hne
       have Hv := hQ hv
       have Hne := hQ hne
       obtain ⟨n, hnK⟩ : ∃ n, n = K2 k := ⟨_, rfl⟩
       rw [← hnK] at hl hown
       have HnK := hQ hnK
       have Hown := hQ hown
       clear hh hb2 hT hx hrow hown hne hv hnK hnk
       go_wp2_with fail
       go_region_law (first
        | (go_simp; go_at_call 199; refine (markNode_any nk (by omega) _).mono ?_; rintro e w3 ⟨rfl, hb3x⟩; have hb3 : Below wr.heap.size wr w3 := ⟨hb3x.os, hb3x.tape, hb3x.output, hb3x.size, hb3x.block⟩; clear hb3x; have d0' := (hb3.cell (p := ⟨g, k * 2, none⟩) hgl).trans d0; have d1' := (hb3.cell (p := ⟨g, k * 2 + 1, none⟩) hgl).trans d1; have Hrow3 := hQ ((hb3.block g hgl).trans Hrow.out); have f0 := fRw Hrow3.out (k * 2); have Hown3 := hQ (oKp Hown.out (Turned.new (fun _ => False) hb3) (fun _ _ h => h)); have hgl3 : g < w3.heap.size := Nat.lt_of_lt_of_le hgl hb3.size; have Hb3 := hQ hb3; clear hb3)
        | (go_loud (refine step_append_lies _ rfl (.tmp 27) (.tmp 33) 42 rfl 0 125 i0 (.agg #[.int .i64 0, .int .i64 0, .int .i64 0, .slice none 0 0]) 4 48 Tryz.underlying42 hi0 hz0 hz1 hz2 rfl (by decide) v n (marksV (mkNode nk) n) (by simp [Act.eval, Act.put]) (Hown3.out.alloc _) ⟨w3.heap.size, 0, none⟩ 1 1 (mkNode nk) (by simp [Act.eval, Act.put]) rfl (cells_new w3 (mkNode nk) 125) (mkNode_one nk) (by omega) (by unfold maxLen; omega) (by omega) (by simp) (w3.heap.size + 1) (by simp) ?_); intro g' c' w5 hown5 hgrow5 hat5 hlt5; have hr5 : w5.heap[g]? = some (.cells hc 296 (0, 0)) := (hgrow5.block g (Nat.lt_of_lt_of_le hgl3 (by simp)) (fun e => Hne.out e.symm)).trans ((heap_alloc_old _ _ hgl3).trans Hrow3.out); have z5 := fRw hr5 (k * 2); have c5 : w5.cell? ⟨g, k * 2, none⟩ = some v := (cRw hr5 _).trans ((cRw Hrow3.out _).symm.trans d0'); clear hr5 hlt5; have Hown5 := hQ hown5; clear hown5; have Hgrow5 := hQ hgrow5; clear hgrow5; have Hat5 := hQ hat5; clear hat5))
       all_goals
        clear d0' d1' f0 z5 c5
        obtain ⟨hh, hb2, hT, hx⟩ := Hst2.out
        have hG : GrowAt 296 125 4 mkNode w g n0 m V (growK K k (j + 1)) (w5.setCell ⟨g, k * 2, none⟩ (.slice (some ⟨g', 0, none⟩) (n + 1) c')) := by
         have h := GrowAt.step (w3 := w3.alloc (.cells (mkNode nk).toArray 125)) (w5 := w5) (g' := g') (c' := c') hh hb2 hT hx hlt (Hb3.out.alloc Hb3.out.size _) (by rw [← HnK.out, ← HNk.out]; exact Hown5.out) (by rw [← Hv.out]; exact Hgrow5.out) (by rw [← Hv.out]; simpa using Hat5.out)
         rw [← HnK.out] at h
         exact h
        have HG := hQ hG; clear hG Hown5 Hgrow5 Hat5 Hb3 Hown3 Hrow3 hh hb2 hT hx Hst2
        go_wp2
        exact ⟨⟨j + 1, by omega, by go_num, HG.out⟩, by simp [intOf]; omega⟩
     · obtain rfl : j = 3 := by omega
       have Hx := hQ (hg2.mono (fun i => Nat.le_of_eq (growK_three K k i)))
       clear hg2
       go_wp2
       exact ⟨⟨k + 1, by omega, by go_num, Hx.out⟩, by simp [intOf]; omega⟩
  · obtain rfl : k = m := by omega
    have Hx := hQ (hg.mono (fun i => growK_le K k 0 i (by omega)))
    have hkI : ¬ (k : Int) < k := by omega
    clear hg
    go_wp2
    go_end0
    exact ⟨rfl, Hx.out⟩
end
section
open Go Go.RowKit
theorem size_alloc'' (w : World) (o : Obj) : (w.alloc o).heap.size = w.heap.size + 1 := by simp
def LookRel (n : Nat) (w : World) (i : Value) (wr : World) : Prop := ∃ k : Nat, k ≤ n ∧ i = .int .i64 k ∧ Below w.heap.size w wr
theorem own_marks {w : World} {B sz n c : Nat} {et : TypeId} {a : Option Addr} {mk : List Value} (h : w.ownsRow B et sz (.slice a n c) n (marksV mk n)) (hs : mk.length = sz) {j : Nat} (hj : j < n) : ∃ r, a = some ⟨r, 0, none⟩ ∧ ∀ t, t < sz → w.cell? ⟨r, j * sz + t, none⟩ = mk[t]? := by
 rcases h.2 with ⟨_, h0⟩ | ⟨g, cap, cur, e, hB, hg, h4, h5, hsz, ht⟩
 · omega
 · obtain ⟨rfl, rfl⟩ : a = some ⟨g, 0, none⟩ ∧ c = cap := by simpa using e
   refine ⟨g, rfl, fun t htl => ?_⟩
   have hm : (j + 1) * sz ≤ n * sz := Nat.mul_le_mul_right sz hj
   rw [Nat.succ_mul] at hm
   rw [cRw hg, ← marksV_get hs hj htl, ← ht, List.getElem?_take, if_pos (by omega), Array.getElem?_toList]
theorem eqSeal (x0 x1 x2 : Int) (w : World) : (binOp .eql 143 (.agg #[.int .i64 x0, .int .i64 x1, .int .i64 x2]) (.agg #[.int .i64 x0, .int .i64 x1, .int .i64 x2])).run Tryz.prog w = .ok (.bool true) w := by
 rw [run_eql_struct]
 rw [run_equalIn_struct (P := Tryz.prog) w 9999 _ _ _ (by kernel_rfl) (by kernel_rfl)]
 simp only [Program.fieldsOf, Tryz.underlying143]
 simp [Op.eqFields, go_sem]
theorem keepSealC {w W w1 : World} {x0 x1 x2 : Int} {B : Nat} (h : B < W.heap.size ∧ Below B w W ∧ W.cell? ⟨B, 0, none⟩ = some (.int .i64 x0) ∧ W.cell? ⟨B, 1, none⟩ = some (.int .i64 x1) ∧ W.cell? ⟨B, 2, none⟩ = some (.int .i64 x2)) (hb : Below W.heap.size W w1) :
    B < w1.heap.size ∧ Below B w w1 ∧ w1.cell? ⟨B, 0, none⟩ = some (.int .i64 x0) ∧ w1.cell? ⟨B, 1, none⟩ = some (.int .i64 x1) ∧ w1.cell? ⟨B, 2, none⟩ = some (.int .i64 x2) := by
 obtain ⟨h0, h1, h2, h3, h4⟩ := h
 have hsz := hb.size
 refine ⟨by omega, h1.trans (hb.mono (by omega)), ?_, ?_, ?_⟩
 all_goals (rw [hb.cell h0]; assumption)
theorem isSeal_any (n : Nat) (hn : n ≤ 300000) (w : World) : Calls Tryz.prog 250 #[.agg #[.int .i64 (markI n), .int .i64 0, .int .i64 0], .int .i64 n] w fun e w' => e = .returned (.bool true) ∧ Below w.heap.size w w' := by
 have hm := markSeal_any n hn
 have heq := fun W => eqSeal (markI n) 0 0 W
 generalize markI n = mx at *
 go_enter Tryz.func250, Tryz.ntmps250
 go_wp2_with fail
 go_region_held3 (fun w' => w.heap.size < w'.heap.size ∧ Below w.heap.size w w' ∧ w'.cell? ⟨w.heap.size, 0, none⟩ = some (.int .i64 mx) ∧ w'.cell? ⟨w.heap.size, 1, none⟩ = some (.int .i64 0) ∧ w'.cell? ⟨w.heap.size, 2, none⟩ = some (.int .i64 0))
  (first | exact ⟨by simp, ((Below.refl _ _).alloc (Nat.le_refl _) _).drew, by simp, by simp, by simp⟩ | exact keepSealC ⟨by simp, ((Below.refl _ _).alloc (Nat.le_refl _) _).drew, by simp, by simp, by simp⟩ hb1 | go_keep)
  (first | (go_at_call 219; refine (hm _).mono ?_; rintro e w1 ⟨rfl, hb1⟩))
 rename_i hS
 go_wp2
 go_ret
 exact ⟨rfl, hS.2.1⟩
theorem eqKey (x0 x1 : Int) (w : World) : (binOp .eql 123 (.agg #[.int .i64 x0, .int .i64 x1]) (.agg #[.int .i64 x0, .int .i64 x1])).run Tryz.prog w = .ok (.bool true) w := by
 rw [run_eql_struct]
 rw [run_equalIn_struct (P := Tryz.prog) w 9999 _ _ _ (by kernel_rfl) (by kernel_rfl)]
 simp only [Program.fieldsOf, Tryz.underlying123]
 simp [Op.eqFields, go_sem]
theorem keepKeyC {w W w1 : World} {x0 x1 : Int} {B : Nat} (h : B < W.heap.size ∧ Below B w W ∧ W.cell? ⟨B, 0, none⟩ = some (.int .i64 x0) ∧ W.cell? ⟨B, 1, none⟩ = some (.int .i64 x1)) (hb : Below W.heap.size W w1) :
    B < w1.heap.size ∧ Below B w w1 ∧ w1.cell? ⟨B, 0, none⟩ = some (.int .i64 x0) ∧ w1.cell? ⟨B, 1, none⟩ = some (.int .i64 x1) := by
 obtain ⟨h0, h1, h2, h3⟩ := h
 have hsz := hb.size
 refine ⟨by omega, h1.trans (hb.mono (by omega)), ?_, ?_⟩
 all_goals (rw [hb.cell h0]; assumption)
theorem isKey_any (n : Nat) (hn : n ≤ 300000) (w : World) : Calls Tryz.prog 251 #[.agg #[.int .i64 (markI n), .int .i64 0], .int .i64 n] w fun e w' => e = .returned (.bool true) ∧ Below w.heap.size w w' := by
 have hm := markKey_any n hn
 have heq := fun W => eqKey (markI n) 0 W
 generalize markI n = mx at *
 go_enter Tryz.func251, Tryz.ntmps251
 go_wp2_with fail
 go_region_held3 (fun w' => w.heap.size < w'.heap.size ∧ Below w.heap.size w w' ∧ w'.cell? ⟨w.heap.size, 0, none⟩ = some (.int .i64 mx) ∧ w'.cell? ⟨w.heap.size, 1, none⟩ = some (.int .i64 0))
  (first | exact ⟨by simp, ((Below.refl _ _).alloc (Nat.le_refl _) _).drew, by simp, by simp⟩ | exact keepKeyC ⟨by simp, ((Below.refl _ _).alloc (Nat.le_refl _) _).drew, by simp, by simp⟩ hb1 | go_keep)
  (first | (go_at_call 220; refine (hm _).mono ?_; rintro e w1 ⟨rfl, hb1⟩))
 rename_i hS
 go_wp2
 go_ret
 exact ⟨rfl, hS.2.1⟩
theorem lookNumber_any (b g n0 m cap : Nat) (V : Nat → Value) (K : Nat → Nat) (hn : n0 + m ≤ 1000) (hK : ∀ i, i < m → K i ≤ 100010) (w : World) (hb : w.cell? ⟨b, 2, none⟩ = some (.slice (some ⟨g, 0, none⟩) m cap))
    (h : HeldR 199 3 1 w g n0 m V K (fun i => marksV (mkNumber (n0 + i)) (K i))) :
    Calls Tryz.prog 137 #[.pointer (some ⟨b, 0, none⟩)] w fun e w' => e = .returned (.bool true) ∧ Below w.heap.size w w' := by
 have H := hQ h
 have HK := hQ hK
 have hmI : (m : Int) ≤ 1000 := by omega
 clear h hK
 go_enter Tryz.func137, Tryz.ntmps137
 go_wp2
 go_loopw [12] (fun i wr => LookRel m w i wr) (fun i _ => m - (intOf i).toNat)
 case atStart => exact ⟨0, Nat.zero_le _, rfl, Below.refl _ _⟩
 case round =>
  obtain ⟨k, hk, rfl, hbr⟩ := hrel
  have Hbr := hQ hbr
  by_cases hlt : k < m
  · have hh := H.out.kept (Turned.new (fun _ => False) hbr) (fun _ _ h => h)
    obtain ⟨d0, d1, _, hgl⟩ := hh.cells hlt
    have hown : wr.ownsRow 0 3 1 (V k) (K k) (marksV (mkNumber (n0 + k)) (K k)) := hh.own k hlt
    have hl := HK.out k hlt
    obtain ⟨nk, hnk⟩ : ∃ nk, nk = n0 + k := ⟨_, rfl⟩
    rw [← hnk] at d1 hown
    have hnk1 : nk ≤ 1000 := by omega
    have hnkI : (nk : Int) ≤ 1000 := by omega
    obtain ⟨a, c, hv⟩ := hh.slice hlt
    rw [hv] at d0 hown
    generalize K k = n at d0 hown hl
    have Hown := hQ hown
    have hkI : (k : Int) < m := by omega
    have hlI : (n : Int) ≤ 100010 := by omega
    clear hbr hh hv hown hnk
    go_wp2
    obtain ⟨wh, hwh⟩ : ∃ wh, wh = wr.alloc (.cells #[.slice a n c, .int .i64 nk] 199) := ⟨_, rfl⟩
    rw [← hwh]
    obtain ⟨p, hp⟩ : ∃ p, p = wr.heap.size := ⟨_, rfl⟩
    have hwsz : wh.heap.size = p + 1 := by rw [hwh, hp]; simp
    have h1c : wh.cell? ⟨p, 1, none⟩ = some (.int .i64 nk) := by rw [hwh, hp, cRw (rAl _ _ _)]; rfl
    rw [← hp]
    have Hown' := hQ (show wh.ownsRow 0 3 1 (.slice a n c) n (marksV (mkNumber nk) n) by rw [hwh]; exact oKp Hown.out (Turned.new (fun _ => False) ((Below.refl _ _).alloc (Nat.le_refl _) _)) (fun _ _ h => h))
    have Hb' := hQ (show Below w.heap.size w wh by rw [hwh]; exact Hbr.out.alloc Hbr.out.size _)
    clear hwh hp d0 d1
    go_loopw [19] (fun i wq => LookRel n wh i wq) (fun i _ => n - (intOf i).toNat)
    case atStart => exact ⟨0, Nat.zero_le _, rfl, Below.refl _ _⟩
    case round =>
     obtain ⟨j, hj, rfl, hbq⟩ := hrel
     have Hbq := hQ hbq
     by_cases hjl : j < n
     · obtain ⟨r, rfl, hcs⟩ := own_marks (oKp Hown'.out (Turned.new (fun _ => False) hbq) (fun _ _ h => h)) (show (mkNumber nk).length = 1 from rfl) hjl
       have s0 := (hcs 0 (by omega)).trans (show (mkNumber nk)[0]? = some (.int .i64 (markI nk)) from rfl); rw [Nat.add_zero, Nat.mul_one] at s0
       have h1q : wr.cell? ⟨p, 1, none⟩ = some (.int .i64 nk) := (hbq.cell (p := ⟨p, 1, none⟩) (by simp only; omega)).trans h1c
       have hpl : p < wr.heap.size := by have := hbq.size; omega
       have hpne : p ≠ wr.heap.size := by omega
       have hjI : (j : Int) < n := by omega
       have his := isNumber_any nk (by omega)
       generalize markI nk = mx at s0 his
       have His := hQ his
       clear hbq hcs his
       go_wp2_with fail
       refine (His.out _).mono ?_
       rintro e w3 ⟨rfl, hb3⟩
       subst w3
       skip
       clear s0
       go_wp2
       exact ⟨⟨j + 1, by omega, by go_num, Hbq.out⟩, by simp [intOf]; omega⟩
     · obtain rfl : j = n := by omega
       have hjI : ¬ (j : Int) < j := by omega
       clear hbq
       go_wp2
       exact ⟨⟨k + 1, by omega, by go_num, Hb'.out.trans (Hbq.out.mono Hb'.out.size)⟩, by simp [intOf]; omega⟩
  · obtain rfl : k = m := by omega
    have hkI : ¬ (k : Int) < k := by omega
    clear hbr
    go_wp2
    go_ret
    exact ⟨rfl, Hbr.out⟩
theorem lookSeal_any (b g n0 m cap : Nat) (V : Nat → Value) (K : Nat → Nat) (hn : n0 + m ≤ 1000) (hK : ∀ i, i < m → K i ≤ 100010) (w : World) (hb : w.cell? ⟨b, 6, none⟩ = some (.slice (some ⟨g, 0, none⟩) m cap))
    (h : HeldR 196 143 3 w g n0 m V K (fun i => marksV (mkSeal (n0 + i)) (K i))) :
    Calls Tryz.prog 141 #[.pointer (some ⟨b, 0, none⟩)] w fun e w' => e = .returned (.bool true) ∧ Below w.heap.size w w' := by
 have H := hQ h
 have HK := hQ hK
 have hmI : (m : Int) ≤ 1000 := by omega
 clear h hK
 go_enter Tryz.func141, Tryz.ntmps141
 go_wp2
 go_loopw [12] (fun i wr => LookRel m w i wr) (fun i _ => m - (intOf i).toNat)
 case atStart => exact ⟨0, Nat.zero_le _, rfl, Below.refl _ _⟩
 case round =>
  obtain ⟨k, hk, rfl, hbr⟩ := hrel
  have Hbr := hQ hbr
  by_cases hlt : k < m
  · have hh := H.out.kept (Turned.new (fun _ => False) hbr) (fun _ _ h => h)
    obtain ⟨d0, d1, _, hgl⟩ := hh.cells hlt
    have hown : wr.ownsRow 0 143 3 (V k) (K k) (marksV (mkSeal (n0 + k)) (K k)) := hh.own k hlt
    have hl := HK.out k hlt
    obtain ⟨nk, hnk⟩ : ∃ nk, nk = n0 + k := ⟨_, rfl⟩
    rw [← hnk] at d1 hown
    have hnk1 : nk ≤ 1000 := by omega
    have hnkI : (nk : Int) ≤ 1000 := by omega
    obtain ⟨a, c, hv⟩ := hh.slice hlt
    rw [hv] at d0 hown
    generalize K k = n at d0 hown hl
    have Hown := hQ hown
    have hkI : (k : Int) < m := by omega
    have hlI : (n : Int) ≤ 100010 := by omega
    clear hbr hh hv hown hnk
    go_wp2
    obtain ⟨wh, hwh⟩ : ∃ wh, wh = wr.alloc (.cells #[.slice a n c, .int .i64 nk] 196) := ⟨_, rfl⟩
    rw [← hwh]
    obtain ⟨p, hp⟩ : ∃ p, p = wr.heap.size := ⟨_, rfl⟩
    have hwsz : wh.heap.size = p + 1 := by rw [hwh, hp]; simp
    have h1c : wh.cell? ⟨p, 1, none⟩ = some (.int .i64 nk) := by rw [hwh, hp, cRw (rAl _ _ _)]; rfl
    rw [← hp]
    have Hown' := hQ (show wh.ownsRow 0 143 3 (.slice a n c) n (marksV (mkSeal nk) n) by rw [hwh]; exact oKp Hown.out (Turned.new (fun _ => False) ((Below.refl _ _).alloc (Nat.le_refl _) _)) (fun _ _ h => h))
    have Hb' := hQ (show Below w.heap.size w wh by rw [hwh]; exact Hbr.out.alloc Hbr.out.size _)
    clear hwh hp d0 d1
    go_loopw [19] (fun i wq => LookRel n wh i wq) (fun i _ => n - (intOf i).toNat)
    case atStart => exact ⟨0, Nat.zero_le _, rfl, Below.refl _ _⟩
    case round =>
     obtain ⟨j, hj, rfl, hbq⟩ := hrel
     have Hbq := hQ hbq
     by_cases hjl : j < n
     · obtain ⟨r, rfl, hcs⟩ := own_marks (oKp Hown'.out (Turned.new (fun _ => False) hbq) (fun _ _ h => h)) (show (mkSeal nk).length = 3 from rfl) hjl
       have s0 := (hcs 0 (by omega)).trans (show (mkSeal nk)[0]? = some (.int .i64 (markI nk)) from rfl); rw [Nat.add_zero] at s0; have s1 := (hcs 1 (by omega)).trans (show (mkSeal nk)[1]? = some (.int .i64 0) from rfl); have s2 := (hcs 2 (by omega)).trans (show (mkSeal nk)[2]? = some (.int .i64 0) from rfl)
       have h1q : wr.cell? ⟨p, 1, none⟩ = some (.int .i64 nk) := (hbq.cell (p := ⟨p, 1, none⟩) (by simp only; omega)).trans h1c
       have hpl : p < wr.heap.size := by have := hbq.size; omega
       have hpne : p ≠ wr.heap.size := by omega
       have hjI : (j : Int) < n := by omega
       have his := isSeal_any nk (by omega)
       generalize markI nk = mx at s0 his
       have His := hQ his
       clear hbq hcs his
       go_wp2_with fail
       refine (His.out _).mono ?_
       rintro e w3 ⟨rfl, hb3⟩
       have Hb3 := hQ hb3
       clear hb3
       clear s0 s1 s2
       go_wp2
       exact ⟨⟨j + 1, by omega, by go_num, ((Hbq.out.alloc Hbq.out.size _).trans (Hb3.out.mono (by rw [size_alloc'']; have := Hbq.out.size; omega)))⟩, by simp [intOf]; omega⟩
     · obtain rfl : j = n := by omega
       have hjI : ¬ (j : Int) < j := by omega
       clear hbq
       go_wp2
       exact ⟨⟨k + 1, by omega, by go_num, Hb'.out.trans (Hbq.out.mono Hb'.out.size)⟩, by simp [intOf]; omega⟩
  · obtain rfl : k = m := by omega
    have hkI : ¬ (k : Int) < k := by omega
    clear hbr
    go_wp2
    go_ret
    exact ⟨rfl, Hbr.out⟩
theorem lookKey_any (b g n0 m cap : Nat) (V : Nat → Value) (K : Nat → Nat) (hn : n0 + m ≤ 1000) (hK : ∀ i, i < m → K i ≤ 100010) (w : World) (hb : w.cell? ⟨b, 7, none⟩ = some (.slice (some ⟨g, 0, none⟩) m cap))
    (h : HeldR 194 123 2 w g n0 m V K (fun i => marksV (mkKey (n0 + i)) (K i))) :
    Calls Tryz.prog 142 #[.pointer (some ⟨b, 0, none⟩)] w fun e w' => e = .returned (.bool true) ∧ Below w.heap.size w w' := by
 have H := hQ h
 have HK := hQ hK
 have hmI : (m : Int) ≤ 1000 := by omega
 clear h hK
 go_enter Tryz.func142, Tryz.ntmps142
 go_wp2
 go_loopw [12] (fun i wr => LookRel m w i wr) (fun i _ => m - (intOf i).toNat)
 case atStart => exact ⟨0, Nat.zero_le _, rfl, Below.refl _ _⟩
 case round =>
  obtain ⟨k, hk, rfl, hbr⟩ := hrel
  have Hbr := hQ hbr
  by_cases hlt : k < m
  · have hh := H.out.kept (Turned.new (fun _ => False) hbr) (fun _ _ h => h)
    obtain ⟨d0, d1, _, hgl⟩ := hh.cells hlt
    have hown : wr.ownsRow 0 123 2 (V k) (K k) (marksV (mkKey (n0 + k)) (K k)) := hh.own k hlt
    have hl := HK.out k hlt
    obtain ⟨nk, hnk⟩ : ∃ nk, nk = n0 + k := ⟨_, rfl⟩
    rw [← hnk] at d1 hown
    have hnk1 : nk ≤ 1000 := by omega
    have hnkI : (nk : Int) ≤ 1000 := by omega
    obtain ⟨a, c, hv⟩ := hh.slice hlt
    rw [hv] at d0 hown
    generalize K k = n at d0 hown hl
    have Hown := hQ hown
    have hkI : (k : Int) < m := by omega
    have hlI : (n : Int) ≤ 100010 := by omega
    clear hbr hh hv hown hnk
    go_wp2
    obtain ⟨wh, hwh⟩ : ∃ wh, wh = wr.alloc (.cells #[.slice a n c, .int .i64 nk] 194) := ⟨_, rfl⟩
    rw [← hwh]
    obtain ⟨p, hp⟩ : ∃ p, p = wr.heap.size := ⟨_, rfl⟩
    have hwsz : wh.heap.size = p + 1 := by rw [hwh, hp]; simp
    have h1c : wh.cell? ⟨p, 1, none⟩ = some (.int .i64 nk) := by rw [hwh, hp, cRw (rAl _ _ _)]; rfl
    rw [← hp]
    have Hown' := hQ (show wh.ownsRow 0 123 2 (.slice a n c) n (marksV (mkKey nk) n) by rw [hwh]; exact oKp Hown.out (Turned.new (fun _ => False) ((Below.refl _ _).alloc (Nat.le_refl _) _)) (fun _ _ h => h))
    have Hb' := hQ (show Below w.heap.size w wh by rw [hwh]; exact Hbr.out.alloc Hbr.out.size _)
    clear hwh hp d0 d1
    go_loopw [19] (fun i wq => LookRel n wh i wq) (fun i _ => n - (intOf i).toNat)
    case atStart => exact ⟨0, Nat.zero_le _, rfl, Below.refl _ _⟩
    case round =>
     obtain ⟨j, hj, rfl, hbq⟩ := hrel
     have Hbq := hQ hbq
     by_cases hjl : j < n
     · obtain ⟨r, rfl, hcs⟩ := own_marks (oKp Hown'.out (Turned.new (fun _ => False) hbq) (fun _ _ h => h)) (show (mkKey nk).length = 2 from rfl) hjl
       have s0 := (hcs 0 (by omega)).trans (show (mkKey nk)[0]? = some (.int .i64 (markI nk)) from rfl); rw [Nat.add_zero] at s0; have s1 := (hcs 1 (by omega)).trans (show (mkKey nk)[1]? = some (.int .i64 0) from rfl)
       have h1q : wr.cell? ⟨p, 1, none⟩ = some (.int .i64 nk) := (hbq.cell (p := ⟨p, 1, none⟩) (by simp only; omega)).trans h1c
       have hpl : p < wr.heap.size := by have := hbq.size; omega
       have hpne : p ≠ wr.heap.size := by omega
       have hjI : (j : Int) < n := by omega
       have his := isKey_any nk (by omega)
       generalize markI nk = mx at s0 his
       have His := hQ his
       clear hbq hcs his
       go_wp2_with fail
       refine (His.out _).mono ?_
       rintro e w3 ⟨rfl, hb3⟩
       have Hb3 := hQ hb3
       clear hb3
       clear s0 s1
       go_wp2
       exact ⟨⟨j + 1, by omega, by go_num, ((Hbq.out.alloc Hbq.out.size _).trans (Hb3.out.mono (by rw [size_alloc'']; have := Hbq.out.size; omega)))⟩, by simp [intOf]; omega⟩
     · obtain rfl : j = n := by omega
       have hjI : ¬ (j : Int) < j := by omega
       clear hbq
       go_wp2
       exact ⟨⟨k + 1, by omega, by go_num, Hb'.out.trans (Hbq.out.mono Hb'.out.size)⟩, by simp [intOf]; omega⟩
  · obtain rfl : k = m := by omega
    have hkI : ¬ (k : Int) < k := by omega
    clear hbr
    go_wp2
    go_ret
    exact ⟨rfl, Hbr.out⟩
theorem lookNode_any (b g n0 m cap : Nat) (V : Nat → Value) (K : Nat → Nat) (hn : n0 + m ≤ 1000) (hK : ∀ i, i < m → K i ≤ 100010) (w : World) (hb : w.cell? ⟨b, 19, none⟩ = some (.slice (some ⟨g, 0, none⟩) m cap))
    (h : HeldR 296 125 4 w g n0 m V K (fun i => marksV (mkNode (n0 + i)) (K i))) :
    Calls Tryz.prog 154 #[.pointer (some ⟨b, 0, none⟩)] w fun e w' => e = .returned (.bool true) ∧ Below w.heap.size w w' := by
 have H := hQ h
 have HK := hQ hK
 have hmI : (m : Int) ≤ 1000 := by omega
 clear h hK
 go_enter Tryz.func154, Tryz.ntmps154
 go_wp2
 go_loopw [12] (fun i wr => LookRel m w i wr) (fun i _ => m - (intOf i).toNat)
 case atStart => exact ⟨0, Nat.zero_le _, rfl, Below.refl _ _⟩
 case round =>
  obtain ⟨k, hk, rfl, hbr⟩ := hrel
  have Hbr := hQ hbr
  by_cases hlt : k < m
  · have hh := H.out.kept (Turned.new (fun _ => False) hbr) (fun _ _ h => h)
    obtain ⟨d0, d1, _, hgl⟩ := hh.cells hlt
    have hown : wr.ownsRow 0 125 4 (V k) (K k) (marksV (mkNode (n0 + k)) (K k)) := hh.own k hlt
    have hl := HK.out k hlt
    obtain ⟨nk, hnk⟩ : ∃ nk, nk = n0 + k := ⟨_, rfl⟩
    rw [← hnk] at d1 hown
    have hnk1 : nk ≤ 1000 := by omega
    have hnkI : (nk : Int) ≤ 1000 := by omega
    obtain ⟨a, c, hv⟩ := hh.slice hlt
    rw [hv] at d0 hown
    generalize K k = n at d0 hown hl
    have Hown := hQ hown
    have hkI : (k : Int) < m := by omega
    have hlI : (n : Int) ≤ 100010 := by omega
    clear hbr hh hv hown hnk
    go_wp2
    obtain ⟨wh, hwh⟩ : ∃ wh, wh = wr.alloc (.cells #[.slice a n c, .int .i64 nk] 296) := ⟨_, rfl⟩
    rw [← hwh]
    obtain ⟨p, hp⟩ : ∃ p, p = wr.heap.size := ⟨_, rfl⟩
    have hwsz : wh.heap.size = p + 1 := by rw [hwh, hp]; simp
    have h1c : wh.cell? ⟨p, 1, none⟩ = some (.int .i64 nk) := by rw [hwh, hp, cRw (rAl _ _ _)]; rfl
    rw [← hp]
    have Hown' := hQ (show wh.ownsRow 0 125 4 (.slice a n c) n (marksV (mkNode nk) n) by rw [hwh]; exact oKp Hown.out (Turned.new (fun _ => False) ((Below.refl _ _).alloc (Nat.le_refl _) _)) (fun _ _ h => h))
    have Hb' := hQ (show Below w.heap.size w wh by rw [hwh]; exact Hbr.out.alloc Hbr.out.size _)
    clear hwh hp d0 d1
    go_loopw [19] (fun i wq => LookRel n wh i wq) (fun i _ => n - (intOf i).toNat)
    case atStart => exact ⟨0, Nat.zero_le _, rfl, Below.refl _ _⟩
    case round =>
     obtain ⟨j, hj, rfl, hbq⟩ := hrel
     have Hbq := hQ hbq
     by_cases hjl : j < n
     · obtain ⟨r, rfl, hcs⟩ := own_marks (oKp Hown'.out (Turned.new (fun _ => False) hbq) (fun _ _ h => h)) (show (mkNode nk).length = 4 from rfl) hjl
       have s0 := (hcs 0 (by omega)).trans (show (mkNode nk)[0]? = some (.int .i64 (markI nk)) from rfl); rw [Nat.add_zero] at s0; have s1 := (hcs 1 (by omega)).trans (show (mkNode nk)[1]? = some (.int .i64 0) from rfl); have s2 := (hcs 2 (by omega)).trans (show (mkNode nk)[2]? = some (.int .i64 0) from rfl); have s3 := (hcs 3 (by omega)).trans (show (mkNode nk)[3]? = some (.slice none 0 0) from rfl)
       have h1q : wr.cell? ⟨p, 1, none⟩ = some (.int .i64 nk) := (hbq.cell (p := ⟨p, 1, none⟩) (by simp only; omega)).trans h1c
       have hpl : p < wr.heap.size := by have := hbq.size; omega
       have hpne : p ≠ wr.heap.size := by omega
       have hjI : (j : Int) < n := by omega
       have his := isNode_any nk (by omega) 0 0
       generalize markI nk = mx at s0 his
       have His := hQ his
       clear hbq hcs his
       go_wp2_with fail
       refine (His.out _).mono ?_
       rintro e w3 ⟨rfl, hb3⟩
       have Hb3 := hQ hb3
       clear hb3
       clear s0 s1 s2 s3
       go_wp2
       exact ⟨⟨j + 1, by omega, by go_num, ((Hbq.out.alloc Hbq.out.size _).trans (Hb3.out.mono (by rw [size_alloc'']; have := Hbq.out.size; omega)))⟩, by simp [intOf]; omega⟩
     · obtain rfl : j = n := by omega
       have hjI : ¬ (j : Int) < j := by omega
       clear hbq
       go_wp2
       exact ⟨⟨k + 1, by omega, by go_num, Hb'.out.trans (Hbq.out.mono Hb'.out.size)⟩, by simp [intOf]; omega⟩
  · obtain rfl : k = m := by omega
    have hkI : ¬ (k : Int) < k := by omega
    clear hbr
    go_wp2
    go_ret
    exact ⟨rfl, Hbr.out⟩
end
end Go.Proofs.YtedpljclnpiggaaGreatDoor
