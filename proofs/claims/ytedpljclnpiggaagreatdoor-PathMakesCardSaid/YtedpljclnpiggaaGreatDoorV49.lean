/- phratrylaw01's Book: a list put behind the held ones. -/
import Derived.Test.YtedpljclnpiggaaGreatDoorV48
import Derived.Deep.RegionHeld3
import Derived.Deep.RegionLaw
import Derived.Deep.AppendLies
set_option linter.unusedVariables false
set_option linter.unusedSimpArgs false
set_option maxRecDepth 100000
set_option maxHeartbeats 12800000
namespace Go.Proofs.YtedpljclnpiggaaGreatDoor
open Go Go.RowKit
theorem own_base' {w : World} {B : Nat} {e : TypeId} {size n : Nat} {v : Value} {xs : List Value} (h : w.ownsRow B e size v n xs) : ∀ k, v.ownBlock = some k → B ≤ k := by
 intro k hk
 rcases h.2 with ⟨rfl, _⟩ | ⟨g, cap, cur, rfl, h2, _⟩
 · cases hk
 · obtain rfl : g = k := by simpa [Value.ownBlock] using hk
   exact h2
theorem bkInfoHNumber : (Tryz.prog.info? 199).map (fun i => (i.zero, i.size, i.bytes)) = some (some (.agg #[.slice none 0 0, .int .i64 0]), 2, 32) := by kernel_rfl
theorem bkeepNumber_any (b n m : Nat) (hn : n ≤ 100000) (hm : m ≤ 100000) (v : Nat → Value) (xs : List Value) (a : Option Addr) (len c : Nat) (w : World) (hb : BookM w b n v) (hown : w.ownsRow (b + 1) 199 2 (v 0) m xs) :
    Calls Tryz.prog 324 #[.pointer (some ⟨b, 0, none⟩), .slice a len c] w fun e w' => e = .returned (.tuple #[]) ∧ ∃ lv, BookM w' b ((n : Int) + 1) (updF v 0 lv) ∧ w'.ownsRow (b + 1) 199 2 lv (m + 1) (xs ++ [.slice a len c, .int .i64 (n : Nat)]) ∧ Turned (fun k => k = b ∨ (v 0).ownBlock = some k) w w' ∧ ∀ g, lv.ownBlock = some g → (v 0).ownBlock = some g ∨ w.heap.size ≤ g := by
 obtain ⟨i0, hi0, hz0, hz1, hz2⟩ := info_parts bkInfoHNumber
 have hlt : b < w.heap.size := (Array.getElem?_eq_some_iff.1 hb).1
 have c0 : w.cell? ⟨b, 0, none⟩ = some (.int .i64 n) := (cRw hb 0).trans rfl
 have cc : w.cell? ⟨b, 2, none⟩ = some (v 0) := (cRw hb 2).trans rfl
 have z0 := fRw hb 0
 have zc := fRw hb 2
 have Hown := hQ hown
 have Hb := hQ hb
 obtain ⟨vj, hvj⟩ : ∃ vj, vj = v 0 := ⟨_, rfl⟩
 rw [← hvj] at cc
 have Hvj := hQ hvj
 have hnI : (n : Int) ≤ 100000 := by omega
 clear hown hb hvj
 go_enter Tryz.func324, Tryz.ntmps324
 go_wp2_with fail
 go_region_law (go_loud (refine step_append_lies _ rfl (.tmp 8) (.tmp 15) 62 rfl (b + 1) 199 i0 (.agg #[.slice none 0 0, .int .i64 0]) 2 32 Tryz.underlying62 hi0 hz0 hz1 hz2 rfl (by decide) vj m xs (by simp [Act.eval, Act.put]) (by rw [Hvj.out]; exact Hown.out.alloc _) ⟨w.heap.size, 0, none⟩ 1 1 [.slice a len c, .int .i64 (n : Nat)] (by simp [Act.eval, Act.put]) rfl (cells_new w [.slice a len c, .int .i64 (n : Nat)] 199) (by intro u hu; simp at hu; rcases hu with rfl | rfl <;> rfl) (by omega) (by unfold maxLen; omega) (by omega) (by simp; omega) (w.heap.size + 1) (by simp) ?_); intro g cap w5 hown' hgrow hat hglt; have hgb : ¬ some b = vj.ownBlock := (fun e => (by have := own_base' Hown.out b (by rw [← Hvj.out]; exact e.symm); omega)); have hb5 : BookM w5 b n v := (hgrow.block b (Nat.lt_of_lt_of_le hlt (by simp)) hgb).trans ((heap_alloc_old _ _ hlt).trans Hb.out); have c0' : w5.cell? ⟨b, 0, none⟩ = some (.int .i64 n) := (cRw hb5 0).trans rfl; have cc' : w5.cell? ⟨b, 2, none⟩ = some vj := (cRw hb5 2).trans (by rw [Hvj.out]; rfl); have zc' := fRw hb5 2; have z0' := fRw hb5 0; have Hb5 := hQ hb5; clear hb5 hgb)
 all_goals
  have hb6 : BookM (w5.setCell ⟨b, 2, none⟩ (.slice (some ⟨g, 0, none⟩) (m + 1) cap)) b n (updF v 0 (.slice (some ⟨g, 0, none⟩) (m + 1) cap)) := rSc Hb5.out 2 _
  have hown6 : (w5.setCell ⟨b, 2, none⟩ (.slice (some ⟨g, 0, none⟩) (m + 1) cap)).ownsRow (b + 1) 199 2 (.slice (some ⟨g, 0, none⟩) (m + 1) cap) (m + 1) (xs ++ [.slice a len c, .int .i64 (n : Nat)]) := ownsRow_setCell_below hown' (by simp) _
  have hT6 : Turned (fun k => k = b ∨ (v 0).ownBlock = some k) w (w5.setCell ⟨b, 2, none⟩ (.slice (some ⟨g, 0, none⟩) (m + 1) cap)) := ((Turned.new _ ((Below.refl w.heap.size w).alloc (Nat.le_refl _) (.cells #[.slice a len c, .int .i64 n] 199))).drew.grown hgrow (fun k _ e => .inr (by rw [← Hvj.out]; exact e))).setCell (fun _ => .inl rfl) _
  have hat6 : ∀ g2, (Value.slice (some ⟨g, 0, none⟩) (m + 1) cap).ownBlock = some g2 → (v 0).ownBlock = some g2 ∨ w.heap.size ≤ g2 := fun g2 e => by
   obtain rfl : g = g2 := by simpa [Value.ownBlock] using e
   rcases hat with h | h
   · exact .inl (by rw [← Hvj.out]; exact h)
   · exact .inr (by rw [h]; simp)
  generalize w5.setCell ⟨b, 2, none⟩ (.slice (some ⟨g, 0, none⟩) (m + 1) cap) = w6 at hb6 hown6 hT6 ⊢
  have c06 : w6.cell? ⟨b, 0, none⟩ = some (.int .i64 n) := (cRw hb6 0).trans rfl
  have z06 := fRw hb6 0
  have Hb6 := hQ hb6; clear hb6
  have Hown6 := hQ hown6; clear hown6
  have HT6 := hQ hT6; clear hT6
  have Hat6 := hQ hat6; clear hat6
  clear hown' hgrow hat c0' cc' zc' z0' c0 cc z0 zc
  go_wp2
  go_end0
  exact ⟨rfl, _, rSc Hb6.out 0 _, ownsRow_setCell_below Hown6.out (by simp) _, HT6.out.setCell (fun _ => .inl rfl) _, Hat6.out⟩
theorem bNumbers_any (b n m : Nat) (hn : n ≤ 100000) (hm : m ≤ 100000) (v : Nat → Value) (xs : List Value) (a : Option Addr) (len c : Nat) (w : World) (hb : BookM w b n v) (hown : w.ownsRow (b + 1) 199 2 (v 0) m xs) :
    Calls Tryz.prog 302 #[.pointer (some ⟨b, 0, none⟩), .slice a len c] w fun e w' => e = .returned (.tuple #[]) ∧ ∃ lv, BookM w' b ((n : Int) + 1) (updF v 0 lv) ∧ w'.ownsRow (b + 1) 199 2 lv (m + 1) (xs ++ [.slice a len c, .int .i64 (n : Nat)]) ∧ Turned (fun k => k = b ∨ (v 0).ownBlock = some k) w w' ∧ ∀ g, lv.ownBlock = some g → (v 0).ownBlock = some g ∨ w.heap.size ≤ g := by
 have hk := bkeepNumber_any b n m hn hm v xs a len c w hb hown
 have Hk := hQ hk
 clear hk hb hown
 go_enter Tryz.func302, Tryz.ntmps302
 go_wp2_with fail
 refine Hk.out.mono ?_
 rintro e w1 ⟨rfl, h1⟩
 have H1 := hQ h1; clear h1
 go_wp2
 go_end0
 exact ⟨rfl, H1.out⟩
theorem bkInfoHSeal : (Tryz.prog.info? 196).map (fun i => (i.zero, i.size, i.bytes)) = some (some (.agg #[.slice none 0 0, .int .i64 0]), 2, 32) := by kernel_rfl
theorem bkeepSeal_any (b n m : Nat) (hn : n ≤ 100000) (hm : m ≤ 100000) (v : Nat → Value) (xs : List Value) (a : Option Addr) (len c : Nat) (w : World) (hb : BookM w b n v) (hown : w.ownsRow (b + 1) 196 2 (v 1) m xs) :
    Calls Tryz.prog 69 #[.pointer (some ⟨b, 0, none⟩), .slice a len c] w fun e w' => e = .returned (.tuple #[]) ∧ ∃ lv, BookM w' b ((n : Int) + 1) (updF v 1 lv) ∧ w'.ownsRow (b + 1) 196 2 lv (m + 1) (xs ++ [.slice a len c, .int .i64 (n : Nat)]) ∧ Turned (fun k => k = b ∨ (v 1).ownBlock = some k) w w' ∧ ∀ g, lv.ownBlock = some g → (v 1).ownBlock = some g ∨ w.heap.size ≤ g := by
 obtain ⟨i0, hi0, hz0, hz1, hz2⟩ := info_parts bkInfoHSeal
 have hlt : b < w.heap.size := (Array.getElem?_eq_some_iff.1 hb).1
 have c0 : w.cell? ⟨b, 0, none⟩ = some (.int .i64 n) := (cRw hb 0).trans rfl
 have cc : w.cell? ⟨b, 6, none⟩ = some (v 1) := (cRw hb 6).trans rfl
 have z0 := fRw hb 0
 have zc := fRw hb 6
 have Hown := hQ hown
 have Hb := hQ hb
 obtain ⟨vj, hvj⟩ : ∃ vj, vj = v 1 := ⟨_, rfl⟩
 rw [← hvj] at cc
 have Hvj := hQ hvj
 have hnI : (n : Int) ≤ 100000 := by omega
 clear hown hb hvj
 go_enter Tryz.func69, Tryz.ntmps69
 go_wp2_with fail
 go_region_law (go_loud (refine step_append_lies _ rfl (.tmp 8) (.tmp 15) 66 rfl (b + 1) 196 i0 (.agg #[.slice none 0 0, .int .i64 0]) 2 32 Tryz.underlying66 hi0 hz0 hz1 hz2 rfl (by decide) vj m xs (by simp [Act.eval, Act.put]) (by rw [Hvj.out]; exact Hown.out.alloc _) ⟨w.heap.size, 0, none⟩ 1 1 [.slice a len c, .int .i64 (n : Nat)] (by simp [Act.eval, Act.put]) rfl (cells_new w [.slice a len c, .int .i64 (n : Nat)] 196) (by intro u hu; simp at hu; rcases hu with rfl | rfl <;> rfl) (by omega) (by unfold maxLen; omega) (by omega) (by simp; omega) (w.heap.size + 1) (by simp) ?_); intro g cap w5 hown' hgrow hat hglt; have hgb : ¬ some b = vj.ownBlock := (fun e => (by have := own_base' Hown.out b (by rw [← Hvj.out]; exact e.symm); omega)); have hb5 : BookM w5 b n v := (hgrow.block b (Nat.lt_of_lt_of_le hlt (by simp)) hgb).trans ((heap_alloc_old _ _ hlt).trans Hb.out); have c0' : w5.cell? ⟨b, 0, none⟩ = some (.int .i64 n) := (cRw hb5 0).trans rfl; have cc' : w5.cell? ⟨b, 6, none⟩ = some vj := (cRw hb5 6).trans (by rw [Hvj.out]; rfl); have zc' := fRw hb5 6; have z0' := fRw hb5 0; have Hb5 := hQ hb5; clear hb5 hgb)
 all_goals
  have hb6 : BookM (w5.setCell ⟨b, 6, none⟩ (.slice (some ⟨g, 0, none⟩) (m + 1) cap)) b n (updF v 1 (.slice (some ⟨g, 0, none⟩) (m + 1) cap)) := rSc Hb5.out 6 _
  have hown6 : (w5.setCell ⟨b, 6, none⟩ (.slice (some ⟨g, 0, none⟩) (m + 1) cap)).ownsRow (b + 1) 196 2 (.slice (some ⟨g, 0, none⟩) (m + 1) cap) (m + 1) (xs ++ [.slice a len c, .int .i64 (n : Nat)]) := ownsRow_setCell_below hown' (by simp) _
  have hT6 : Turned (fun k => k = b ∨ (v 1).ownBlock = some k) w (w5.setCell ⟨b, 6, none⟩ (.slice (some ⟨g, 0, none⟩) (m + 1) cap)) := ((Turned.new _ ((Below.refl w.heap.size w).alloc (Nat.le_refl _) (.cells #[.slice a len c, .int .i64 n] 196))).drew.grown hgrow (fun k _ e => .inr (by rw [← Hvj.out]; exact e))).setCell (fun _ => .inl rfl) _
  have hat6 : ∀ g2, (Value.slice (some ⟨g, 0, none⟩) (m + 1) cap).ownBlock = some g2 → (v 1).ownBlock = some g2 ∨ w.heap.size ≤ g2 := fun g2 e => by
   obtain rfl : g = g2 := by simpa [Value.ownBlock] using e
   rcases hat with h | h
   · exact .inl (by rw [← Hvj.out]; exact h)
   · exact .inr (by rw [h]; simp)
  generalize w5.setCell ⟨b, 6, none⟩ (.slice (some ⟨g, 0, none⟩) (m + 1) cap) = w6 at hb6 hown6 hT6 ⊢
  have c06 : w6.cell? ⟨b, 0, none⟩ = some (.int .i64 n) := (cRw hb6 0).trans rfl
  have z06 := fRw hb6 0
  have Hb6 := hQ hb6; clear hb6
  have Hown6 := hQ hown6; clear hown6
  have HT6 := hQ hT6; clear hT6
  have Hat6 := hQ hat6; clear hat6
  clear hown' hgrow hat c0' cc' zc' z0' c0 cc z0 zc
  go_wp2
  go_end0
  exact ⟨rfl, _, rSc Hb6.out 0 _, ownsRow_setCell_below Hown6.out (by simp) _, HT6.out.setCell (fun _ => .inl rfl) _, Hat6.out⟩
theorem bSeals_any (b n m : Nat) (hn : n ≤ 100000) (hm : m ≤ 100000) (v : Nat → Value) (xs : List Value) (a : Option Addr) (len c : Nat) (w : World) (hb : BookM w b n v) (hown : w.ownsRow (b + 1) 196 2 (v 1) m xs) :
    Calls Tryz.prog 30 #[.pointer (some ⟨b, 0, none⟩), .slice a len c] w fun e w' => e = .returned (.tuple #[]) ∧ ∃ lv, BookM w' b ((n : Int) + 1) (updF v 1 lv) ∧ w'.ownsRow (b + 1) 196 2 lv (m + 1) (xs ++ [.slice a len c, .int .i64 (n : Nat)]) ∧ Turned (fun k => k = b ∨ (v 1).ownBlock = some k) w w' ∧ ∀ g, lv.ownBlock = some g → (v 1).ownBlock = some g ∨ w.heap.size ≤ g := by
 have hk := bkeepSeal_any b n m hn hm v xs a len c w hb hown
 have Hk := hQ hk
 clear hk hb hown
 go_enter Tryz.func30, Tryz.ntmps30
 go_wp2_with fail
 refine Hk.out.mono ?_
 rintro e w1 ⟨rfl, h1⟩
 have H1 := hQ h1; clear h1
 go_wp2
 go_end0
 exact ⟨rfl, H1.out⟩
theorem bkInfoHKey : (Tryz.prog.info? 194).map (fun i => (i.zero, i.size, i.bytes)) = some (some (.agg #[.slice none 0 0, .int .i64 0]), 2, 32) := by kernel_rfl
theorem bkeepKey_any (b n m : Nat) (hn : n ≤ 100000) (hm : m ≤ 100000) (v : Nat → Value) (xs : List Value) (a : Option Addr) (len c : Nat) (w : World) (hb : BookM w b n v) (hown : w.ownsRow (b + 1) 194 2 (v 2) m xs) :
    Calls Tryz.prog 68 #[.pointer (some ⟨b, 0, none⟩), .slice a len c] w fun e w' => e = .returned (.tuple #[]) ∧ ∃ lv, BookM w' b ((n : Int) + 1) (updF v 2 lv) ∧ w'.ownsRow (b + 1) 194 2 lv (m + 1) (xs ++ [.slice a len c, .int .i64 (n : Nat)]) ∧ Turned (fun k => k = b ∨ (v 2).ownBlock = some k) w w' ∧ ∀ g, lv.ownBlock = some g → (v 2).ownBlock = some g ∨ w.heap.size ≤ g := by
 obtain ⟨i0, hi0, hz0, hz1, hz2⟩ := info_parts bkInfoHKey
 have hlt : b < w.heap.size := (Array.getElem?_eq_some_iff.1 hb).1
 have c0 : w.cell? ⟨b, 0, none⟩ = some (.int .i64 n) := (cRw hb 0).trans rfl
 have cc : w.cell? ⟨b, 7, none⟩ = some (v 2) := (cRw hb 7).trans rfl
 have z0 := fRw hb 0
 have zc := fRw hb 7
 have Hown := hQ hown
 have Hb := hQ hb
 obtain ⟨vj, hvj⟩ : ∃ vj, vj = v 2 := ⟨_, rfl⟩
 rw [← hvj] at cc
 have Hvj := hQ hvj
 have hnI : (n : Int) ≤ 100000 := by omega
 clear hown hb hvj
 go_enter Tryz.func68, Tryz.ntmps68
 go_wp2_with fail
 go_region_law (go_loud (refine step_append_lies _ rfl (.tmp 8) (.tmp 15) 67 rfl (b + 1) 194 i0 (.agg #[.slice none 0 0, .int .i64 0]) 2 32 Tryz.underlying67 hi0 hz0 hz1 hz2 rfl (by decide) vj m xs (by simp [Act.eval, Act.put]) (by rw [Hvj.out]; exact Hown.out.alloc _) ⟨w.heap.size, 0, none⟩ 1 1 [.slice a len c, .int .i64 (n : Nat)] (by simp [Act.eval, Act.put]) rfl (cells_new w [.slice a len c, .int .i64 (n : Nat)] 194) (by intro u hu; simp at hu; rcases hu with rfl | rfl <;> rfl) (by omega) (by unfold maxLen; omega) (by omega) (by simp; omega) (w.heap.size + 1) (by simp) ?_); intro g cap w5 hown' hgrow hat hglt; have hgb : ¬ some b = vj.ownBlock := (fun e => (by have := own_base' Hown.out b (by rw [← Hvj.out]; exact e.symm); omega)); have hb5 : BookM w5 b n v := (hgrow.block b (Nat.lt_of_lt_of_le hlt (by simp)) hgb).trans ((heap_alloc_old _ _ hlt).trans Hb.out); have c0' : w5.cell? ⟨b, 0, none⟩ = some (.int .i64 n) := (cRw hb5 0).trans rfl; have cc' : w5.cell? ⟨b, 7, none⟩ = some vj := (cRw hb5 7).trans (by rw [Hvj.out]; rfl); have zc' := fRw hb5 7; have z0' := fRw hb5 0; have Hb5 := hQ hb5; clear hb5 hgb)
 all_goals
  have hb6 : BookM (w5.setCell ⟨b, 7, none⟩ (.slice (some ⟨g, 0, none⟩) (m + 1) cap)) b n (updF v 2 (.slice (some ⟨g, 0, none⟩) (m + 1) cap)) := rSc Hb5.out 7 _
  have hown6 : (w5.setCell ⟨b, 7, none⟩ (.slice (some ⟨g, 0, none⟩) (m + 1) cap)).ownsRow (b + 1) 194 2 (.slice (some ⟨g, 0, none⟩) (m + 1) cap) (m + 1) (xs ++ [.slice a len c, .int .i64 (n : Nat)]) := ownsRow_setCell_below hown' (by simp) _
  have hT6 : Turned (fun k => k = b ∨ (v 2).ownBlock = some k) w (w5.setCell ⟨b, 7, none⟩ (.slice (some ⟨g, 0, none⟩) (m + 1) cap)) := ((Turned.new _ ((Below.refl w.heap.size w).alloc (Nat.le_refl _) (.cells #[.slice a len c, .int .i64 n] 194))).drew.grown hgrow (fun k _ e => .inr (by rw [← Hvj.out]; exact e))).setCell (fun _ => .inl rfl) _
  have hat6 : ∀ g2, (Value.slice (some ⟨g, 0, none⟩) (m + 1) cap).ownBlock = some g2 → (v 2).ownBlock = some g2 ∨ w.heap.size ≤ g2 := fun g2 e => by
   obtain rfl : g = g2 := by simpa [Value.ownBlock] using e
   rcases hat with h | h
   · exact .inl (by rw [← Hvj.out]; exact h)
   · exact .inr (by rw [h]; simp)
  generalize w5.setCell ⟨b, 7, none⟩ (.slice (some ⟨g, 0, none⟩) (m + 1) cap) = w6 at hb6 hown6 hT6 ⊢
  have c06 : w6.cell? ⟨b, 0, none⟩ = some (.int .i64 n) := (cRw hb6 0).trans rfl
  have z06 := fRw hb6 0
  have Hb6 := hQ hb6; clear hb6
  have Hown6 := hQ hown6; clear hown6
  have HT6 := hQ hT6; clear hT6
  have Hat6 := hQ hat6; clear hat6
  clear hown' hgrow hat c0' cc' zc' z0' c0 cc z0 zc
  go_wp2
  go_end0
  exact ⟨rfl, _, rSc Hb6.out 0 _, ownsRow_setCell_below Hown6.out (by simp) _, HT6.out.setCell (fun _ => .inl rfl) _, Hat6.out⟩
theorem bKeys_any (b n m : Nat) (hn : n ≤ 100000) (hm : m ≤ 100000) (v : Nat → Value) (xs : List Value) (a : Option Addr) (len c : Nat) (w : World) (hb : BookM w b n v) (hown : w.ownsRow (b + 1) 194 2 (v 2) m xs) :
    Calls Tryz.prog 29 #[.pointer (some ⟨b, 0, none⟩), .slice a len c] w fun e w' => e = .returned (.tuple #[]) ∧ ∃ lv, BookM w' b ((n : Int) + 1) (updF v 2 lv) ∧ w'.ownsRow (b + 1) 194 2 lv (m + 1) (xs ++ [.slice a len c, .int .i64 (n : Nat)]) ∧ Turned (fun k => k = b ∨ (v 2).ownBlock = some k) w w' ∧ ∀ g, lv.ownBlock = some g → (v 2).ownBlock = some g ∨ w.heap.size ≤ g := by
 have hk := bkeepKey_any b n m hn hm v xs a len c w hb hown
 have Hk := hQ hk
 clear hk hb hown
 go_enter Tryz.func29, Tryz.ntmps29
 go_wp2_with fail
 refine Hk.out.mono ?_
 rintro e w1 ⟨rfl, h1⟩
 have H1 := hQ h1; clear h1
 go_wp2
 go_end0
 exact ⟨rfl, H1.out⟩
theorem bkInfoHNode : (Tryz.prog.info? 296).map (fun i => (i.zero, i.size, i.bytes)) = some (some (.agg #[.slice none 0 0, .int .i64 0]), 2, 32) := by kernel_rfl
theorem bkeepNode_any (b n m : Nat) (hn : n ≤ 100000) (hm : m ≤ 100000) (v : Nat → Value) (xs : List Value) (a : Option Addr) (len c : Nat) (w : World) (hb : BookM w b n v) (hown : w.ownsRow (b + 1) 296 2 (v 3) m xs) :
    Calls Tryz.prog 215 #[.pointer (some ⟨b, 0, none⟩), .slice a len c] w fun e w' => e = .returned (.tuple #[]) ∧ ∃ lv, BookM w' b ((n : Int) + 1) (updF v 3 lv) ∧ w'.ownsRow (b + 1) 296 2 lv (m + 1) (xs ++ [.slice a len c, .int .i64 (n : Nat)]) ∧ Turned (fun k => k = b ∨ (v 3).ownBlock = some k) w w' ∧ ∀ g, lv.ownBlock = some g → (v 3).ownBlock = some g ∨ w.heap.size ≤ g := by
 obtain ⟨i0, hi0, hz0, hz1, hz2⟩ := info_parts bkInfoHNode
 have hlt : b < w.heap.size := (Array.getElem?_eq_some_iff.1 hb).1
 have c0 : w.cell? ⟨b, 0, none⟩ = some (.int .i64 n) := (cRw hb 0).trans rfl
 have cc : w.cell? ⟨b, 19, none⟩ = some (v 3) := (cRw hb 19).trans rfl
 have z0 := fRw hb 0
 have zc := fRw hb 19
 have Hown := hQ hown
 have Hb := hQ hb
 obtain ⟨vj, hvj⟩ : ∃ vj, vj = v 3 := ⟨_, rfl⟩
 rw [← hvj] at cc
 have Hvj := hQ hvj
 have hnI : (n : Int) ≤ 100000 := by omega
 clear hown hb hvj
 go_enter Tryz.func215, Tryz.ntmps215
 go_wp2_with fail
 go_region_law (go_loud (refine step_append_lies _ rfl (.tmp 8) (.tmp 15) 79 rfl (b + 1) 296 i0 (.agg #[.slice none 0 0, .int .i64 0]) 2 32 Tryz.underlying79 hi0 hz0 hz1 hz2 rfl (by decide) vj m xs (by simp [Act.eval, Act.put]) (by rw [Hvj.out]; exact Hown.out.alloc _) ⟨w.heap.size, 0, none⟩ 1 1 [.slice a len c, .int .i64 (n : Nat)] (by simp [Act.eval, Act.put]) rfl (cells_new w [.slice a len c, .int .i64 (n : Nat)] 296) (by intro u hu; simp at hu; rcases hu with rfl | rfl <;> rfl) (by omega) (by unfold maxLen; omega) (by omega) (by simp; omega) (w.heap.size + 1) (by simp) ?_); intro g cap w5 hown' hgrow hat hglt; have hgb : ¬ some b = vj.ownBlock := (fun e => (by have := own_base' Hown.out b (by rw [← Hvj.out]; exact e.symm); omega)); have hb5 : BookM w5 b n v := (hgrow.block b (Nat.lt_of_lt_of_le hlt (by simp)) hgb).trans ((heap_alloc_old _ _ hlt).trans Hb.out); have c0' : w5.cell? ⟨b, 0, none⟩ = some (.int .i64 n) := (cRw hb5 0).trans rfl; have cc' : w5.cell? ⟨b, 19, none⟩ = some vj := (cRw hb5 19).trans (by rw [Hvj.out]; rfl); have zc' := fRw hb5 19; have z0' := fRw hb5 0; have Hb5 := hQ hb5; clear hb5 hgb)
 all_goals
  have hb6 : BookM (w5.setCell ⟨b, 19, none⟩ (.slice (some ⟨g, 0, none⟩) (m + 1) cap)) b n (updF v 3 (.slice (some ⟨g, 0, none⟩) (m + 1) cap)) := rSc Hb5.out 19 _
  have hown6 : (w5.setCell ⟨b, 19, none⟩ (.slice (some ⟨g, 0, none⟩) (m + 1) cap)).ownsRow (b + 1) 296 2 (.slice (some ⟨g, 0, none⟩) (m + 1) cap) (m + 1) (xs ++ [.slice a len c, .int .i64 (n : Nat)]) := ownsRow_setCell_below hown' (by simp) _
  have hT6 : Turned (fun k => k = b ∨ (v 3).ownBlock = some k) w (w5.setCell ⟨b, 19, none⟩ (.slice (some ⟨g, 0, none⟩) (m + 1) cap)) := ((Turned.new _ ((Below.refl w.heap.size w).alloc (Nat.le_refl _) (.cells #[.slice a len c, .int .i64 n] 296))).drew.grown hgrow (fun k _ e => .inr (by rw [← Hvj.out]; exact e))).setCell (fun _ => .inl rfl) _
  have hat6 : ∀ g2, (Value.slice (some ⟨g, 0, none⟩) (m + 1) cap).ownBlock = some g2 → (v 3).ownBlock = some g2 ∨ w.heap.size ≤ g2 := fun g2 e => by
   obtain rfl : g = g2 := by simpa [Value.ownBlock] using e
   rcases hat with h | h
   · exact .inl (by rw [← Hvj.out]; exact h)
   · exact .inr (by rw [h]; simp)
  generalize w5.setCell ⟨b, 19, none⟩ (.slice (some ⟨g, 0, none⟩) (m + 1) cap) = w6 at hb6 hown6 hT6 ⊢
  have c06 : w6.cell? ⟨b, 0, none⟩ = some (.int .i64 n) := (cRw hb6 0).trans rfl
  have z06 := fRw hb6 0
  have Hb6 := hQ hb6; clear hb6
  have Hown6 := hQ hown6; clear hown6
  have HT6 := hQ hT6; clear hT6
  have Hat6 := hQ hat6; clear hat6
  clear hown' hgrow hat c0' cc' zc' z0' c0 cc z0 zc
  go_wp2
  go_end0
  exact ⟨rfl, _, rSc Hb6.out 0 _, ownsRow_setCell_below Hown6.out (by simp) _, HT6.out.setCell (fun _ => .inl rfl) _, Hat6.out⟩
end Go.Proofs.YtedpljclnpiggaaGreatDoor
