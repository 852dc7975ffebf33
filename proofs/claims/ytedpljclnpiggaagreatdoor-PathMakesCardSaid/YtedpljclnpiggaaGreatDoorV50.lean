/- phratrylaw01's Book: a tree, and all lists within it, put behind the held ones. -/
import Derived.Test.YtedpljclnpiggaaGreatDoorV49
import Derived.Test.YtedpljclnpiggaaGreatDoorV29
set_option linter.unusedVariables false
set_option linter.unusedSimpArgs false
set_option maxRecDepth 100000
set_option maxHeartbeats 12800000
namespace Go.Proofs.YtedpljclnpiggaaGreatDoor
open Go Go.RowKit
def heldL (U : Nat → Value) (n0 k : Nat) : List Value := (List.range k).flatMap fun i => [U i, .int .i64 ((n0 + i : Nat) : Int)]
theorem heldL_succ (U : Nat → Value) (n0 k : Nat) : heldL U n0 (k + 1) = heldL U n0 k ++ [U k, .int .i64 ((n0 + k : Nat) : Int)] := by unfold heldL; rw [List.range_succ, List.flatMap_append]; simp
theorem bnode_any (b n m : Nat) (hn : n ≤ 100000) (hm : m ≤ 100000) (v : Nat → Value) (xs : List Value) (p mm e : Int) (a : Option Addr) (len c : Nat) (w : World) (hb : BookM w b n v) (hown : w.ownsRow (b + 1) 199 2 (v 0) m xs) :
    Calls Tryz.prog 214 #[.pointer (some ⟨b, 0, none⟩), .agg #[.int .i64 p, .int .i64 mm, .int .i64 e, .slice a len c]] w fun e w' => e = .returned (.tuple #[]) ∧
     ∃ lv, BookM w' b ((n : Int) + 1) (updF v 0 lv) ∧ w'.ownsRow (b + 1) 199 2 lv (m + 1) (xs ++ [.slice a len c, .int .i64 (n : Nat)]) ∧ Turned (fun k => k = b ∨ (v 0).ownBlock = some k) w w' ∧ ∀ g, lv.ownBlock = some g → (v 0).ownBlock = some g ∨ w.heap.size ≤ g := by
 have hlt : b < w.heap.size := (Array.getElem?_eq_some_iff.1 hb).1
 have hk := fun (W : World) (hW : Below w.heap.size w W) => bNumbers_any b n m hn hm v xs a len c W ((hW.block b hlt).trans hb) (oKp hown (Turned.new (fun _ => False) hW) (fun _ _ h => h))
 have Hk := hQ hk
 clear hk hb hown
 go_enter Tryz.func214, Tryz.ntmps214
 go_wp2_with fail
 refine (Hk.out _ ((Below.refl w.heap.size w).alloc (Nat.le_refl _) _)).mono ?_
 rintro e w1 ⟨rfl, lv, h1, h2, h3, h4⟩
 have hT := (Turned.new (fun k => k = b ∨ (v 0).ownBlock = some k) ((Below.refl w.heap.size w).alloc (Nat.le_refl _) (.cells #[.int .i64 p, .int .i64 mm, .int .i64 e, .slice a len c] 125))).trans h3 (fun _ _ h => h)
 have h4' : ∀ g, lv.ownBlock = some g → (v 0).ownBlock = some g ∨ w.heap.size ≤ g := fun g hg => (h4 g hg).imp id (fun h => Nat.le_trans ((Below.refl w.heap.size w).alloc (Nat.le_refl _) _).size h)
 have H := hQ (And.intro h1 (And.intro h2 (And.intro hT h4')))
 clear h1 h2 h3 h4 hT h4'
 go_wp2
 go_end0
 exact ⟨rfl, lv, H.out⟩
def NodesIn (w : World) (b : Nat) (a : Option Addr) (n : Nat) (U : Nat → Value) : Prop :=
 ∀ i, i < n → ∃ g o p m e, a = some ⟨g, o, none⟩ ∧ g ≠ b ∧ w.cell? ⟨g, o + i * 4, none⟩ = some (.int .i64 p) ∧ w.cell? ⟨g, o + i * 4 + 1, none⟩ = some (.int .i64 m) ∧ w.cell? ⟨g, o + i * 4 + 2, none⟩ = some (.int .i64 e) ∧ w.cell? ⟨g, o + i * 4 + 3, none⟩ = some (U i) ∧ ∃ ua ul uc, U i = .slice ua ul uc
def BnRel (w : World) (b n0 n : Nat) (v : Nat → Value) (U : Nat → Value) (i : Value) (wr : World) : Prop :=
 ∃ (k : Nat) (lv : Value), k ≤ n ∧ i = .int .i64 k ∧ BookM wr b ((n0 + k : Nat) : Int) (updF v 0 lv) ∧ wr.ownsRow (b + 1) 199 2 lv k (heldL U n0 k) ∧ (k = 0 → lv = .slice none 0 0) ∧ Turned (fun x => x = b) w wr ∧ ∀ g, lv.ownBlock = some g → w.heap.size ≤ g
theorem bnodes_any (b n0 n : Nat) (hn : n0 + n ≤ 1000) (v : Nat → Value) (U : Nat → Value) (a : Option Addr) (c : Nat) (w : World) (hb : BookM w b n0 v) (hv0 : v 0 = .slice none 0 0) (hv3 : v 3 = .slice none 0 0) (hN : NodesIn w b a n U) :
    Calls Tryz.prog 67 #[.pointer (some ⟨b, 0, none⟩), .slice a n c] w fun e w' => e = .returned (.tuple #[]) ∧
     ∃ l0 l3, BookM w' b ((n0 + n + 1 : Nat) : Int) (updF (updF v 0 l0) 3 l3) ∧ w'.ownsRow (b + 1) 199 2 l0 n (heldL U n0 n) ∧ (n = 0 → l0 = .slice none 0 0) ∧ w'.ownsRow (b + 1) 296 2 l3 1 [.slice a n c, .int .i64 ((n0 + n : Nat) : Int)] ∧
      Turned (fun x => x = b) w w' ∧ (∀ g, l0.ownBlock = some g → w.heap.size ≤ g) ∧ ∀ g, l3.ownBlock = some g → w.heap.size ≤ g ∧ l0.ownBlock ≠ some g := by
 have hlt : b < w.heap.size := (Array.getElem?_eq_some_iff.1 hb).1
 have hst : BnRel w b n0 n v U (.int .i64 (0 : Nat)) w := ⟨0, _, Nat.zero_le _, rfl, by rw [Nat.add_zero, updF_self]; exact hb, by rw [hv0]; exact ⟨rfl, .inl ⟨rfl, rfl⟩⟩, fun _ => hv0, Turned.refl _ _, fun g hg => by rw [hv0] at hg; simp [Value.ownBlock] at hg⟩
 have Hst := hQ hst
 have HN := hQ hN
 have Hv3 := hQ hv3
 have hnI : (n : Int) ≤ 1000 := by omega
 clear hst hN hv3 hb hv0
 go_enter Tryz.func67, Tryz.ntmps67
 go_wp2
 go_loopw [7] (fun i wr => BnRel w b n0 n v U i wr) (fun i _ => n - (intOf i).toNat)
 case atStart => exact Hst.out
 case round =>
  obtain ⟨k, lv, hk, rfl, h1, h2, h3, hT, h4⟩ := hrel
  have H1 := hQ h1
  have H2 := hQ h2
  have H3 := hQ h3
  have HT := hQ hT
  have H4 := hQ h4
  by_cases hkl : k < n
  · obtain ⟨g, o, p, m, e, rfl, hgb, c0, c1, c2, c3, ua, ul, uc, hU⟩ := HN.out k hkl
    have hgl := World.block_lt_of_cell? w _ c0
    rw [hU] at c3
    rw [← hT.cell (p := ⟨g, o + k * 4, none⟩) hgl hgb] at c0
    rw [← hT.cell (p := ⟨g, o + k * 4 + 1, none⟩) hgl hgb] at c1
    rw [← hT.cell (p := ⟨g, o + k * 4 + 2, none⟩) hgl hgb] at c2
    rw [← hT.cell (p := ⟨g, o + k * 4 + 3, none⟩) hgl hgb] at c3
    have hnd := bnode_any b (n0 + k) k (by omega) (by omega) (updF v 0 lv) (heldL U n0 k) p m e ua ul uc
    have Hnd := hQ hnd
    have HU := hQ hU
    have hkI : (k : Int) < n := by omega
    clear hnd hU h1 h2 h3 hT h4
    go_wp2_with fail
    refine (Hnd.out wr H1.out (by rw [uSm]; exact H2.out)).mono ?_
    rintro r w1 ⟨rfl, l2, k1, k2, k3, k4⟩
    rw [uSm] at k3 k4
    rw [updF_updF] at k1
    have k4' : ∀ g, l2.ownBlock = some g → w.heap.size ≤ g := fun g hg => by
     rcases k4 g hg with h | h
     · exact H4.out g h
     · exact Nat.le_trans HT.out.size h
    have k3' : Turned (fun x => x = b) w w1 := HT.out.trans k3 (fun x hx h => h.elim id (fun h2 => by have := H4.out x h2; omega))
    have k2' : w1.ownsRow (b + 1) 199 2 l2 (k + 1) (heldL U n0 (k + 1)) := by rw [heldL_succ, HU.out]; exact k2
    have Hk := hQ (And.intro k1 (And.intro k2' (And.intro k3' k4')))
    clear k1 k2 k3 k4 k2' k3' k4' c0 c1 c2 c3
    go_wp2
    exact ⟨⟨k + 1, l2, by omega, by go_num, Hk.out.1, Hk.out.2.1, fun h => absurd h (Nat.succ_ne_zero k), Hk.out.2.2.1, Hk.out.2.2.2⟩, by simp [intOf]; omega⟩
  · obtain rfl : k = n := by omega
    have hkp := bkeepNode_any b (n0 + k) 0 (by omega) (by omega) (updF v 0 lv) [] a k c wr H1.out (by rw [uOt (by omega), Hv3.out]; exact ⟨rfl, .inl ⟨rfl, rfl⟩⟩)
    have Hkp := hQ hkp
    have hkI : ¬ (k : Int) < k := by omega
    clear hkp h1 h2 h3 hT h4
    go_wp2_with fail
    refine Hkp.out.mono ?_
    rintro e w1 ⟨rfl, l3, k1, k2, k3, k4⟩
    rw [uOt (show (3 : Nat) ≠ 0 by omega), Hv3.out] at k3 k4
    have k3' : Turned (fun x => x = b) wr w1 := k3.mono (fun x _ h => h.elim id (fun h2 => by simp [Value.ownBlock] at h2))
    have k4' : ∀ g, l3.ownBlock = some g → w.heap.size ≤ g ∧ lv.ownBlock ≠ some g := fun g hg => by
     rcases k4 g hg with h | h
     · simp [Value.ownBlock] at h
     · have s1 := HT.out.size
       exact ⟨by omega, fun e => by have := (H2.out.lt g e).2; omega⟩
    have Hk1 := hQ k1
    have Hk2 := hQ k2
    have Hk3 := hQ k3'
    have Hk4 := hQ k4'
    clear k1 k2 k3 k4 k3' k4'
    go_wp2
    go_end0
    refine ⟨rfl, lv, l3, by simpa using Hk1.out, oKp H2.out Hk3.out (fun g hg e => by have := own_base' H2.out g hg; omega), H3.out, by simpa using Hk2.out, HT.out.trans Hk3.out (fun _ _ h => h), H4.out, Hk4.out⟩
theorem btree_any (b n0 n : Nat) (hn : n0 + n ≤ 1000) (v : Nat → Value) (U : Nat → Value) (a : Option Addr) (c : Nat) (w : World) (hb : BookM w b n0 v) (hv0 : v 0 = .slice none 0 0) (hv3 : v 3 = .slice none 0 0) (hN : NodesIn w b a n U) :
    Calls Tryz.prog 28 #[.pointer (some ⟨b, 0, none⟩), .agg #[.slice a n c]] w fun e w' => e = .returned (.tuple #[]) ∧
     ∃ l0 l3, BookM w' b ((n0 + n + 1 : Nat) : Int) (updF (updF v 0 l0) 3 l3) ∧ w'.ownsRow (b + 1) 199 2 l0 n (heldL U n0 n) ∧ (n = 0 → l0 = .slice none 0 0) ∧ w'.ownsRow (b + 1) 296 2 l3 1 [.slice a n c, .int .i64 ((n0 + n : Nat) : Int)] ∧
      Turned (fun x => x = b) w w' ∧ (∀ g, l0.ownBlock = some g → w.heap.size ≤ g) ∧ ∀ g, l3.ownBlock = some g → w.heap.size ≤ g ∧ l0.ownBlock ≠ some g := by
 have hlt : b < w.heap.size := (Array.getElem?_eq_some_iff.1 hb).1
 have hb1 : Below w.heap.size w (w.alloc (boxT (.slice a n c))) := (Below.refl w.heap.size w).alloc (Nat.le_refl _) _
 have hk := bnodes_any b n0 n hn v U a c (w.alloc (boxT (.slice a n c))) ((hb1.block b hlt).trans hb) hv0 hv3 (fun i hi => by
  obtain ⟨g, o, p, m, e, h0, h1, c0, c1, c2, c3, h2⟩ := hN i hi
  have hgl := World.block_lt_of_cell? w _ c0
  exact ⟨g, o, p, m, e, h0, h1, (hb1.cell (p := ⟨g, o + i * 4, none⟩) hgl).trans c0, (hb1.cell (p := ⟨g, o + i * 4 + 1, none⟩) hgl).trans c1, (hb1.cell (p := ⟨g, o + i * 4 + 2, none⟩) hgl).trans c2, (hb1.cell (p := ⟨g, o + i * 4 + 3, none⟩) hgl).trans c3, h2⟩)
 have Hk := hQ hk
 have Hb1 := hQ hb1
 clear hk hb hv0 hv3 hN hb1
 go_enter Tryz.func28, Tryz.ntmps28
 go_wp2_with fail
 refine Hk.out.mono ?_
 rintro e w1 ⟨rfl, l0, l3, h1, h2, h3, h4, h5, h6, h7⟩
 have hs : w.heap.size ≤ (w.alloc (boxT (.slice a n c))).heap.size := Hb1.out.size
 have hT := (Turned.new (fun x => x = b) Hb1.out).trans h5 (fun _ _ h => h)
 have h6' : ∀ g, l0.ownBlock = some g → w.heap.size ≤ g := fun g hg => Nat.le_trans hs (h6 g hg)
 have h7' : ∀ g, l3.ownBlock = some g → w.heap.size ≤ g ∧ l0.ownBlock ≠ some g := fun g hg => ⟨Nat.le_trans hs (h7 g hg).1, (h7 g hg).2⟩
 have H := hQ (And.intro h1 (And.intro h2 (And.intro h3 (And.intro h4 (And.intro hT (And.intro h6' h7'))))))
 clear h1 h2 h3 h4 h5 h6 h7 hT hs h6' h7'
 go_wp2
 go_end0
 exact ⟨rfl, l0, l3, H.out⟩
end Go.Proofs.YtedpljclnpiggaaGreatDoor
