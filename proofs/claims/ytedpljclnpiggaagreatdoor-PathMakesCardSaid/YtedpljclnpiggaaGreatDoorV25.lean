/- The document's parent, twice, some of any tree. -/
import Derived.Test.YtedpljclnpiggaaGreatDoorV06
import Derived.Test.YtedpljclnpiggaaGreatDoorV02
import Derived.Test.YtedpljclnpiggaaGreatDoorV14
import Derived.Test.YtedpljclnpiggaaGreatDoorV13
set_option linter.unusedVariables false
set_option linter.unusedSimpArgs false
set_option maxRecDepth 100000
set_option maxHeartbeats 12800000
namespace Go.Proofs.YtedpljclnpiggaaGreatDoor
section
open Go Go.RowKit
def RSecRel (r : Nat) (F : Nat → Prop) (L : List TermD) (seed : Int) (m : Nat) (w : World) (v i : Value) (wr : World) : Prop :=
 ∃ k : Nat, k ≤ m ∧ i = .int .i64 k ∧ SecAt (fun w F L => RefStore w r F L) F L seed m w k v wr
theorem sec_last {l : List Int} {pre : List Int} {last : Int} (h : l = pre ++ [last]) : l.getD pre.length 0 = last := by
 subst h
 simp [List.getD_eq_getElem?_getD]
theorem rsecrets_any (r : Nat) (F : Nat → Prop) (L : List TermD) (seed many : Int) (hG : Good L) (hl : L.length ≤ 4000) (w : World) (h : RefStore w r F L) :
    Calls Tryz.prog 8 #[.pointer (some ⟨r, 0, none⟩), .int .i64 seed, .int .i64 many] w (SecPost (fun w F L => RefStore w r F L) F L seed many w) := by
 obtain ⟨i0, hi0, hz0, hz1, hz2⟩ := info_parts infoI
 have his := ris_any r F L seed w h (by omega)
 have H := hQ h; clear h
 by_cases h0 : many < 0
 · have hbad : sBd L seed many = true := by simp [sBd, h0]
   have Hbad := hQ hbad; clear hbad his
   go_enter Tryz.func8, Tryz.ntmps8
   go_wp2
   go_ret2
   exact sec_bad (refLaw r) Hbad.out H.out (Below.refl _ _)
 · by_cases h16 : 16 < many
   · have hbad : sBd L seed many = true := by simp [sBd, h16]
     have Hbad := hQ hbad; clear hbad his
     go_enter Tryz.func8, Tryz.ntmps8
     go_wp2
     go_ret2
     exact sec_bad (refLaw r) Hbad.out H.out (Below.refl _ _)
   · obtain ⟨m, rfl⟩ : ∃ m : Nat, many = m := ⟨many.toNat, by omega⟩
     cases ht : thereD L.length seed with
     | false =>
      have hbad : sBd L seed m = true := by simp [sBd, ht]
      have Hbad := hQ hbad; clear hbad
      rw [ht] at his
      have His := hQ his; clear his ht
      have hm0 : (m : Int) ≤ 16 := by omega
      go_enter Tryz.func8, Tryz.ntmps8
      go_wp2_with (go_at_call 39; refine His.out.mono ?_; rintro e w1 ⟨rfl, hb1⟩; have Hb1 := hQ hb1; clear hb1)
      go_ret2
      exact sec_bad (refLaw r) Hbad.out H.out Hb1.out
     | true =>
      have hgood : sBd L seed m = false := by simp [sBd, ht]; omega
      have Hgood := hQ hgood; clear hgood
      have Hthere := hQ ht
      rw [ht] at his
      have His := hQ his; clear his ht
      have hm0 : (m : Int) ≤ 16 := by omega
      have HG := hQ hG; clear hG
      go_enter Tryz.func8, Tryz.ntmps8
      go_wp2_with (go_at_call 39; refine His.out.mono ?_; rintro e w1 ⟨rfl, hb1⟩; have Hb1 := hQ hb1; clear hb1)
      have hst := sec_start (refLaw r) m Hb1.out H.out HG.out Hthere.out
      have Hst := hQ hst; clear hst
      go_loopw [8, 9] (fun v i wr => RSecRel r F L seed m w v i wr) (fun _ i _ => m - (intOf i).toNat)
      case atStart => exact ⟨0, Nat.zero_le _, rfl, Hst.out⟩
      case round =>
       obtain ⟨k, hk, rfl, pre, last, Lk, F', hin⟩ := hrel
       by_cases hlt : k < m
       · have hown := hin.own
         obtain ⟨va, vc, hve, hvc⟩ := ownI_len hown
         rw [hve] at hown hin
         obtain ⟨gb, go, rfl, hcell⟩ := ownI_at hown k (by simp [hin.len])
         rw [show (pre ++ [last]).getD k 0 = last from by rw [← hin.len]; exact sec_last rfl] at hcell
         have hkdf := fun W hW => rkdf_any r F' Lk 1 last 0 (kdf_ok (by simp [i64ok]) (there_i64 hin.there (by have := hin.size; omega))) hin.good (by have := hin.size; omega) W hW
         change ∀ W, RefStore W r F' Lk → Calls _ _ _ _ (RPost r F' (makeL Lk (kdfT 1 last)) (.int .i64 (makeN Lk (kdfT 1 last))) W) at hkdf
         have hnl : (pre ++ [last]).length = k + 1 := by simp [hin.len]
         rw [hnl] at hve hin
         have Hin := hQ hin; clear hin
         have Hkdf := hQ hkdf; clear hkdf
         have Hnl := hQ hnl; clear hnl hown hvc
         subst hve
         have hkm : (k : Int) < m := by omega
         go_wp2_with fail
         refine (Hkdf.out _ Hin.out.st).mono ?_
         rintro e w2 ⟨rfl, F2, hx2, hs2, hT2⟩
         have hown2 : w2.ownsRow 0 3 1 (.slice (some ⟨gb, go, none⟩) (k + 1) vc) (k + 1) ((pre ++ [last]).map intV) := by
          have h3 := oIk Hin.out.own hT2 (fun g hg => (Hin.out.far g hg).2)
          unfold OwnI at h3
          rw [Hnl.out] at h3
          exact h3
         have Hx2 := hQ hx2; clear hx2
         have Hs2 := hQ hs2; clear hs2
         have HT2 := hQ hT2; clear hT2
         have Hown2 := hQ hown2; clear hown2
         clear hcell Hkdf
         go_wp2_with (at_builtin; refine wpList_append_own_at _ rfl _ _ 27 rfl 0 3 i0 (.int .i64 0) 1 8 Tryz.underlying27 hi0 hz0 hz1 hz2 rfl (by decide) _ (k + 1) ((pre ++ [last]).map intV) rfl (Hown2.out.alloc _) ⟨w2.heap.size, 0, none⟩ 1 1 [intV (makeN Lk (kdfT 1 last))] rfl rfl (cell_one_new _ _ _) (by intro u hu; simp [intV] at hu; rw [hu]; rfl) (by unfold maxLen; omega) (by omega) (Nat.zero_le _) ?_; intro v' w5 hown' hgrow hniff hblk)
         have hownn : OwnI v' ((pre ++ [last]) ++ [makeN Lk (kdfT 1 last)]) w5 := by
          unfold OwnI
          rw [List.length_append, List.map_append, Hnl.out]
          exact hown'
         exact ⟨⟨k + 1, by omega, by go_num, sec_step (refLaw r) Hin.out hlt (by omega) Hx2.out Hs2.out HT2.out hownn hgrow (hblk.imp id (fun h => by simpa using h))⟩, by simp [intOf]; omega⟩
       · obtain rfl : k = m := by omega
         have Hin := hQ hin; clear hin
         go_wp2
         go_ret2
         exact sec_end Hgood.out ⟨pre, last, Lk, F', Hin.out⟩
def PSecRel (s : Nat) (F : Nat → Prop) (L : List TermD) (seed : Int) (m : Nat) (w : World) (v i : Value) (wr : World) : Prop :=
 ∃ k : Nat, k ≤ m ∧ i = .int .i64 k ∧ SecAt (fun w F L => ProgStore w s F L) F L seed m w k v wr
theorem psecrets_any (s : Nat) (F : Nat → Prop) (L : List TermD) (seed many : Int) (hG : Good L) (hl : L.length ≤ 4000) (w : World) (h : ProgStore w s F L) :
    Calls Tryz.prog 7 #[.pointer (some ⟨s, 0, none⟩), .int .i64 seed, .int .i64 many] w (SecPost (fun w F L => ProgStore w s F L) F L seed many w) := by
 obtain ⟨i0, hi0, hz0, hz1, hz2⟩ := info_parts infoI
 have his := sis_any s F L seed w h (by omega)
 have hal := palive_any s F L w h
 have Hal := hQ hal; clear hal
 have H := hQ h; clear h
 by_cases h0 : many < 0
 · have hbad : sBd L seed many = true := by simp [sBd, h0]
   have Hbad := hQ hbad; clear hbad his
   go_enter Tryz.func7, Tryz.ntmps7
   go_wp2_with (go_at_call 36; refine Hal.out.mono ?_; rintro e wx ⟨rfl, hwx⟩; subst wx)
   go_ret2
   exact sec_bad (progLaw s) Hbad.out H.out (Below.refl _ _)
 · by_cases h16 : 16 < many
   · have hbad : sBd L seed many = true := by simp [sBd, h16]
     have Hbad := hQ hbad; clear hbad his
     go_enter Tryz.func7, Tryz.ntmps7
     go_wp2_with (go_at_call 36; refine Hal.out.mono ?_; rintro e wx ⟨rfl, hwx⟩; subst wx)
     go_ret2
     exact sec_bad (progLaw s) Hbad.out H.out (Below.refl _ _)
   · obtain ⟨m, rfl⟩ : ∃ m : Nat, many = m := ⟨many.toNat, by omega⟩
     cases ht : thereD L.length seed with
     | false =>
      have hbad : sBd L seed m = true := by simp [sBd, ht]
      have Hbad := hQ hbad; clear hbad
      rw [ht] at his
      have His := hQ his; clear his ht
      have hm0 : (m : Int) ≤ 16 := by omega
      go_enter Tryz.func7, Tryz.ntmps7
      go_wp2_with (first | (go_at_call 36; refine Hal.out.mono ?_; rintro e wx ⟨rfl, hwx⟩; subst wx) | (go_at_call 37; refine His.out.mono ?_; rintro e w1 ⟨rfl, hb1⟩; have Hb1 := hQ hb1; clear hb1))
      go_ret2
      exact sec_bad (progLaw s) Hbad.out H.out Hb1.out
     | true =>
      have hgood : sBd L seed m = false := by simp [sBd, ht]; omega
      have Hgood := hQ hgood; clear hgood
      have Hthere := hQ ht
      rw [ht] at his
      have His := hQ his; clear his ht
      have hm0 : (m : Int) ≤ 16 := by omega
      have HG := hQ hG; clear hG
      go_enter Tryz.func7, Tryz.ntmps7
      go_wp2_with (first | (go_at_call 36; refine Hal.out.mono ?_; rintro e wx ⟨rfl, hwx⟩; subst wx) | (go_at_call 37; refine His.out.mono ?_; rintro e w1 ⟨rfl, hb1⟩; have Hb1 := hQ hb1; clear hb1))
      have hst := sec_start (progLaw s) m Hb1.out H.out HG.out Hthere.out
      have Hst := hQ hst; clear hst
      go_loopw [8, 31] (fun v i wr => PSecRel s F L seed m w v i wr) (fun _ i _ => m - (intOf i).toNat)
      case atStart => exact ⟨0, Nat.zero_le _, rfl, Hst.out⟩
      case round =>
       obtain ⟨k, hk, rfl, pre, last, Lk, F', hin⟩ := hrel
       by_cases hlt : k < m
       · have hown := hin.own
         obtain ⟨va, vc, hve, hvc⟩ := ownI_len hown
         rw [hve] at hown hin
         obtain ⟨gb, go, rfl, hcell⟩ := ownI_at hown k (by simp [hin.len])
         rw [show (pre ++ [last]).getD k 0 = last from by rw [← hin.len]; exact sec_last rfl] at hcell
         have hkdf := fun W hW => derived_any s F' Lk 1 last (kdf_ok (by simp [i64ok]) (there_i64 hin.there (by have := hin.size; omega))) hin.good (by have := hin.size; omega) W hW
         change ∀ W, ProgStore W s F' Lk → Calls _ _ _ _ (SPost s F' (makeL Lk (kdfT 1 last)) (.tuple #[.int .i64 (makeN Lk (kdfT 1 last)), .int .i64 (makeE Lk (kdfT 1 last))]) W) at hkdf
         rw [(make_ok (may_kdf (label := 1) (by omega) hin.there) (by have := hin.size; omega : Lk.length < 1048576)).1] at hkdf
         have hnl : (pre ++ [last]).length = k + 1 := by simp [hin.len]
         rw [hnl] at hve hin
         have Hin := hQ hin; clear hin
         have Hkdf := hQ hkdf; clear hkdf
         have Hnl := hQ hnl; clear hnl hown hvc
         subst hve
         have hkm : (k : Int) < m := by omega
         go_wp2_with fail
         refine (Hkdf.out _ Hin.out.st).mono ?_
         rintro e w2 ⟨rfl, F2, hx2, hs2, hT2⟩
         have hown2 : w2.ownsRow 0 3 1 (.slice (some ⟨gb, go, none⟩) (k + 1) vc) (k + 1) ((pre ++ [last]).map intV) := by
          have h3 := oIk Hin.out.own hT2 (fun g hg => (Hin.out.far g hg).2)
          unfold OwnI at h3
          rw [Hnl.out] at h3
          exact h3
         have Hx2 := hQ hx2; clear hx2
         have Hs2 := hQ hs2; clear hs2
         have HT2 := hQ hT2; clear hT2
         have Hown2 := hQ hown2; clear hown2
         clear hcell Hkdf
         go_wp2_with (at_builtin; refine wpList_append_own_at _ rfl _ _ 27 rfl 0 3 i0 (.int .i64 0) 1 8 Tryz.underlying27 hi0 hz0 hz1 hz2 rfl (by decide) _ (k + 1) ((pre ++ [last]).map intV) rfl (Hown2.out.alloc _) ⟨w2.heap.size, 0, none⟩ 1 1 [intV (makeN Lk (kdfT 1 last))] rfl rfl (cell_one_new _ _ _) (by intro u hu; simp [intV] at hu; rw [hu]; rfl) (by unfold maxLen; omega) (by omega) (Nat.zero_le _) ?_; intro v' w5 hown' hgrow hniff hblk)
         have hownn : OwnI v' ((pre ++ [last]) ++ [makeN Lk (kdfT 1 last)]) w5 := by
          unfold OwnI
          rw [List.length_append, List.map_append, Hnl.out]
          exact hown'
         exact ⟨⟨k + 1, by omega, by go_num, sec_step (progLaw s) Hin.out hlt (by omega) Hx2.out Hs2.out HT2.out hownn hgrow (hblk.imp id (fun h => by simpa using h))⟩, by simp [intOf]; omega⟩
       · obtain rfl : k = m := by omega
         have Hin := hQ hin; clear hin
         go_wp2
         go_ret2
         exact sec_end Hgood.out ⟨pre, last, Lk, F', Hin.out⟩
end
section
open Go Go.RowKit
def idL (n : Nat) : List Int := (List.range n).map (fun (i : Nat) => (i : Int))
theorem idL_len (n : Nat) : (idL n).length = n := by simp [idL]
theorem idL_get {n i : Nat} (h : i < n) : (idL n).getD i 0 = i := by simp [idL, List.getD_eq_getElem?_getD, h]
theorem idL_succ (n : Nat) : idL (n + 1) = idL n ++ [(n : Int)] := by unfold idL; rw [List.range_succ, List.map_append]; rfl
def MapAt (w : World) (mp n : Nat) : Prop := ∃ v, w.heap[mp]? = some (.cells #[v] 115 (0, 0)) ∧ OwnI v (idL n) w ∧ ∀ g, v.ownBlock = some g → g ≠ mp
theorem same_any (mp n x : Nat) (hx : x < n) (hn : n ≤ 100000) (w : World) (h : MapAt w mp n) :
    Calls Tryz.prog 13 #[.pointer (some ⟨mp, 0, none⟩), .int .i64 x, .int .i64 x] w fun e w' => e = .returned (.bool true) ∧ w' = w := by
 obtain ⟨v, hrow, hown, _⟩ := h
 obtain ⟨va, vc, rfl, _⟩ := ownI_len hown
 obtain ⟨gb, go, rfl, hc⟩ := ownI_at hown x (by rw [idL_len]; exact hx)
 rw [idL_get hx] at hc
 have c0 : w.cell? ⟨mp, 0, none⟩ = some (.slice (some ⟨gb, go, none⟩) n vc) := by rw [cRw hrow, idL_len]; rfl
 clear hown hrow
 have hxn : (x : Int) < n := by omega
 go_enter Tryz.func13, Tryz.ntmps13
 go_wp2
 go_ret
 exact ⟨rfl, rfl⟩
def NumRel (n : Nat) (w : World) (i : Value) (wr : World) : Prop := ∃ k d : Nat, k ≤ n ∧ i = .int .i64 k ∧ wr = w.drewN d
end
section
open Go Go.RowKit
structure AcIn (s r : Nat) (L : List TermD) (F G : Nat → Prop) (w : World) (mp k : Nat) (wr : World) (v : Value) (G' : Nat → Prop) : Prop where
 row : wr.heap[mp]? = some (.cells #[v] 115 (0, 0))
 own : OwnI v (idL (k + 1)) wr
 ps : ProgStore wr s F L
 rs : RefStore wr r G' L
 ext : Ext G G' w wr
 turned : Turned G w wr
 new : w.heap.size ≤ mp ∧ ¬ F mp ∧ ¬ G' mp
 far : ∀ g, v.ownBlock = some g → w.heap.size ≤ g ∧ g ≠ mp ∧ ¬ G' g
 ap : ∀ x, F x → ¬ G' x
def AcRel (s r : Nat) (L : List TermD) (F G : Nat → Prop) (w : World) (mp : Nat) (i : Value) (wr : World) : Prop :=
 ∃ k v G', k ≤ L.length ∧ i = .int .i64 ((k : Int) + 1) ∧ AcIn s r L F G w mp k wr v G'
def AcPost (L : List TermD) (G : Nat → Prop) (w : World) (e : Ending) (w' : World) : Prop :=
 ∃ mp, e = .returned (.tuple #[.pointer (some ⟨mp, 0, none⟩), .bool true]) ∧ MapAt w' mp (L.length + 1) ∧ Turned G w w'
theorem ac_read {s r : Nat} {L : List TermD} {F G : Nat → Prop} {w wr : World} {mp k : Nat} {v : Value} {G' : Nat → Prop} (h : AcIn s r L F G w mp k wr v G') :
    ∃ g c, v = .slice (some ⟨g, 0, none⟩) (k + 1) c ∧ g < wr.heap.size ∧ wr.cell? ⟨mp, 0, none⟩ = some v ∧ ∀ i : Nat, i < k + 1 → wr.cell? ⟨g, i, none⟩ = some (.int .i64 i) := by
 rcases h.own.2 with ⟨_, h2⟩ | ⟨g, cap, cur, h1, _, hg, h4, _⟩
 · rw [idL_len] at h2; omega
 · rw [idL_len] at h1
   refine ⟨g, cap, h1, (Array.getElem?_eq_some_iff.1 hg).1, (cRw h.row 0).trans rfl, fun i hi => ?_⟩
   have hown := h.own
   rw [h1] at hown
   obtain ⟨b, o, e, hc⟩ := ownI_at hown i (by rw [idL_len]; exact hi)
   obtain ⟨rfl, rfl⟩ : g = b ∧ 0 = o := by simpa using e
   rw [idL_get hi, Nat.zero_add] at hc
   exact hc
theorem AcIn.new' {s r : Nat} {L : List TermD} {F G : Nat → Prop} {w wr w1 : World} {mp k : Nat} {v : Value} {G' : Nat → Prop} (h : AcIn s r L F G w mp k wr v G') (hb : Below wr.heap.size wr w1) : AcIn s r L F G w mp k w1 v G' := by
 have hT : Turned (fun _ => False) wr w1 := Turned.new _ hb
 obtain ⟨e1, e2⟩ := foot_trans h.ext h.turned (Ext.refl G' wr w1) (Turned.new G' hb)
 exact ⟨(hb.block mp (Array.getElem?_eq_some_iff.1 h.row).1).trans h.row, oIk h.own hT (fun _ _ h => h), h.ps.new hb, h.rs.new hb, e1, e2, h.new, h.far, h.ap⟩
theorem AcIn.ref {s r : Nat} {L : List TermD} {F G : Nat → Prop} {w wr w1 : World} {mp k : Nat} {v : Value} {G' G'' : Nat → Prop} (h : AcIn s r L F G w mp k wr v G') (hx : Ext G' G'' wr w1) (hs : RefStore w1 r G'' L) (hT : Turned G' wr w1) : AcIn s r L F G w mp k w1 v G'' := by
 obtain ⟨e1, e2⟩ := foot_trans h.ext h.turned hx hT
 have hmp := (Array.getElem?_eq_some_iff.1 h.row).1
 have hnot : ∀ x, x < wr.heap.size → ¬ G' x → ¬ G'' x := fun x hlt hn hg => by
  rcases hx x hg with h1 | h1
  · exact hn h1
  · omega
 exact ⟨(hT.block mp hmp h.new.2.2).trans h.row, oIk h.own hT (fun g hg => (h.far g hg).2.2), h.ps.kept hT (fun k hk hg => h.ap k hk hg), hs, e1, e2, ⟨h.new.1, h.new.2.1, hnot mp hmp h.new.2.2⟩,
  fun g hg => ⟨(h.far g hg).1, (h.far g hg).2.1, hnot g (ownI_lt h.own hg) (h.far g hg).2.2⟩, fun x hx' => hnot x (h.ps.lt x hx') (h.ap x hx')⟩
theorem ac_step {s r : Nat} {L : List TermD} {F G : Nat → Prop} {w wr w3 w5 : World} {mp k g c : Nat} {v : Value} {G' : Nat → Prop} (h : AcIn s r L F G w mp k wr v G') (hFw : ∀ x, F x → x < w.heap.size) (hb : Below wr.heap.size wr w3)
    (hown : OwnI (.slice (some ⟨g, 0, none⟩) (k + 1 + 1) c) (idL (k + 1 + 1)) w5) (hgrow : w3.grownBy w5 v.ownBlock) (hat : v.ownBlock = some g ∨ g = w3.heap.size) :
    AcIn s r L F G w mp (k + 1) (w5.setCell ⟨mp, 0, none⟩ (.slice (some ⟨g, 0, none⟩) (k + 1 + 1) c)) (.slice (some ⟨g, 0, none⟩) (k + 1 + 1) c) G' := by
 have h3 := h.new' hb
 have hmp := (Array.getElem?_eq_some_iff.1 h3.row).1
 have hvl : ∀ x, v.ownBlock = some x → x < w3.heap.size := fun x hx => ownI_lt h3.own hx
 have hgmp : g ≠ mp := by
  rcases hat with e | e
  · exact (h.far g e).2.1
  · omega
 have hgw : w.heap.size ≤ g := by
  rcases hat with e | e
  · exact (h.far g e).1
  · have := h3.turned.size; omega
 have hgG : ¬ G' g := by
  rcases hat with e | e
  · exact (h.far g e).2.2
  · intro hg; have := h3.rs.lt g hg; omega
 have hT : Turned (fun x => v.ownBlock = some x ∨ x = mp) w3 (w5.setCell ⟨mp, 0, none⟩ (.slice (some ⟨g, 0, none⟩) (k + 1 + 1) c)) :=
  (((Turned.refl _ w3).grown hgrow (fun _ _ e => .inl e)).setCell (fun _ => .inr rfl) _)
 have hr5 := (hgrow.block mp hmp (fun e => (h.far mp e.symm).2.1 rfl)).trans h3.row
 refine ⟨rSc hr5 0 _, ownsRow_setCell_other hown (by simp [Value.ownBlock, hgmp]) _, h3.ps.kept hT (fun x hx e => ?_), h3.rs.kept hT (fun x hx e => ?_), h3.ext.wide hT.size, h3.turned.trans hT (fun x hlt e => ?_), h.new, fun g' hg' => ?_, h.ap⟩
 · rcases e with e | e
   · have := (h.far x e).1; have := hFw x hx; omega
   · subst e; exact h.new.2.1 hx
 · rcases e with e | e
   · exact (h.far x e).2.2 hx
   · subst e; exact h.new.2.2 hx
 · rcases e with e | e
   · have := (h.far x e).1; omega
   · subst e; have := h.new.1; omega
 · obtain rfl : g = g' := by simpa [Value.ownBlock] using hg'
   exact ⟨hgw, hgmp, hgG⟩
end
section
open Go Go.RowKit
theorem across_any (s r : Nat) (L : List TermD) (F G : Nat → Prop) (hG : Good L) (hM : AllMay L) (hl : L.length ≤ 10000) (w : World) (hs : ProgStore w s F L) (hr : RefStore w r G L) (hap : ∀ x, F x → ¬ G x) :
    Calls Tryz.prog 11 #[.pointer (some ⟨s, 0, none⟩), .pointer (some ⟨r, 0, none⟩)] w (AcPost L G w) := by
 obtain ⟨i0, hi0, hz0, hz1, hz2⟩ := info_parts infoI
 have hFw := hs.lt
 have hGw := hr.lt
 have hst : AcIn s r L F G w (w.heap.size + 1) 0 ((w.alloc (.cells #[.int .i64 0] 3)).alloc (.cells #[.slice (some ⟨w.heap.size, 0, none⟩) 1 1] 115)) (.slice (some ⟨w.heap.size, 0, none⟩) 1 1) G := by
  have hb2 := ((Below.refl w.heap.size w).alloc (Nat.le_refl _) (.cells #[.int .i64 0] 3)).alloc (by simp) (.cells #[.slice (some ⟨w.heap.size, 0, none⟩) 1 1] 115)
  have h := rAl (w := w.alloc (.cells #[.int .i64 0] 3)) #[.slice (some ⟨w.heap.size, 0, none⟩) 1 1] 115 (0, 0)
  refine ⟨by simpa using h, ?_, hs.new hb2, hr.new hb2, Ext.refl _ _ _, Turned.new G hb2, ⟨by omega, fun hf => ?_, fun hf => ?_⟩, fun g hg => ?_, hap⟩
  · exact oIk (ownI_one w 0) (Turned.new (fun _ => False) ((Below.refl _ _).alloc (Nat.le_refl _) _)) (fun _ _ h => h)
  · have := hFw _ hf; omega
  · have := hGw _ hf; omega
  · obtain rfl : w.heap.size = g := by simpa [Value.ownBlock] using hg
    exact ⟨Nat.le_refl _, by omega, fun hf => by have := hGw _ hf; omega⟩
 have Hst := hQ hst; clear hst
 have HFw := hQ hFw; clear hFw
 have HG := hQ hG; clear hG
 have HM := hQ hM; clear hM
 have hlI : (L.length : Int) ≤ 10000 := by omega
 clear hs hr hap hGw
 go_enter Tryz.func11, Tryz.ntmps11
 go_wp2_with (go_at_call 42; refine (slen_any s F L _ Hst.out.ps).mono ?_; rintro e wx ⟨rfl, hwx⟩; subst wx)
 obtain ⟨mp, hmp⟩ : ∃ mp, mp = w.heap.size + 1 := ⟨_, rfl⟩
 rw [← hmp] at Hst ⊢
 have Hmp := hQ hmp; clear hmp
 go_loopw [7] (fun i wr => AcRel s r L F G w mp i wr) (fun i _ => L.length + 1 - (intOf i).toNat)
 case atStart => exact ⟨0, _, G, Nat.zero_le _, rfl, Hst.out⟩
 case round =>
  obtain ⟨k, v, G', hk, rfl, hin⟩ := hrel
  have Hin := hQ hin; clear hin
  by_cases hlt : k < L.length
  · have hget := sget_any s F L ((k : Int) + 1) wr Hin.out.ps (by omega)
    have hth : thereD L.length ((k : Int) + 1) = true := by unfold thereD; simp; omega
    have hgt : getT L ((k : Int) + 1) = L.getD k zeroT := by unfold getT; rw [hth]; simp
    rw [hgt, hth] at hget
    have hLk := getD_get hlt
    have hparts := HG.out.parts k _ hLk
    have hok := HG.out.ok _ (List.mem_of_getElem? hLk)
    generalize L.getD k zeroT = t at hget hLk hparts hok
    obtain ⟨kd, tn, ta, tb⟩ := t
    simp only at hparts
    obtain ⟨an, rfl⟩ : ∃ an : Nat, ta = an := ⟨ta.toNat, by omega⟩
    obtain ⟨bn, rfl⟩ : ∃ bn : Nat, tb = bn := ⟨tb.toNat, by omega⟩
    have han : an ≤ k := by omega
    have hbn : bn ≤ k := by omega
    have hmay : mayD L.length ⟨kd, tn, an, bn⟩ = true := HM.out _ (List.mem_of_getElem? hLk)
    obtain ⟨m1, m2, m3⟩ := make_there HG.out hLk hmay
    have hmk := fun W hW => rmake_any r G' L ⟨kd, tn, an, bn⟩ hok HG.out (by omega) W hW
    unfold RMakePost at hmk
    rw [m1, m2, m3] at hmk
    have Hmk := hQ hmk; clear hmk m1 m2 m3 hmay hok hLk hparts hth hgt
    unfold TermD.arr at hget
    have Hget := hQ hget; clear hget
    have hkL : (k : Int) + 1 ≤ L.length := by omega
    have hanI : (an : Int) < (k : Int) + 1 := by omega
    have hbnI : (bn : Int) < (k : Int) + 1 := by omega
    have hkB : (k : Int) ≤ 10000 := by omega
    go_wp2_with (first
     | (go_at_call 42; refine (slen_any s F L _ Hin.out.ps).mono ?_; rintro e wx ⟨rfl, hwx⟩; subst wx)
     | (go_at_call 43; refine Hget.out.mono ?_; rintro e w1 ⟨rfl, hb1⟩; have Hb1 := hQ hb1; clear hb1))
    have hba := Hb1.out.alloc Hb1.out.size (.cells #[.int .u8 kd, .int .i64 tn, .int .i64 an, .int .i64 bn] 107)
    have hrow := rAl (w := w1) #[.int .u8 kd, .int .i64 tn, .int .i64 an, .int .i64 bn] 107 (0, 0)
    obtain ⟨g, c, rfl, hgl, cm, cg⟩ := ac_read (Hin.out.new' hba)
    obtain ⟨g0, c0, e0, hgl0, _⟩ := ac_read Hin.out
    obtain ⟨rfl, rfl⟩ : g = g0 ∧ c = c0 := by simpa using e0
    have hmq : mp ≠ w1.heap.size := fun e => by
     have := (Array.getElem?_eq_some_iff.1 Hin.out.row).1
     have := Hb1.out.size
     omega
    have hgq : g ≠ w1.heap.size := fun e => by
     have := Hb1.out.size
     omega
    have ca := cg an (by omega)
    have cb := cg bn (by omega)
    have Hqs := hQ (show wr.heap.size ≤ w1.heap.size from Hb1.out.size)
    have Hba := hQ hba; clear hba
    have Hrow := hQ hrow; clear hrow
    have hqs : w1.heap.size < (w1.alloc (.cells #[.int .u8 kd, .int .i64 tn, .int .i64 an, .int .i64 bn] 107)).heap.size := by simp
    obtain ⟨q, hq⟩ : ∃ q, q = w1.heap.size := ⟨_, rfl⟩
    rw [← hq] at hmq hgq Hqs Hrow hqs ⊢
    clear hq cg e0 hgl0 hgl Hb1
    generalize w1.alloc (.cells #[.int .u8 kd, .int .i64 tn, .int .i64 an, .int .i64 bn] 107) = wa at cm ca cb Hba Hrow hqs ⊢
    have y0 : wa.cell? ⟨q, 0, none⟩ = some (.int .u8 kd) := (cRw Hrow.out 0).trans rfl
    have y1 : wa.cell? ⟨q, 1, none⟩ = some (.int .i64 tn) := (cRw Hrow.out 1).trans rfl
    have y2 : wa.cell? ⟨q, 2, none⟩ = some (.int .i64 an) := (cRw Hrow.out 2).trans rfl
    have y3 : wa.cell? ⟨q, 3, none⟩ = some (.int .i64 bn) := (cRw Hrow.out 3).trans rfl
    have z2 := fRw Hrow.out 2
    have z3 := fRw Hrow.out 3
    go_wp2_with fail
    go_region
    all_goals
     go_wp2_with fail
     go_region
    all_goals
     clear ca cb z2 z3
     go_wp2_with fail
     have hbx := ((Hba.out.setCell (p := ⟨q, 2, none⟩) Hqs.out (.int .i64 an)).setCell (p := ⟨q, 3, none⟩) Hqs.out (.int .i64 bn)).drew.drew
     have hin2 := Hin.out.new' hbx
     clear hbx y0 y1 y2 y3 cm Hba Hrow Hqs hqs hgq hmq
     generalize ((wa.setCell ⟨q, 2, none⟩ (.int .i64 an)).setCell ⟨q, 3, none⟩ (.int .i64 bn)).drew.drew = wb at hin2 ⊢
     refine (Hmk.out _ hin2.rs).mono ?_
     rintro e w2 ⟨rfl, G2, hx2, hs2, hT2⟩
     have hin3 := hin2.ref hx2 hs2 hT2
     clear hin2 hx2 hs2 hT2 Hmk Hin Hget
     have cm : w2.cell? ⟨mp, 0, none⟩ = some (.slice (some ⟨g, 0, none⟩) (k + 1) c) := (cRw hin3.row 0).trans rfl
     have zm := fRw hin3.row 0
     have hml : mp < w2.heap.size := (Array.getElem?_eq_some_iff.1 hin3.row).1
     have hown3 : w2.ownsRow 0 3 1 (.slice (some ⟨g, 0, none⟩) (k + 1) c) (k + 1) ((idL (k + 1)).map intV) := by
      have h3 := hin3.own
      unfold OwnI at h3
      rw [idL_len] at h3
      exact h3
     have Hin3 := hQ hin3; clear hin3
     have Hown3 := hQ hown3; clear hown3
     have Hmne := hQ (show some mp ≠ (Value.slice (some ⟨g, 0, none⟩) (k + 1) c).ownBlock from fun e => (Hin3.out.far mp e.symm).2.1 rfl)
     go_wp2_with (at_builtin; refine wpList_append_lies _ rfl (.tmp 84) (.tmp 86) 27 rfl 0 3 i0 (.int .i64 0) 1 8 Tryz.underlying27 hi0 hz0 hz1 hz2 rfl (by decide) (.slice (some ⟨g, 0, none⟩) (k + 1) c) (k + 1) ((idL (k + 1)).map intV) rfl (Hown3.out.alloc _) ⟨w2.heap.size, 0, none⟩ 1 1 [intV ((k : Int) + 1)] rfl rfl (cell_one_new _ _ _) (by intro u hu; simp [intV] at hu; rw [hu]; rfl) (by omega) (by unfold maxLen; omega) (by omega) (Nat.zero_le _) (w2.heap.size + 1) (by simp) ?_; intro g5 c5 w5 hown5 hgrow5 hat5 hlt5; have hr5 : w5.heap[mp]? = some (.cells #[.slice (some ⟨g, 0, none⟩) (k + 1) c] 115 (0, 0)) := (hgrow5.block mp (Nat.lt_of_lt_of_le hml (by simp)) Hmne.out).trans ((heap_alloc_old _ _ hml).trans Hin3.out.row); have z5 := fRw hr5 0; have d5 : w5.cell? ⟨mp, 0, none⟩ = some (.slice (some ⟨g, 0, none⟩) (k + 1) c) := (cRw hr5 _).trans rfl; clear hr5 hlt5; have Hown5 := hQ hown5; clear hown5; have Hgrow5 := hQ hgrow5; clear hgrow5; have Hat5 := hQ hat5; clear hat5)
     clear cm
     have hown6 : OwnI (.slice (some ⟨g5, 0, none⟩) (k + 1 + 1) c5) (idL (k + 1 + 1)) w5 := by
      unfold OwnI
      rw [idL_succ, List.length_append, List.map_append, idL_len]
      exact Hown5.out
     have hstep := ac_step (w3 := w2.alloc (.cells #[.int .i64 ((k : Int) + 1)] 3)) (g := g5) (c := c5) Hin3.out HFw.out ((Below.refl _ _).alloc (Nat.le_refl _) _) hown6 Hgrow5.out (by simpa using Hat5.out)
     refine ⟨⟨k + 1, _, G2, by omega, by go_num, hstep⟩, by simp [intOf]; omega⟩
  · obtain rfl : k = L.length := by omega
    have hkB : (L.length : Int) < (L.length : Int) + 1 := by omega
    go_wp2_with (go_at_call 42; refine (slen_any s F L _ Hin.out.ps).mono ?_; rintro e wx ⟨rfl, hwx⟩; subst wx)
    go_ret2
    exact ⟨mp, rfl, ⟨v, Hin.out.row, Hin.out.own, fun g hg => (Hin.out.far g hg).2.1⟩, Hin.out.turned⟩
end
section
open Go Go.RowKit
def Lives : Prop := ∀ W : World, TzEnv W → 3 ≤ W.heap.size → Calls Tryz.prog 14 #[] W fun e w' => e = .returned (.bool true) ∧ Below W.heap.size W w'
end
section
open Go Go.RowKit
theorem arblank_any (p m e : Int) (a : Option Addr) (k c : Nat) (w : World) :
    Calls Tryz.prog 290 #[.agg #[.int .i64 p, .int .i64 m, .int .i64 e, .slice a k c]] w fun r w' => r = .returned (.bool (decide (p = 0) && decide (m = 0) && decide (e = 0) && decide (k = 0))) ∧ Below w.heap.size w w' := by
 have hb := (Below.refl w.heap.size w).alloc (Nat.le_refl _) (.cells #[.int .i64 p, .int .i64 m, .int .i64 e, .slice a k c] 125)
 have Hb := hQ hb; clear hb
 have hc : p ≠ 0 ∨ (p = 0 ∧ m ≠ 0) ∨ (p = 0 ∧ m = 0 ∧ e ≠ 0) ∨ (p = 0 ∧ m = 0 ∧ e = 0 ∧ k ≠ 0) ∨ (p = 0 ∧ m = 0 ∧ e = 0 ∧ k = 0) := by omega
 rcases hc with h | ⟨rfl, h⟩ | ⟨rfl, rfl, h⟩ | ⟨rfl, rfl, rfl, h⟩ | ⟨rfl, rfl, rfl, rfl⟩
 · have h0 : (p == 0) = false := beq_eq_false_iff_ne.2 h
   go_enter Tryz.func290, Tryz.ntmps290
   go_wp2
   go_ret
   exact ⟨by simp [h], Hb.out⟩
 · have h0 : (m == 0) = false := beq_eq_false_iff_ne.2 h
   go_enter Tryz.func290, Tryz.ntmps290
   go_wp2
   go_ret
   exact ⟨by simp [h], Hb.out⟩
 · have h0 : (e == 0) = false := beq_eq_false_iff_ne.2 h
   go_enter Tryz.func290, Tryz.ntmps290
   go_wp2
   go_ret
   exact ⟨by simp [h], Hb.out⟩
 · have h0 : ((k : Int) == 0) = false := beq_eq_false_iff_ne.2 (by omega)
   go_enter Tryz.func290, Tryz.ntmps290
   go_wp2
   go_ret
   exact ⟨by simp [h], Hb.out⟩
 · go_enter Tryz.func290, Tryz.ntmps290
   go_wp2
   go_ret
   exact ⟨by simp, Hb.out⟩
theorem arleaf_any (p m e : Int) (a : Option Addr) (k c : Nat) (w : World) :
    Calls Tryz.prog 192 #[.agg #[.int .i64 p, .int .i64 m, .int .i64 e, .slice a k c]] w fun r w' =>
     r = .returned (.bool ((decide (p = 0) && decide (m = 0) && decide (e = 0) && decide (k = 0)) || (decide (0 < p) && decide (0 ≤ m) && decide (0 ≤ e) && decide (k = 0)))) ∧ Below w.heap.size w w' := by
 have hb := (Below.refl w.heap.size w).alloc (Nat.le_refl _) (.cells #[.int .i64 p, .int .i64 m, .int .i64 e, .slice a k c] 125)
 have hrow := rAl (w := w) #[.int .i64 p, .int .i64 m, .int .i64 e, .slice a k c] 125 (0, 0)
 have Hb := hQ hb; clear hb
 have Hrow := hQ hrow; clear hrow
 have hs : w.heap.size < (w.alloc (.cells #[.int .i64 p, .int .i64 m, .int .i64 e, .slice a k c] 125)).heap.size := by simp
 have Hs := hQ hs; clear hs
 have hbl := arblank_any p m e a k c
 generalize hbd : (decide (p = 0) && decide (m = 0) && decide (e = 0) && decide (k = 0)) = bd at hbl ⊢
 have Hbl := hQ hbl; clear hbl hbd
 have hc : p ≤ 0 ∨ (¬ p ≤ 0 ∧ m < 0) ∨ (¬ p ≤ 0 ∧ ¬ m < 0 ∧ e < 0) ∨ (¬ p ≤ 0 ∧ ¬ m < 0 ∧ ¬ e < 0 ∧ k ≠ 0) ∨ (¬ p ≤ 0 ∧ ¬ m < 0 ∧ ¬ e < 0 ∧ k = 0) := by omega
 cases bd with
 | true =>
  clear hc
  go_enter Tryz.func192, Tryz.ntmps192
  go_wp2_with fail
  refine (Hbl.out _).mono ?_
  rintro r w2 ⟨rfl, hb2⟩
  have Hb2 := hQ (Hb.out.trans (hb2.mono (Nat.le_of_lt Hs.out))); clear hb2
  go_wp2
  go_ret
  exact ⟨rfl, Hb2.out⟩
 | false =>
  rcases hc with h | ⟨h1, h⟩ | ⟨h1, h2, h⟩ | ⟨h1, h2, h3, h⟩ | ⟨h1, h2, h3, rfl⟩
  all_goals
   go_enter Tryz.func192, Tryz.ntmps192
   go_wp2_with fail
   refine (Hbl.out _).mono ?_
   rintro r w2 ⟨rfl, hb2⟩
   have hr := (hb2.block w.heap.size Hs.out).trans Hrow.out
   have n0 := (cRw hr 0).trans rfl
   have n1 := (cRw hr 1).trans rfl
   have n2 := (cRw hr 2).trans rfl
   have n3 := (cRw hr 3).trans rfl
   have Hb2 := hQ (Hb.out.trans (hb2.mono (Nat.le_of_lt Hs.out))); clear hb2 hr
   go_wp2
   go_ret
   exact ⟨by first | rfl | (simp; done) | (simp; omega) | (simp; intros; omega) | (simp_all; done), Hb2.out⟩
end
section
open Go Go.RowKit
def RParRel (T : List NodeD) (x : Nat) (l : List Int) (W : World) (i : Value) (wr : World) : Prop :=
 ∃ (k : Nat) (f : Int), k ≤ l.length ∧ i = .int .i64 k ∧ ((spF x : Nat) : Int) ≤ f ∧ wr = W ∧ unD T (spL x : Nat) f (l.drop k) = unD T (spL x : Nat) (spF x : Nat) l ∧ ((k = 0 ∧ f = (spF x : Nat)) ∨ (0 < k ∧ f = l.getD (k - 1) 0 + 1))
theorem arparent_T (B n x : Nat) (hn : isN n) (T : List NodeD) (hTn : T.length = 2 * n - 1) (hx : x < T.length) (ho : x % 2 = 1) (hul : (nodeD T x).um.length ≤ 9223372036854775807) (a : Option Addr) (c : Nat) (w : World) (hB : B ≤ w.heap.size) (hT : TreeAt B w a T) :
    Calls Tryz.prog 193 #[.agg #[.slice a T.length c], .int .i64 x] w fun r w' => r = .returned (.bool (parentD T x)) ∧ Below w.heap.size w w' := by
 have hb := (Below.refl w.heap.size w).alloc (Nat.le_refl _) (.cells #[.slice a T.length c] 44)
 obtain ⟨hs1, hs2⟩ := span_in hn (by omega : x < 2 * n - 1) ho
 have hbox := rAl (w := w) #[.slice a T.length c] 44 (0, 0)
 have hT1 := hT.below (hb.mono hB)
 have Hbox := hQ hbox; clear hbox
 obtain ⟨b, o, rfl, hnode⟩ := hT x hx
 obtain ⟨ua, uc, k3, hnum0⟩ := hnode.c3
 have hnum := hnum0.below (hb.mono hB)
 have hbl : b < w.heap.size := Nat.lt_of_lt_of_le hnode.lt hB
 clear hnum0
 have k0 := hnode.c0
 have k1 := hnode.c1
 have k2 := hnode.c2
 have hpar : parentD T x = if (nodeD T x).pub < 1 ∨ (nodeD T x).mem ≠ 0 ∨ (nodeD T x).ep ≠ 0 then blankD (nodeD T x) else unD T (spL x : Nat) (spF x : Nat) (nodeD T x).um := rfl
 have hblk : blankD (nodeD T x) = (decide ((nodeD T x).pub = 0) && decide ((nodeD T x).mem = 0) && decide ((nodeD T x).ep = 0) && decide ((nodeD T x).um.length = 0)) := rfl
 generalize nodeD T x = d at k0 k1 k2 k3 hnum hpar hul hblk
 obtain ⟨p, m, e, um⟩ := d
 simp only at k0 k1 k2 k3 hnum hpar hul hblk
 have hb2 := hb.alloc (by simp) (.cells #[.int .i64 p, .int .i64 m, .int .i64 e, .slice ua um.length uc] 125)
 have hxI : (x : Int) < T.length := by omega
 have h15 : (T.length : Int) ≤ 15 := by rcases hn with h | h | h | h <;> omega
 have Hs1 := hQ (show 2 * spL x < T.length by omega)
 have H15 := hQ h15
 have Hb2 := hQ hb2
 have HT1 := hQ hT1
 have HN := hQ hnum
 have hbla := arblank_any p m e ua um.length uc
 rw [← hblk] at hbla
 obtain ⟨bd, hbd⟩ : ∃ bd, bd = blankD ⟨p, m, e, um⟩ := ⟨_, rfl⟩
 rw [← hbd] at hbla hpar hblk
 have Hbla := hQ hbla; clear hbla
 have hbad0 : bd = true → p = 0 := fun h => by rw [h] at hblk; simp at hblk; exact hblk.1.1.1
 have Hpar0 := hQ hpar
 have Hbad0 := hQ hbad0
 have hbx3 : ∀ w3, Below ((w.alloc (.cells #[.slice (some ⟨b, o, none⟩) T.length c] 44)).alloc (.cells #[.int .i64 p, .int .i64 m, .int .i64 e, .slice ua um.length uc] 125)).heap.size ((w.alloc (.cells #[.slice (some ⟨b, o, none⟩) T.length c] 44)).alloc (.cells #[.int .i64 p, .int .i64 m, .int .i64 e, .slice ua um.length uc] 125)) w3 →
     Below w.heap.size w w3 ∧ w3.heap[w.heap.size]? = some (.cells #[.slice (some ⟨b, o, none⟩) T.length c] 44 (0, 0)) ∧ w3.heap[w.heap.size + 1]? = some (.cells #[.int .i64 p, .int .i64 m, .int .i64 e, .slice ua um.length uc] 125 (0, 0)) ∧ TreeAt B w3 (some ⟨b, o, none⟩) T ∧ NumsAt B w3 ua um := fun w3 h3 => by
  have hal := (Below.refl B (w.alloc (.cells #[.slice (some ⟨b, o, none⟩) T.length c] 44))).alloc (by simp; omega) (.cells #[.int .i64 p, .int .i64 m, .int .i64 e, .slice ua um.length uc] 125)
  refine ⟨Hb2.out.trans (h3.mono Hb2.out.size), ?_, ?_, (HT1.out.below hal).below (h3.mono (by simp; omega)), (HN.out.below hal).below (h3.mono (by simp; omega))⟩
  · exact (h3.block _ (by simp; omega)).trans ((Below.heap_alloc _ _ _ (by simp)).trans Hbox.out)
  · have := rAl (w := w.alloc (.cells #[.slice (some ⟨b, o, none⟩) T.length c] 44)) #[.int .i64 p, .int .i64 m, .int .i64 e, .slice ua um.length uc] 125 (0, 0)
    exact (h3.block _ (by simp)).trans (by simpa using this)
 have Hbx3 := hQ hbx3
 clear hT hnode hTn hT1 hs1 hb hb2 hnum hpar hblk hbad0 hbx3 hbd h15
 go_enter Tryz.func193, Tryz.ntmps193
 go_wp2_with fail
 refine (Hbla.out _).mono ?_
 rintro r wx ⟨rfl, hb3⟩
 obtain ⟨hbx, hboxx, hndx, hTx, hNx⟩ := Hbx3.out wx hb3
 clear hb3 k0 k1 k2 k3
 have Hbx := hQ hbx
 cases bd with
 | true =>
  have hp0 := Hbad0.out rfl
  have hpt : parentD T x = true := by rw [Hpar0.out, if_pos (.inl (by omega))]
  have Hpt := hQ hpt
  clear hbx hboxx hndx hTx hNx hp0 hpt
  go_wp2
  go_ret
  exact ⟨by rw [Hpt.out]; rfl, Hbx.out⟩
 | false =>
  have k0 := (cRw hndx 0).trans rfl
  have k1 := (cRw hndx 1).trans rfl
  have k2 := (cRw hndx 2).trans rfl
  have k3 := (cRw hndx 3).trans rfl
  have kb := (cRw hboxx 0).trans rfl
  have HTx := hQ hTx
  have HNx := hQ hNx
  clear hbx hboxx hndx hTx hNx Hbla Hbx3 Hb2 HT1 HN Hbox
  obtain ⟨q, hq⟩ : ∃ q, q = w.heap.size := ⟨_, rfl⟩
  rw [← hq] at k0 k1 k2 k3 kb ⊢
  have HQ := hQ hq; clear hq
  by_cases hbad : p < 1 ∨ m ≠ 0 ∨ e ≠ 0
  · have hpt : parentD T x = false := by rw [Hpar0.out, if_pos hbad]
    have Hpt := hQ hpt
    have hc : p ≤ 0 ∨ (¬ p ≤ 0 ∧ m ≠ 0) ∨ (¬ p ≤ 0 ∧ m = 0 ∧ e ≠ 0) := by omega
    clear hbad hpt
    rcases hc with h | ⟨hp, h⟩ | ⟨hp, rfl, h⟩
    · go_wp2
      go_ret
      exact ⟨by rw [Hpt.out]; rfl, Hbx.out⟩
    · have h0 : (m == 0) = false := beq_eq_false_iff_ne.2 h
      go_wp2
      go_ret
      exact ⟨by rw [Hpt.out]; rfl, Hbx.out⟩
    · have h0 : (e == 0) = false := beq_eq_false_iff_ne.2 h
      have h00 : (e != 0) = true := by simp [bne, h0]
      go_wp2
      go_ret
      exact ⟨by rw [Hpt.out]; rfl, Hbx.out⟩
  · have hpt := Hpar0.out
    rw [if_neg hbad] at hpt
    have Hpar := hQ hpt
    obtain ⟨hp, rfl, rfl⟩ : ¬ p ≤ 0 ∧ m = 0 ∧ e = 0 := by omega
    have hulI : (um.length : Int) ≤ 9223372036854775807 := by omega
    clear hpt hbad hbl hxI hB
    go_wp2_with fail
    refine (arspan_any x hs2 ho _).mono ?_
    rintro r wy ⟨rfl, hwy⟩
    subst wy
    clear k0 k1 k2 hs2 ho hx hp
    go_wp2
    go_loopw [8] (fun i wr => RParRel T x um wx i wr) (fun i _ => um.length - (intOf i).toNat)
    case atStart => exact ⟨0, _, Nat.zero_le _, rfl, Int.le_refl _, rfl, rfl, .inl ⟨rfl, rfl⟩⟩
    case round =>
     obtain ⟨k, f, hk, rfl, hf0, rfl, hun, hcase⟩ := hrel
     by_cases hlt : k < um.length
     · rw [un_step hlt] at hun
       obtain ⟨ub, uo, rfl, hub, ku⟩ := HNx.out k hlt
       have hkI : (k : Int) < um.length := by omega
       have hprev : 0 < k → wr.cell? ⟨ub, uo + (k - 1), none⟩ = some (.int .i64 (um.getD (k - 1) 0)) := fun h => by
        obtain ⟨ub', uo', e, _, kp⟩ := HNx.out (k - 1) (by omega)
        obtain ⟨rfl, rfl⟩ : ub = ub' ∧ uo = uo' := by simpa using e
        exact kp
       obtain ⟨u, hu⟩ : ∃ u, u = um.getD k 0 := ⟨_, rfl⟩
       rw [← hu] at ku hun
       have Hu := hQ hu; clear hu
       have Hprev := hQ hprev; clear hprev
       have Hcase := hQ hcase; clear hcase
       by_cases h1 : u < ((spF x : Nat) : Int)
       · rw [if_pos (.inl (by omega))] at hun
         have Hun := hQ hun; clear hun
         go_wp2
         go_ret
         exact ⟨by rw [Hpar.out, ← Hun.out]; rfl, Hbx.out⟩
       · by_cases h2 : ((spL x : Nat) : Int) < u
         · rw [if_pos (.inr (.inl h2))] at hun
           have Hun := hQ hun; clear hun
           go_wp2
           go_ret
           exact ⟨by rw [Hpar.out, ← Hun.out]; rfl, Hbx.out⟩
         · obtain ⟨v, rfl⟩ : ∃ v : Nat, u = v := ⟨u.toNat, by omega⟩
           have hv2 : 2 * v < T.length := by have := Hs1.out; omega
           obtain ⟨b', o', e', hnv⟩ := HTx.out (2 * v) hv2
           obtain ⟨rfl, rfl⟩ : b = b' ∧ o = o' := by simpa using e'
           have kv := hnv.c0
           clear hnv e'
           rw [show (2 * (v : Int)).toNat = 2 * v by omega] at hun
           have hvI : 2 * (v : Int) < T.length := by omega
           have hv7 : (v : Int) ≤ 7 := by have := H15.out; omega
           have hv0 : 0 ≤ 2 * (v : Int) := by omega
           have kw : wr.cell? ⟨b, o + (2 * (v : Int)).toNat * 4, none⟩ = some (.int .i64 (nodeD T (2 * v)).pub) := by rw [show (2 * (v : Int)).toNat = 2 * v by omega]; exact kv
           clear hv2
           by_cases h3 : (nodeD T (2 * v)).pub = 0
           · rw [if_pos (.inr (.inr h3))] at hun
             rw [h3] at kv kw
             have Hun := hQ hun; clear hun
             go_wp2
             go_ret
             exact ⟨by rw [Hpar.out, ← Hun.out]; rfl, Hbx.out⟩
           · have hp0 : ((nodeD T (2 * v)).pub == 0) = false := beq_eq_false_iff_ne.2 h3
             have Hh3 := hQ h3
             generalize hpvd : (nodeD T (2 * v)).pub = pv at kv kw hp0 hun
             have hpv : ¬ pv = 0 := by rw [← hpvd]; exact h3
             have Hpv := hQ hpv
             clear h3 hpvd hpv
             by_cases h4 : k = 0
             · have hk0 : ¬ 0 < (k : Int) := by omega
               have hf : f = ((spF x : Nat) : Int) := by
                rcases Hcase.out with ⟨_, h⟩ | ⟨h, _⟩
                · exact h
                · omega
               rw [if_neg (fun h => h.elim (fun h => h1 (by omega)) (fun h => h.elim h2 Hpv.out))] at hun
               have Hun := hQ hun; clear hun
               have Hh1 := hQ h1
               clear h4
               go_wp2
               exact ⟨⟨k + 1, (v : Int) + 1, by omega, by go_num, by have := Hh1.out; omega, rfl, Hun.out, .inr ⟨by omega, by rw [Nat.add_sub_cancel, ← Hu.out]⟩⟩, by simp [intOf]; omega⟩
             · obtain ⟨j, rfl⟩ : ∃ j, k = j + 1 := ⟨k - 1, by omega⟩
               have kj := Hprev.out (by omega)
               rw [Nat.add_sub_cancel] at kj
               have hf : f = um.getD j 0 + 1 := by
                rcases Hcase.out with ⟨h, _⟩ | ⟨_, h⟩
                · omega
                · rw [Nat.add_sub_cancel] at h; exact h
               generalize um.getD j 0 = pr at kj hf
               by_cases h5 : (v : Int) ≤ pr
               · rw [if_pos (.inl (by omega))] at hun
                 have Hun := hQ hun; clear hun
                 go_wp2
                 go_ret
                 exact ⟨by rw [Hpar.out, ← Hun.out]; rfl, Hbx.out⟩
               · rw [if_neg (fun h => h.elim (fun h => h5 (by omega)) (fun h => h.elim h2 Hpv.out))] at hun
                 have Hun := hQ hun; clear hun
                 have Hh1 := hQ h1
                 go_wp2
                 exact ⟨⟨j + 1 + 1, (v : Int) + 1, by omega, by go_num, by have := Hh1.out; omega, rfl, Hun.out, .inr ⟨by omega, by rw [Nat.add_sub_cancel, ← Hu.out]⟩⟩, by simp [intOf]; omega⟩
     · obtain rfl : k = um.length := by omega
       rw [un_end] at hun
       have Hun := hQ hun; clear hun hcase
       go_wp2
       go_ret
       exact ⟨by rw [Hpar.out, ← Hun.out]; rfl, Hbx.out⟩
end
end Go.Proofs.YtedpljclnpiggaaGreatDoor
