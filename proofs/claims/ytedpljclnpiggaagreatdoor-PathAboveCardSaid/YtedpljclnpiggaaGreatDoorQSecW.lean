/-
  Secrets of both sides: the walks.
-/
import Derived.Test.YtedpljclnpiggaaGreatDoorQSecs
set_option linter.unusedVariables false
set_option linter.unusedSimpArgs false
namespace Go.Proofs.YtedpljclnpiggaaGreatDoor
open Go Go.RowKit

def RSecRel (r : Nat) (F : Nat → Prop) (L : List TermD) (seed : Int) (m : Nat) (w : World) (v i : Value) (wr : World) : Prop :=
  ∃ k : Nat, k ≤ m ∧ i = .int .i64 k ∧ SecAt (fun w F L => RefStore w r F L) F L seed m w k v wr

theorem sec_last {l : List Int} {pre : List Int} {last : Int} (h : l = pre ++ [last]) : l.getD pre.length 0 = last := by
  subst h
  simp [List.getD_eq_getElem?_getD]

set_option maxRecDepth 100000 in
set_option maxHeartbeats 1600000 in
theorem rsecrets_any (r : Nat) (F : Nat → Prop) (L : List TermD) (seed many : Int) (hG : Good L) (hl : L.length ≤ 4000) (w : World) (h : RefStore w r F L) :
    Calls Tryz.prog 8 #[.pointer (some ⟨r, 0, none⟩), .int .i64 seed, .int .i64 many] w (SecPost (fun w F L => RefStore w r F L) F L seed many w) := by
  obtain ⟨i0, hi0, hz0, hz1, hz2⟩ := info_parts infoI
  have his := ris_any r F L seed w h (by omega)
  have H := Lib.hid h; clear h
  by_cases h0 : many < 0
  · have hbad : secretsBad L seed many = true := by simp [secretsBad, h0]
    have Hbad := Lib.hid hbad; clear hbad his
    go_enter Tryz.func8, Tryz.ntmps8
    go_wp2
    go_ret2
    exact sec_bad (refLaw r) Hbad.out H.out (Below.refl _ _)
  · by_cases h16 : 16 < many
    · have hbad : secretsBad L seed many = true := by simp [secretsBad, h16]
      have Hbad := Lib.hid hbad; clear hbad his
      go_enter Tryz.func8, Tryz.ntmps8
      go_wp2
      go_ret2
      exact sec_bad (refLaw r) Hbad.out H.out (Below.refl _ _)
    · obtain ⟨m, rfl⟩ : ∃ m : Nat, many = m := ⟨many.toNat, by omega⟩
      cases ht : thereD L.length seed with
      | false =>
        have hbad : secretsBad L seed m = true := by simp [secretsBad, ht]
        have Hbad := Lib.hid hbad; clear hbad
        rw [ht] at his
        have His := Lib.hid his; clear his ht
        have hm0 : (m : Int) ≤ 16 := by omega
        go_enter Tryz.func8, Tryz.ntmps8
        go_wp2_with (go_at_call 39; refine His.out.mono ?_; rintro e w1 ⟨rfl, hb1⟩; have Hb1 := Lib.hid hb1; clear hb1)
        go_ret2
        exact sec_bad (refLaw r) Hbad.out H.out Hb1.out
      | true =>
        have hgood : secretsBad L seed m = false := by simp [secretsBad, ht]; omega
        have Hgood := Lib.hid hgood; clear hgood
        have Hthere := Lib.hid ht
        rw [ht] at his
        have His := Lib.hid his; clear his ht
        have hm0 : (m : Int) ≤ 16 := by omega
        have HG := Lib.hid hG; clear hG
        go_enter Tryz.func8, Tryz.ntmps8
        go_wp2_with (go_at_call 39; refine His.out.mono ?_; rintro e w1 ⟨rfl, hb1⟩; have Hb1 := Lib.hid hb1; clear hb1)
        have hst := sec_start (refLaw r) m Hb1.out H.out HG.out Hthere.out
        have Hst := Lib.hid hst; clear hst
        go_loopw [8, 9] (fun v i wr => RSecRel r F L seed m w v i wr) (fun _ i _ => m - (intOf i).toNat)
        case atStart => exact ⟨0, Nat.zero_le _, rfl, Hst.out⟩
        case round =>
          obtain ⟨k, hk, rfl, pre, last, Lk, F', hin⟩ := hrel
          by_cases hlt : k < m
          · have hown := hin.own
            obtain ⟨va, vc, hve, hvc⟩ := ownI_len hown
            rw [hve] at hown hin
            obtain ⟨gb, go, rfl, hcell⟩ := ownI_at hown k (by simp [hin.len])
            rw [show (pre ++ [last]).getD k 0 = last from by rw [← hin.len]; exact sec_last rfl] at hcell
            have hkdf := fun W hW => rkdf_any r F' Lk 1 last 0 (kdf_ok (by simp [i64ok]) (there_i64 hin.there (by have := hin.size; omega))) hin.good (by have := hin.size; omega) W hW
            change ∀ W, RefStore W r F' Lk → Calls _ _ _ _ (RPost r F' (makeL Lk (kdfT 1 last)) (.int .i64 (makeN Lk (kdfT 1 last))) W) at hkdf
            have hnl : (pre ++ [last]).length = k + 1 := by simp [hin.len]
            rw [hnl] at hve hin
            have Hin := Lib.hid hin; clear hin
            have Hkdf := Lib.hid hkdf; clear hkdf
            have Hnl := Lib.hid hnl; clear hnl hown hvc
            subst hve
            have hkm : (k : Int) < m := by omega
            go_wp2_with fail
            refine (Hkdf.out _ Hin.out.st).mono ?_
            rintro e w2 ⟨rfl, F2, hx2, hs2, hT2⟩
            have hown2 : w2.ownsRow 0 3 1 (.slice (some ⟨gb, go, none⟩) (k + 1) vc) (k + 1) ((pre ++ [last]).map intV) := by
              have h3 := ownI_kept Hin.out.own hT2 (fun g hg => (Hin.out.far g hg).2)
              unfold OwnI at h3
              rw [Hnl.out] at h3
              exact h3
            have Hx2 := Lib.hid hx2; clear hx2
            have Hs2 := Lib.hid hs2; clear hs2
            have HT2 := Lib.hid hT2; clear hT2
            have Hown2 := Lib.hid hown2; clear hown2
            clear hcell Hkdf
            go_wp2_with (at_builtin; refine wpList_append_own_at _ rfl _ _ 27 rfl 0 3 i0 (.int .i64 0) 1 8 Tryz.underlying27 hi0 hz0 hz1 hz2 rfl (by decide) _ (k + 1) ((pre ++ [last]).map intV) rfl (Hown2.out.alloc _) ⟨w2.heap.size, 0, none⟩ 1 1 [intV (makeN Lk (kdfT 1 last))] rfl rfl (cell_one_new _ _ _) (by intro u hu; simp [intV] at hu; rw [hu]; rfl) (by unfold maxLen; omega) (by omega) (Nat.zero_le _) ?_; intro v' w5 hown' hgrow hniff hblk)
            have hownn : OwnI v' ((pre ++ [last]) ++ [makeN Lk (kdfT 1 last)]) w5 := by
              unfold OwnI
              rw [List.length_append, List.map_append, Hnl.out]
              exact hown'
            exact ⟨⟨k + 1, by omega, by go_num, sec_step (refLaw r) Hin.out hlt (by omega) Hx2.out Hs2.out HT2.out hownn hgrow (hblk.imp id (fun h => by simpa using h))⟩, by simp [intOf]; omega⟩
          · obtain rfl : k = m := by omega
            have Hin := Lib.hid hin; clear hin
            go_wp2
            go_ret2
            exact sec_end Hgood.out ⟨pre, last, Lk, F', Hin.out⟩
def PSecRel (s : Nat) (F : Nat → Prop) (L : List TermD) (seed : Int) (m : Nat) (w : World) (v i : Value) (wr : World) : Prop :=
  ∃ k : Nat, k ≤ m ∧ i = .int .i64 k ∧ SecAt (fun w F L => ProgStore w s F L) F L seed m w k v wr

set_option maxRecDepth 100000 in
set_option maxHeartbeats 1600000 in
theorem psecrets_any (s : Nat) (F : Nat → Prop) (L : List TermD) (seed many : Int) (hG : Good L) (hl : L.length ≤ 4000) (w : World) (h : ProgStore w s F L) :
    Calls Tryz.prog 7 #[.pointer (some ⟨s, 0, none⟩), .int .i64 seed, .int .i64 many] w (SecPost (fun w F L => ProgStore w s F L) F L seed many w) := by
  obtain ⟨i0, hi0, hz0, hz1, hz2⟩ := info_parts infoI
  have his := sis_any s F L seed w h (by omega)
  have hal := palive_any s F L w h
  have Hal := Lib.hid hal; clear hal
  have H := Lib.hid h; clear h
  by_cases h0 : many < 0
  · have hbad : secretsBad L seed many = true := by simp [secretsBad, h0]
    have Hbad := Lib.hid hbad; clear hbad his
    go_enter Tryz.func7, Tryz.ntmps7
    go_wp2_with (go_at_call 36; refine Hal.out.mono ?_; rintro e wx ⟨rfl, hwx⟩; subst wx)
    go_ret2
    exact sec_bad (progLaw s) Hbad.out H.out (Below.refl _ _)
  · by_cases h16 : 16 < many
    · have hbad : secretsBad L seed many = true := by simp [secretsBad, h16]
      have Hbad := Lib.hid hbad; clear hbad his
      go_enter Tryz.func7, Tryz.ntmps7
      go_wp2_with (go_at_call 36; refine Hal.out.mono ?_; rintro e wx ⟨rfl, hwx⟩; subst wx)
      go_ret2
      exact sec_bad (progLaw s) Hbad.out H.out (Below.refl _ _)
    · obtain ⟨m, rfl⟩ : ∃ m : Nat, many = m := ⟨many.toNat, by omega⟩
      cases ht : thereD L.length seed with
      | false =>
        have hbad : secretsBad L seed m = true := by simp [secretsBad, ht]
        have Hbad := Lib.hid hbad; clear hbad
        rw [ht] at his
        have His := Lib.hid his; clear his ht
        have hm0 : (m : Int) ≤ 16 := by omega
        go_enter Tryz.func7, Tryz.ntmps7
        go_wp2_with (first | (go_at_call 36; refine Hal.out.mono ?_; rintro e wx ⟨rfl, hwx⟩; subst wx) | (go_at_call 37; refine His.out.mono ?_; rintro e w1 ⟨rfl, hb1⟩; have Hb1 := Lib.hid hb1; clear hb1))
        go_ret2
        exact sec_bad (progLaw s) Hbad.out H.out Hb1.out
      | true =>
        have hgood : secretsBad L seed m = false := by simp [secretsBad, ht]; omega
        have Hgood := Lib.hid hgood; clear hgood
        have Hthere := Lib.hid ht
        rw [ht] at his
        have His := Lib.hid his; clear his ht
        have hm0 : (m : Int) ≤ 16 := by omega
        have HG := Lib.hid hG; clear hG
        go_enter Tryz.func7, Tryz.ntmps7
        go_wp2_with (first | (go_at_call 36; refine Hal.out.mono ?_; rintro e wx ⟨rfl, hwx⟩; subst wx) | (go_at_call 37; refine His.out.mono ?_; rintro e w1 ⟨rfl, hb1⟩; have Hb1 := Lib.hid hb1; clear hb1))
        have hst := sec_start (progLaw s) m Hb1.out H.out HG.out Hthere.out
        have Hst := Lib.hid hst; clear hst
        go_loopw [8, 31] (fun v i wr => PSecRel s F L seed m w v i wr) (fun _ i _ => m - (intOf i).toNat)
        case atStart => exact ⟨0, Nat.zero_le _, rfl, Hst.out⟩
        case round =>
          obtain ⟨k, hk, rfl, pre, last, Lk, F', hin⟩ := hrel
          by_cases hlt : k < m
          · have hown := hin.own
            obtain ⟨va, vc, hve, hvc⟩ := ownI_len hown
            rw [hve] at hown hin
            obtain ⟨gb, go, rfl, hcell⟩ := ownI_at hown k (by simp [hin.len])
            rw [show (pre ++ [last]).getD k 0 = last from by rw [← hin.len]; exact sec_last rfl] at hcell
            have hkdf := fun W hW => derived_any s F' Lk 1 last (kdf_ok (by simp [i64ok]) (there_i64 hin.there (by have := hin.size; omega))) hin.good (by have := hin.size; omega) W hW
            change ∀ W, ProgStore W s F' Lk → Calls _ _ _ _ (SPost s F' (makeL Lk (kdfT 1 last)) (.tuple #[.int .i64 (makeN Lk (kdfT 1 last)), .int .i64 (makeE Lk (kdfT 1 last))]) W) at hkdf
            rw [(make_ok (may_kdf (label := 1) (by omega) hin.there) (by have := hin.size; omega : Lk.length < 1048576)).1] at hkdf
            have hnl : (pre ++ [last]).length = k + 1 := by simp [hin.len]
            rw [hnl] at hve hin
            have Hin := Lib.hid hin; clear hin
            have Hkdf := Lib.hid hkdf; clear hkdf
            have Hnl := Lib.hid hnl; clear hnl hown hvc
            subst hve
            have hkm : (k : Int) < m := by omega
            go_wp2_with fail
            refine (Hkdf.out _ Hin.out.st).mono ?_
            rintro e w2 ⟨rfl, F2, hx2, hs2, hT2⟩
            have hown2 : w2.ownsRow 0 3 1 (.slice (some ⟨gb, go, none⟩) (k + 1) vc) (k + 1) ((pre ++ [last]).map intV) := by
              have h3 := ownI_kept Hin.out.own hT2 (fun g hg => (Hin.out.far g hg).2)
              unfold OwnI at h3
              rw [Hnl.out] at h3
              exact h3
            have Hx2 := Lib.hid hx2; clear hx2
            have Hs2 := Lib.hid hs2; clear hs2
            have HT2 := Lib.hid hT2; clear hT2
            have Hown2 := Lib.hid hown2; clear hown2
            clear hcell Hkdf
            go_wp2_with (at_builtin; refine wpList_append_own_at _ rfl _ _ 27 rfl 0 3 i0 (.int .i64 0) 1 8 Tryz.underlying27 hi0 hz0 hz1 hz2 rfl (by decide) _ (k + 1) ((pre ++ [last]).map intV) rfl (Hown2.out.alloc _) ⟨w2.heap.size, 0, none⟩ 1 1 [intV (makeN Lk (kdfT 1 last))] rfl rfl (cell_one_new _ _ _) (by intro u hu; simp [intV] at hu; rw [hu]; rfl) (by unfold maxLen; omega) (by omega) (Nat.zero_le _) ?_; intro v' w5 hown' hgrow hniff hblk)
            have hownn : OwnI v' ((pre ++ [last]) ++ [makeN Lk (kdfT 1 last)]) w5 := by
              unfold OwnI
              rw [List.length_append, List.map_append, Hnl.out]
              exact hown'
            exact ⟨⟨k + 1, by omega, by go_num, sec_step (progLaw s) Hin.out hlt (by omega) Hx2.out Hs2.out HT2.out hownn hgrow (hblk.imp id (fun h => by simpa using h))⟩, by simp [intOf]; omega⟩
          · obtain rfl : k = m := by omega
            have Hin := Lib.hid hin; clear hin
            go_wp2
            go_ret2
            exact sec_end Hgood.out ⟨pre, last, Lk, F', Hin.out⟩

theorem psecrets_nil (seed many : Int) (w : World) :
    Calls Tryz.prog 7 #[.pointer none, .int .i64 seed, .int .i64 many] w fun e w' => e = .returned (.tuple #[.slice none 0 0, .int .i64 2]) ∧ w' = w := by
  have Hal := Lib.hid (palive_nil w)
  go_enter Tryz.func7, Tryz.ntmps7
  go_wp2_with (go_at_call 36; refine Hal.out.mono ?_; rintro e wx ⟨rfl, hwx⟩; subst wx)
  go_ret2
  exact ⟨rfl, rfl⟩
end Go.Proofs.YtedpljclnpiggaaGreatDoor
