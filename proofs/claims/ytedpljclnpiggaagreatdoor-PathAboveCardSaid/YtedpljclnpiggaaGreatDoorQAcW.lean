/-
  phratrylaw03.Across: the walk.
-/
import Derived.Test.YtedpljclnpiggaaGreatDoorQAcross
set_option linter.unusedVariables false
set_option linter.unusedSimpArgs false
namespace Go.Proofs.YtedpljclnpiggaaGreatDoor
open Go Go.RowKit

set_option maxRecDepth 100000 in
set_option maxHeartbeats 3200000 in
theorem across_any (s r : Nat) (L : List TermD) (F G : Nat → Prop) (hG : Good L) (hM : AllMay L) (hl : L.length ≤ 10000) (w : World) (hs : ProgStore w s F L) (hr : RefStore w r G L) (hap : ∀ x, F x → ¬ G x) :
    Calls Tryz.prog 11 #[.pointer (some ⟨s, 0, none⟩), .pointer (some ⟨r, 0, none⟩)] w (AcPost L G w) := by
  obtain ⟨i0, hi0, hz0, hz1, hz2⟩ := info_parts infoI
  have hFw := hs.lt
  have hGw := hr.lt
  have hst : AcIn s r L F G w (w.heap.size + 1) 0 ((w.alloc (.cells #[.int .i64 0] 3)).alloc (.cells #[.slice (some ⟨w.heap.size, 0, none⟩) 1 1] 115)) (.slice (some ⟨w.heap.size, 0, none⟩) 1 1) G := by
    have hb2 := ((Below.refl w.heap.size w).alloc (Nat.le_refl _) (.cells #[.int .i64 0] 3)).alloc (by simp) (.cells #[.slice (some ⟨w.heap.size, 0, none⟩) 1 1] 115)
    have h := row_alloc (w := w.alloc (.cells #[.int .i64 0] 3)) #[.slice (some ⟨w.heap.size, 0, none⟩) 1 1] 115 (0, 0)
    refine ⟨by simpa using h, ?_, hs.new hb2, hr.new hb2, Ext.refl _ _ _, Turned.new G hb2, ⟨by omega, fun hf => ?_, fun hf => ?_⟩, fun g hg => ?_, hap⟩
    · exact ownI_kept (ownI_one w 0) (Turned.new (fun _ => False) ((Below.refl _ _).alloc (Nat.le_refl _) _)) (fun _ _ h => h)
    · have := hFw _ hf; omega
    · have := hGw _ hf; omega
    · obtain rfl : w.heap.size = g := by simpa [Value.ownBlock] using hg
      exact ⟨Nat.le_refl _, by omega, fun hf => by have := hGw _ hf; omega⟩
  have Hst := Lib.hid hst; clear hst
  have HFw := Lib.hid hFw; clear hFw
  have HG := Lib.hid hG; clear hG
  have HM := Lib.hid hM; clear hM
  have hlI : (L.length : Int) ≤ 10000 := by omega
  clear hs hr hap hGw
  go_enter Tryz.func11, Tryz.ntmps11
  go_wp2_with (go_at_call 42; refine (slen_any s F L _ Hst.out.ps).mono ?_; rintro e wx ⟨rfl, hwx⟩; subst wx)
  obtain ⟨mp, hmp⟩ : ∃ mp, mp = w.heap.size + 1 := ⟨_, rfl⟩
  rw [← hmp] at Hst ⊢
  have Hmp := Lib.hid hmp; clear hmp
  go_loopw [7] (fun i wr => AcRel s r L F G w mp i wr) (fun i _ => L.length + 1 - (intOf i).toNat)
  case atStart => exact ⟨0, _, G, Nat.zero_le _, rfl, Hst.out⟩
  case round =>
    obtain ⟨k, v, G', hk, rfl, hin⟩ := hrel
    have Hin := Lib.hid hin; clear hin
    by_cases hlt : k < L.length
    · have hget := sget_any s F L ((k : Int) + 1) wr Hin.out.ps (by omega)
      have hth : thereD L.length ((k : Int) + 1) = true := by unfold thereD; simp; omega
      have hgt : getT L ((k : Int) + 1) = L.getD k zeroT := by unfold getT; rw [hth]; simp
      rw [hgt, hth] at hget
      have hLk := getD_get hlt
      have hparts := HG.out.parts k _ hLk
      have hok := HG.out.ok _ (List.mem_of_getElem? hLk)
      generalize L.getD k zeroT = t at hget hLk hparts hok
      obtain ⟨kd, tn, ta, tb⟩ := t
      simp only at hparts
      obtain ⟨an, rfl⟩ : ∃ an : Nat, ta = an := ⟨ta.toNat, by omega⟩
      obtain ⟨bn, rfl⟩ : ∃ bn : Nat, tb = bn := ⟨tb.toNat, by omega⟩
      have han : an ≤ k := by omega
      have hbn : bn ≤ k := by omega
      have hmay : mayD L.length ⟨kd, tn, an, bn⟩ = true := HM.out _ (List.mem_of_getElem? hLk)
      obtain ⟨m1, m2, m3⟩ := make_there HG.out hLk hmay
      have hmk := fun W hW => rmake_any r G' L ⟨kd, tn, an, bn⟩ hok HG.out (by omega) W hW
      unfold RMakePost at hmk
      rw [m1, m2, m3] at hmk
      have Hmk := Lib.hid hmk; clear hmk m1 m2 m3 hmay hok hLk hparts hth hgt
      unfold TermD.arr at hget
      have Hget := Lib.hid hget; clear hget
      have hkL : (k : Int) + 1 ≤ L.length := by omega
      have hanI : (an : Int) < (k : Int) + 1 := by omega
      have hbnI : (bn : Int) < (k : Int) + 1 := by omega
      have hkB : (k : Int) ≤ 10000 := by omega
      go_wp2_with (first
        | (go_at_call 42; refine (slen_any s F L _ Hin.out.ps).mono ?_; rintro e wx ⟨rfl, hwx⟩; subst wx)
        | (go_at_call 43; refine Hget.out.mono ?_; rintro e w1 ⟨rfl, hb1⟩; have Hb1 := Lib.hid hb1; clear hb1))
      have hba := Hb1.out.alloc Hb1.out.size (.cells #[.int .u8 kd, .int .i64 tn, .int .i64 an, .int .i64 bn] 107)
      have hrow := row_alloc (w := w1) #[.int .u8 kd, .int .i64 tn, .int .i64 an, .int .i64 bn] 107 (0, 0)
      obtain ⟨g, c, rfl, hgl, cm, cg⟩ := ac_read (Hin.out.new' hba)
      obtain ⟨g0, c0, e0, hgl0, _⟩ := ac_read Hin.out
      obtain ⟨rfl, rfl⟩ : g = g0 ∧ c = c0 := by simpa using e0
      have hmq : mp ≠ w1.heap.size := fun e => by
        have := (Array.getElem?_eq_some_iff.1 Hin.out.row).1
        have := Hb1.out.size
        omega
      have hgq : g ≠ w1.heap.size := fun e => by
        have := Hb1.out.size
        omega
      have ca := cg an (by omega)
      have cb := cg bn (by omega)
      have Hqs := Lib.hid (show wr.heap.size ≤ w1.heap.size from Hb1.out.size)
      have Hba := Lib.hid hba; clear hba
      have Hrow := Lib.hid hrow; clear hrow
      have hqs : w1.heap.size < (w1.alloc (.cells #[.int .u8 kd, .int .i64 tn, .int .i64 an, .int .i64 bn] 107)).heap.size := by simp
      obtain ⟨q, hq⟩ : ∃ q, q = w1.heap.size := ⟨_, rfl⟩
      rw [← hq] at hmq hgq Hqs Hrow hqs ⊢
      clear hq cg e0 hgl0 hgl Hb1
      generalize w1.alloc (.cells #[.int .u8 kd, .int .i64 tn, .int .i64 an, .int .i64 bn] 107) = wa at cm ca cb Hba Hrow hqs ⊢
      have y0 : wa.cell? ⟨q, 0, none⟩ = some (.int .u8 kd) := (cell_row Hrow.out 0).trans rfl
      have y1 : wa.cell? ⟨q, 1, none⟩ = some (.int .i64 tn) := (cell_row Hrow.out 1).trans rfl
      have y2 : wa.cell? ⟨q, 2, none⟩ = some (.int .i64 an) := (cell_row Hrow.out 2).trans rfl
      have y3 : wa.cell? ⟨q, 3, none⟩ = some (.int .i64 bn) := (cell_row Hrow.out 3).trans rfl
      have z2 := free_row Hrow.out 2
      have z3 := free_row Hrow.out 3
      go_wp2_with fail
      go_region
      all_goals
        go_wp2_with fail
        go_region
      all_goals
        clear ca cb z2 z3
        go_wp2_with fail
        have hbx := ((Hba.out.setCell (p := ⟨q, 2, none⟩) Hqs.out (.int .i64 an)).setCell (p := ⟨q, 3, none⟩) Hqs.out (.int .i64 bn)).drew.drew
        have hin2 := Hin.out.new' hbx
        clear hbx y0 y1 y2 y3 cm Hba Hrow Hqs hqs hgq hmq
        generalize ((wa.setCell ⟨q, 2, none⟩ (.int .i64 an)).setCell ⟨q, 3, none⟩ (.int .i64 bn)).drew.drew = wb at hin2 ⊢
        refine (Hmk.out _ hin2.rs).mono ?_
        rintro e w2 ⟨rfl, G2, hx2, hs2, hT2⟩
        have hin3 := hin2.ref hx2 hs2 hT2
        clear hin2 hx2 hs2 hT2 Hmk Hin Hget
        have cm : w2.cell? ⟨mp, 0, none⟩ = some (.slice (some ⟨g, 0, none⟩) (k + 1) c) := (cell_row hin3.row 0).trans rfl
        have zm := free_row hin3.row 0
        have hml : mp < w2.heap.size := (Array.getElem?_eq_some_iff.1 hin3.row).1
        have hown3 : w2.ownsRow 0 3 1 (.slice (some ⟨g, 0, none⟩) (k + 1) c) (k + 1) ((idL (k + 1)).map intV) := by
          have h3 := hin3.own
          unfold OwnI at h3
          rw [idL_len] at h3
          exact h3
        have Hin3 := Lib.hid hin3; clear hin3
        have Hown3 := Lib.hid hown3; clear hown3
        have Hmne := Lib.hid (show some mp ≠ (Value.slice (some ⟨g, 0, none⟩) (k + 1) c).ownBlock from fun e => (Hin3.out.far mp e.symm).2.1 rfl)
        go_wp2_with (at_builtin; refine wpList_append_lies _ rfl (.tmp 84) (.tmp 86) 27 rfl 0 3 i0 (.int .i64 0) 1 8 Tryz.underlying27 hi0 hz0 hz1 hz2 rfl (by decide) (.slice (some ⟨g, 0, none⟩) (k + 1) c) (k + 1) ((idL (k + 1)).map intV) rfl (Hown3.out.alloc _) ⟨w2.heap.size, 0, none⟩ 1 1 [intV ((k : Int) + 1)] rfl rfl (cell_one_new _ _ _) (by intro u hu; simp [intV] at hu; rw [hu]; rfl) (by omega) (by unfold maxLen; omega) (by omega) (Nat.zero_le _) (w2.heap.size + 1) (by simp) ?_; intro g5 c5 w5 hown5 hgrow5 hat5 hlt5; have hr5 : w5.heap[mp]? = some (.cells #[.slice (some ⟨g, 0, none⟩) (k + 1) c] 115 (0, 0)) := (hgrow5.block mp (Nat.lt_of_lt_of_le hml (by simp)) Hmne.out).trans ((heap_alloc_old _ _ hml).trans Hin3.out.row); have z5 := free_row hr5 0; have d5 : w5.cell? ⟨mp, 0, none⟩ = some (.slice (some ⟨g, 0, none⟩) (k + 1) c) := (cell_row hr5 _).trans rfl; clear hr5 hlt5; have Hown5 := Lib.hid hown5; clear hown5; have Hgrow5 := Lib.hid hgrow5; clear hgrow5; have Hat5 := Lib.hid hat5; clear hat5)
        clear cm
        have hown6 : OwnI (.slice (some ⟨g5, 0, none⟩) (k + 1 + 1) c5) (idL (k + 1 + 1)) w5 := by
          unfold OwnI
          rw [idL_succ, List.length_append, List.map_append, idL_len]
          exact Hown5.out
        have hstep := ac_step (w3 := w2.alloc (.cells #[.int .i64 ((k : Int) + 1)] 3)) (g := g5) (c := c5) Hin3.out HFw.out ((Below.refl _ _).alloc (Nat.le_refl _) _) hown6 Hgrow5.out (by simpa using Hat5.out)
        refine ⟨⟨k + 1, _, G2, by omega, by go_num, hstep⟩, by simp [intOf]; omega⟩
    · obtain rfl : k = L.length := by omega
      have hkB : (L.length : Int) < (L.length : Int) + 1 := by omega
      go_wp2_with (go_at_call 42; refine (slen_any s F L _ Hin.out.ps).mono ?_; rintro e wx ⟨rfl, hwx⟩; subst wx)
      go_ret2
      exact ⟨mp, rfl, ⟨v, Hin.out.row, Hin.out.own, fun g hg => (Hin.out.far g hg).2.1⟩, Hin.out.turned⟩
end Go.Proofs.YtedpljclnpiggaaGreatDoor
