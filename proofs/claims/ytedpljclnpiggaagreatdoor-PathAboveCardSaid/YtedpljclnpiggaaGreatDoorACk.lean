/-
  tree.Check, tree.Size of any tree.
-/
import Derived.Test.YtedpljclnpiggaaGreatDoorATr
import Derived.Test.YtedpljclnpiggaaGreatDoorQCheck
import Derived.Test.YtedpljclnpiggaaGreatDoorQRise
import Derived.Test.YtedpljclnpiggaaGreatDoorAUp
import Derived.Test.YtedpljclnpiggaaGreatDoorAStep
import Derived.Test.YtedpljclnpiggaaGreatDoorATree
set_option linter.unusedVariables false
set_option linter.unusedSimpArgs false
namespace Go.Proofs.YtedpljclnpiggaaGreatDoor
open Go Go.RowKit

/-- What the map of members met says. -/
structure CntTab (D : DataW Unit) (l : List Int) : Prop where
  isMap : Maps.IsMap D
  cnt : ∀ m, D.atKey (.int .i64 m) (.lit (.int .i64 0)) = .lit (.int .i64 (l.count m : Nat))
theorem cnt_nil : CntTab (.map []) [] := ⟨Maps.isMap_empty, fun _ => rfl⟩
theorem CntTab.put {D : DataW Unit} {l : List Int} (h : CntTab D l) (m : Int) : CntTab (D.put (.int .i64 m) (.lit (.int .i64 (((l.count m : Nat) : Int) + 1)))) (m :: l) := by
  refine ⟨h.isMap.put _ _, fun n => ?_⟩
  by_cases e : n = m
  · subst e
    rw [Maps.atKey_put_same h.isMap (lit_key _), List.count_cons_self]
    rfl
  · rw [Maps.atKey_put_other (lit_ne e), h.cnt n, List.count_cons_of_ne (fun h => e h.symm)]

structure CkIn (T : List NodeD) (q mb : Nat) (a : Option Addr) (c : Nat) (w : World) (k : Nat) (wr : World) : Prop where
  box : wr.heap[q]? = some (.cells #[.slice a T.length c] 44 (0, 0))
  map : ∃ D, IMap wr mb (memsD T k).length D ∧ CntTab D (memsD T k)
  b : Below w.heap.size w wr
  good : ∀ x, x < k → goodAt T x
  ap : w.heap.size ≤ q ∧ q < mb

def CkRel (T : List NodeD) (q mb : Nat) (a : Option Addr) (c : Nat) (w : World) (i l : Value) (wr : World) : Prop :=
  ∃ k : Nat, k ≤ T.length ∧ i = .int .i64 k ∧ l = .int .i64 (lastD T k) ∧ CkIn T q mb a c w k wr

theorem memsD_len (T : List NodeD) : ∀ k, (memsD T k).length ≤ k
  | 0 => by simp [memsD]
  | k + 1 => by
    have := memsD_len T k
    unfold memsD
    split
    · simp; omega
    · omega
theorem mems_skip {T : List NodeD} {k : Nat} (h : ¬ (k % 2 = 0 ∧ blankD (nodeD T k) = false)) : memsD T (k + 1) = memsD T k ∧ lastD T (k + 1) = lastD T k := by
  constructor
  · conv => lhs; unfold memsD
    rw [if_neg h]
  · conv => lhs; unfold lastD
    rw [if_neg h]
theorem mems_take {T : List NodeD} {k : Nat} (h : k % 2 = 0 ∧ blankD (nodeD T k) = false) : memsD T (k + 1) = (nodeD T k).mem :: memsD T k ∧ lastD T (k + 1) = ((k / 2 : Nat) : Int) := by
  constructor
  · conv => lhs; unfold memsD
    rw [if_pos h]
  · conv => lhs; unfold lastD
    rw [if_pos h]
theorem not_ok_at {T : List NodeD} {k : Nat} (hk : k < T.length) (h : ¬ goodAt T k) : errD T = 1 := errD_bad fun ho => by
  rcases ho with ho | ⟨_, h1, _⟩
  · omega
  · exact h (h1 k hk)
theorem CkIn.new {T : List NodeD} {q mb : Nat} {a : Option Addr} {c : Nat} {w : World} {k k' : Nat} {wr wr' : World} (h : CkIn T q mb a c w k wr) (hb : Below wr.heap.size wr wr') (hk : k' = k + 1) (hm : memsD T k' = memsD T k) (hg : goodAt T k) : CkIn T q mb a c w k' wr' := by
  subst hk
  obtain ⟨D, hD, hT⟩ := h.map
  exact ⟨(hb.block q (Array.getElem?_eq_some_iff.1 h.box).1).trans h.box, ⟨D, by rw [hm]; exact hD.below hb (World.ownsMap.lt hD), by rw [hm]; exact hT⟩, h.b.trans (hb.mono h.b.size), fun x hx => by
    by_cases e : x = k
    · subst e; exact hg
    · exact h.good x (by omega), h.ap⟩

set_option maxRecDepth 100000 in
set_option maxHeartbeats 3200000 in
theorem acheck_any (B : Nat) (T : List NodeD) (hfit : FitT T) (hlen : T.length ≤ 262144) (a : Option Addr) (c : Nat) (w : World) (he : TzF w) (h3 : 3 ≤ B) (hB : B ≤ w.heap.size) (hT : TreeAt B w a T) :
    Calls Tryz.prog 182 #[.agg #[.slice a T.length c]] w fun r w' => r = .returned (.int .i64 (errD T)) ∧ Below w.heap.size w w' := by
  have hb := (Below.refl w.heap.size w).alloc (Nat.le_refl _) (.cells #[.slice a T.length c] 44)
  have hbox := row_alloc (w := w) #[.slice a T.length c] 44 (0, 0)
  have Hb := Lib.hid hb; clear hb
  have Hbox := Lib.hid hbox; clear hbox
  have hs : w.heap.size < (w.alloc (.cells #[.slice a T.length c] 44)).heap.size := by simp
  have Hs := Lib.hid hs; clear hs
  have HT := Lib.hid hT; clear hT
  have He := Lib.hid he; clear he
  have Hfit := Lib.hid hfit; clear hfit
  by_cases h0 : T.length = 0
  · have Hok := Lib.hid (errD_ok (T := T) (.inl h0))
    rw [h0]
    clear HT Hbox Hfit He Hs hB h3 hlen
    rw [h0] at Hb
    go_enter Tryz.func182, Tryz.ntmps182
    go_wp2
    go_ret
    exact ⟨by rw [Hok.out]; rfl, Hb.out⟩
  · have hpI : ((T.length : Int) == 0) = false := beq_eq_false_iff_ne.2 (by omega)
    by_cases hlv : leavesD T.length = 0
    · have Hbad := Lib.hid (errD_bad (T := T) (fun h => ok_leaves h h0 hlv))
      go_enter Tryz.func182, Tryz.ntmps182
      go_wp2_with fail
      refine (aleaves_any a T.length c hlen _).mono ?_
      rintro e w1 ⟨rfl, hb1⟩
      rw [hlv]
      have Hb1 := Lib.hid (Hb.out.trans (hb1.mono Hb.out.size)); clear hb1
      go_wp2
      go_ret
      exact ⟨by rw [Hbad.out]; rfl, Hb1.out⟩
    · obtain ⟨hn, hTn⟩ := leaves_isN hlv
      obtain ⟨n, hnl⟩ : ∃ n, n = leavesD T.length := ⟨_, rfl⟩
      rw [← hnl] at hn hTn hlv
      have Hn := Lib.hid hn
      have HTn := Lib.hid hTn
      have Hnl := Lib.hid hnl
      have hnI : ((n : Int) == 0) = false := beq_eq_false_iff_ne.2 (by omega)
      have hn8 : (n : Int) ≤ 8 := by rcases hn with h | h | h | h <;> omega
      have h15 : T.length ≤ 15 := by rcases hn with h | h | h | h <;> omega
      have h15I : (T.length : Int) ≤ 15 := by omega
      clear hn hTn hnl
      go_enter Tryz.func182, Tryz.ntmps182
      go_wp2_with fail
      refine (aleaves_any a T.length c hlen _).mono ?_
      rintro e w1 ⟨rfl, hb1⟩
      rw [← Hnl.out]
      have hbx := (hb1.block w.heap.size Hs.out).trans Hbox.out
      have Hb1 := Lib.hid (Hb.out.trans (hb1.mono Hb.out.size)); clear hb1
      have hql := (Array.getElem?_eq_some_iff.1 hbx).1
      obtain ⟨q, hq⟩ : ∃ q, q = w.heap.size := ⟨_, rfl⟩
      rw [← hq] at hbx hql ⊢
      have Hq := Lib.hid hq; clear hq
      have hx0 := (cell_row hbx 0).trans rfl
      have hmk := run_make_ints w1
      have hst : CkIn T q w1.heap.size a c w 0 (w1.alloc (.map #[] 0)) :=
        ⟨(Below.heap_alloc _ _ _ hql).trans hbx, ⟨_, World.ownsMap_made w1 Tryz.prog 3 (plainElem (H := Unit) Tryz.prog 3), cnt_nil⟩, Hb1.out.alloc Hb1.out.size _, fun x hx => by omega, by have := Hq.out; omega, hql⟩
      have Hst := Lib.hid hst
      have kq : (w1.alloc (.map #[] 0)).cell? ⟨q, 0, none⟩ = some (.slice a T.length c) := (cell_row hst.box 0).trans rfl
      clear hst hbx
      go_wp2
      clear hmk hx0
      obtain ⟨mb, hmb⟩ : ∃ mb, mb = w1.heap.size := ⟨_, rfl⟩
      rw [← hmb] at Hst ⊢
      have Hmb := Lib.hid hmb; clear hmb
      generalize w1.alloc (.map #[] 0) = w2 at Hst kq ⊢
      clear kq
      go_loopw [20, 5] (fun i l wr => CkRel T q mb a c w i l wr) (fun i _ _ => T.length - (intOf i).toNat)
      case atStart => exact ⟨0, Nat.zero_le _, rfl, rfl, Hst.out⟩
      case round =>
        obtain ⟨k, hk, rfl, rfl, hin⟩ := hrel
        have Hin := Lib.hid hin
        by_cases hlt : k < T.length
        · obtain ⟨b, o, rfl, hnode⟩ := (HT.out.below (hin.b.mono hB)) k hlt
          obtain ⟨ua, uc, k3, _⟩ := hnode.c3
          have k0 := hnode.c0
          have k1 := hnode.c1
          have k2 := hnode.c2
          have hkI : (k : Int) < T.length := by omega
          have kb := (cell_row hin.box 0).trans rfl
          have hqw := (Array.getElem?_eq_some_iff.1 hin.box).1
          have hfk := Hfit.out k hlt
          have hgoodk : goodAt T k ↔ ((k % 2 = 1 ∧ parentD T k = true) ∨ (k % 2 = 0 ∧ (blankD (nodeD T k) = true ∨ (0 < (nodeD T k).pub ∧ 0 ≤ (nodeD T k).mem ∧ 0 ≤ (nodeD T k).ep ∧ (nodeD T k).um.length = 0 ∧ (nodeD T k).mem ∉ memsD T k)))) := Iff.rfl
          have Hgood := Lib.hid hgoodk; clear hgoodk
          by_cases ho : k % 2 = 1
          · have ho1 : (k : Int).tmod 2 = 1 := by rw [Int.tmod_eq_emod_of_nonneg (by omega)]; omega
            have ho2 : (k : Int) % 2 = 1 := by omega
            have hal := (Below.refl wr.heap.size wr).alloc (Nat.le_refl _) (.cells #[.int .i64 (nodeD T k).pub, .int .i64 (nodeD T k).mem, .int .i64 (nodeD T k).ep, .slice ua (nodeD T k).um.length uc] 125)
            have hpar := aparent_T B n k Hn.out T HTn.out hlt ho (Hfit.out k hlt).2.2.2 (some ⟨b, o, none⟩) c _ ((He.out.below hin.b (Nat.le_trans h3 hB)).below hal (Nat.le_trans (Nat.le_trans h3 hB) hin.b.size)) h3 (Nat.le_trans (Nat.le_trans hB hin.b.size) hal.size) ((HT.out.below (hin.b.mono hB)).below (hal.mono (Nat.le_trans hB hin.b.size)))
            have Hpar := Lib.hid hpar; clear hpar
            have Hal := Lib.hid hal; clear hal
            clear hin hnode hfk
            generalize (nodeD T k).pub = p at k0 Hpar Hal
            generalize (nodeD T k).mem = m at k1 Hpar Hal
            generalize (nodeD T k).ep = ee at k2 Hpar Hal
            generalize (nodeD T k).um.length = ul at k3 Hpar Hal
            go_wp2_with fail
            refine Hpar.out.mono ?_
            rintro r w3 ⟨rfl, hb3⟩
            have hb4 := Hal.out.trans (hb3.mono Hal.out.size)
            clear hb3 Hal Hpar kb
            have Hb4 := Lib.hid hb4; clear hb4 k0 k1 k2 k3
            cases hp : parentD T k with
            | false =>
              have Hbad := Lib.hid (not_ok_at hlt (fun h => by
                rcases Hgood.out.1 h with ⟨_, h⟩ | ⟨h, _⟩
                · rw [hp] at h; cases h
                · omega))
              clear hp
              go_wp2
              go_ret
              exact ⟨by rw [Hbad.out]; rfl, Hin.out.b.trans (Hb4.out.mono Hin.out.b.size)⟩
            | true =>
              have hsk := mems_skip (T := T) (k := k) (by omega)
              have hg := Hgood.out.2 (.inl ⟨ho, hp⟩)
              have Hnx := Lib.hid (Hin.out.new Hb4.out rfl hsk.1 hg)
              have Hl := Lib.hid hsk.2
              clear hsk hg hp
              go_wp2
              exact ⟨⟨k + 1, by omega, by go_num, by rw [Hl.out], Hnx.out⟩, by simp [intOf]; omega⟩
          · have ho0 : k % 2 = 0 := by omega
            have ho1 : ¬ (k : Int).tmod 2 = 1 := by rw [Int.tmod_eq_emod_of_nonneg (by omega)]; omega
            have ho2 : ¬ (k : Int) % 2 = 1 := by omega
            have ho3 : (k : Int).tmod 2 = 0 := by rw [Int.tmod_eq_emod_of_nonneg (by omega)]; omega
            have ho4 : (k : Int) % 2 = 0 := by omega
            have hal := (Below.refl wr.heap.size wr).alloc (Nat.le_refl _) (.cells #[.int .i64 (nodeD T k).pub, .int .i64 (nodeD T k).mem, .int .i64 (nodeD T k).ep, .slice ua (nodeD T k).um.length uc] 125)
            have hndw := row_alloc (w := wr) #[.int .i64 (nodeD T k).pub, .int .i64 (nodeD T k).mem, .int .i64 (nodeD T k).ep, .slice ua (nodeD T k).um.length uc] 125 (0, 0)
            have hblk : blankD (nodeD T k) = (decide ((nodeD T k).pub = 0) && decide ((nodeD T k).mem = 0) && decide ((nodeD T k).ep = 0) && decide ((nodeD T k).um.length = 0)) := rfl
            obtain ⟨D, hD, hTab⟩ := hin.map
            have hmt := mems_take (T := T) (k := k)
            have hms := mems_skip (T := T) (k := k)
            have hcnt := hTab.cnt (nodeD T k).mem
            have hput := hTab.put (nodeD T k).mem
            have hcl : (memsD T k).count (nodeD T k).mem ≤ 15 := Nat.le_trans List.count_le_length (Nat.le_trans (memsD_len T k) (by omega))
            have hcm : 0 < (memsD T k).count (nodeD T k).mem ↔ (nodeD T k).mem ∈ memsD T k := List.count_pos_iff
            clear hnode
            obtain ⟨bd, hbd⟩ : ∃ bd, bd = blankD (nodeD T k) := ⟨_, rfl⟩
            rw [← hbd] at hblk hmt hms Hgood
            generalize (nodeD T k).pub = p at k0 hal hndw hblk Hgood hfk
            generalize (nodeD T k).mem = m at k1 hal hndw hblk Hgood hfk hcnt hput hcl hcm hmt
            generalize (nodeD T k).ep = ee at k2 hal hndw hblk Hgood hfk
            generalize (nodeD T k).um.length = ul at k3 hal hndw hblk Hgood hfk
            generalize (memsD T k).count m = cn at hcnt hput hcl hcm
            have Hal := Lib.hid hal; clear hal
            have Hndw := Lib.hid hndw; clear hndw
            have Hblk := Lib.hid hblk; clear hblk
            have Hmt := Lib.hid hmt; clear hmt
            have Hms := Lib.hid hms; clear hms
            have HD := Lib.hid hD; clear hD
            have Hcnt := Lib.hid hcnt; clear hcnt
            have Hput := Lib.hid hput; clear hput
            have Hcm := Lib.hid hcm
            have HisM := Lib.hid hTab.isMap; clear hcm hTab
            have Hfk := Lib.hid hfk; clear hfk hbd hin
            go_wp2_with fail
            refine (ablank_any p m ee ua ul uc _).mono ?_
            rintro r w3 ⟨rfl, hb3⟩
            rw [← Hblk.out]
            have hnd := (hb3.block wr.heap.size (by simp)).trans Hndw.out
            have hb4 := Hal.out.trans (hb3.mono Hal.out.size)
            clear hb3 Hal Hndw kb k0 k1 k2 k3
            have Hb4 := Lib.hid hb4; clear hb4
            cases bd with
            | true =>
              have hsk := Hms.out (by simp)
              have hg := Hgood.out.2 (.inr ⟨ho0, .inl rfl⟩)
              have Hnx := Lib.hid (Hin.out.new Hb4.out rfl hsk.1 hg)
              have Hl := Lib.hid hsk.2
              clear hsk hg hnd
              go_wp2
              exact ⟨⟨k + 1, by omega, by go_num, by rw [Hl.out], Hnx.out⟩, by simp [intOf]; omega⟩
            | false =>
              obtain ⟨hmem, hlast⟩ := Hmt.out ⟨ho0, rfl⟩
              have Hmem := Lib.hid hmem; clear hmem
              have Hlast := Lib.hid hlast; clear hlast
              have hmbl : mb < wr.heap.size := World.ownsMap.lt HD.out
              have hD3 := HD.out.below Hb4.out hmbl
              obtain ⟨nd, hnde⟩ : ∃ nd, nd = wr.heap.size := ⟨_, rfl⟩
              rw [← hnde] at hnd hmbl ⊢
              have n0 := (cell_row hnd 0).trans rfl
              have n1 := (cell_row hnd 1).trans rfl
              have n2 := (cell_row hnd 2).trans rfl
              have n3 := (cell_row hnd 3).trans rfl
              have Hnd := Lib.hid hnd; clear hnd
              have Hne := Lib.hid (show nd ≠ mb by omega); clear hnde
              have HD3 := Lib.hid hD3; clear hD3 hmbl
              have hcnI : (cn : Int) ≤ 15 := by omega
              have Hmk := Lib.hid Hfk.out.2.1
              have Hml := Lib.hid (show (memsD T k).length < maxLen from by have := memsD_len T k; unfold maxLen; omega)
              have hcase : p < 1 ∨ (¬ p < 1 ∧ m < 0) ∨ (¬ p < 1 ∧ ¬ m < 0 ∧ ee < 0) ∨ (¬ p < 1 ∧ ¬ m < 0 ∧ ¬ ee < 0 ∧ 0 < (ul : Int)) ∨ (¬ p < 1 ∧ ¬ m < 0 ∧ ¬ ee < 0 ∧ ul = 0 ∧ 1 < (cn : Int) + 1) ∨ (¬ p < 1 ∧ ¬ m < 0 ∧ ¬ ee < 0 ∧ ul = 0 ∧ ¬ 1 < (cn : Int) + 1) := by omega
              have hbadw : ∀ w5, Below w.heap.size w w5 → (p < 1 ∨ m < 0 ∨ ee < 0 ∨ 0 < (ul : Int) ∨ 0 < cn) → (Ending.returned (.int .i64 1) = .returned (.int .i64 (errD T))) ∧ Below w.heap.size w w5 := fun w5 h5 hc => by
                refine ⟨?_, h5⟩
                rw [not_ok_at hlt]
                intro hg
                rcases Hgood.out.1 hg with ⟨h, _⟩ | ⟨_, h | ⟨a1, a2, a3, a4, a5⟩⟩
                · omega
                · cases h
                · rcases hc with h | h | h | h | h
                  · omega
                  · omega
                  · omega
                  · omega
                  · exact a5 (Hcm.out.1 h)
              have Hbadw := Lib.hid hbadw; clear hbadw
              have hgrowB : ∀ w5, w3.grownBy w5 (some mb) → Below w.heap.size w w5 := fun w5 hg => (Hin.out.b.trans (Hb4.out.mono Hin.out.b.size)).grown hg (by have := Hin.out.b.size; have := Hb4.out.size; omega) (fun j e => by have := Hin.out.ap; injection e with e; omega)
              have HgB := Lib.hid hgrowB; clear hgrowB
              rcases hcase with h | ⟨a1, h⟩ | ⟨a1, a2, h⟩ | ⟨a1, a2, a3, h⟩ | ⟨a1, a2, a3, rfl, h⟩ | ⟨a1, a2, a3, rfl, h⟩
              all_goals
                have Hh := Lib.hid h
                go_wp2_with (first
                  | (at_lookup; refine wpList_look_cnt rfl (.tmp 34) (.tmp 36) rfl rfl m rfl HD3.out Hmk.out _ Hcnt.out ?_)
                  | (at_mapUpdate; refine wpList_mapUpdate_own _ rfl (.tmp 34) (.tmp 36) (.tmp 38) 173 rfl 3 3 keyedI Tryz.underlying173 (plainElem Tryz.prog 3) mb (memsD T k).length D rfl HD3.out Hml.out (.int .i64 m) (.int .i64 _) (.int .i64 m) rfl rfl (key_int Hmk.out) (.lit (.int .i64 _)) [] (plainElem_int (H := Unit) Tryz.underlying3 (q := .i64) (WalkArith.wf_i64 (by omega))) ?_; intro w5 hmap5 hgrow5; have hnd5 := (hgrow5.block nd (Array.getElem?_eq_some_iff.1 Hnd.out).1 (fun e => Hne.out (by injection e))).trans Hnd.out; clear n0 n1 n2 n3; have n0 := (cell_row hnd5 0).trans rfl; have n1 := (cell_row hnd5 1).trans rfl; have n2 := (cell_row hnd5 2).trans rfl; have n3 := (cell_row hnd5 3).trans rfl; clear hnd5; have hlk := look_cnt hmap5 m _ Hmk.out (Maps.atKey_put_same HisM.out (lit_key _) _ _); have Hmap5 := Lib.hid hmap5; clear hmap5; have Hgrow5 := Lib.hid hgrow5; clear hgrow5))
              · go_ret
                have hfin := Hbadw.out w5 (HgB.out _ Hgrow5.out) (.inl Hh.out)
                exact ⟨hfin.1, hfin.2⟩
              · go_ret
                have hfin := Hbadw.out w5 (HgB.out _ Hgrow5.out) (.inr (.inl Hh.out))
                exact ⟨hfin.1, hfin.2⟩
              · go_ret
                have hfin := Hbadw.out w5 (HgB.out _ Hgrow5.out) (.inr (.inr (.inl Hh.out)))
                exact ⟨hfin.1, hfin.2⟩
              · go_ret
                have hfin := Hbadw.out w5 (HgB.out _ Hgrow5.out) (.inr (.inr (.inr (.inl Hh.out))))
                exact ⟨hfin.1, hfin.2⟩
              · go_ret
                have hfin := Hbadw.out w5 (HgB.out _ Hgrow5.out) (.inr (.inr (.inr (.inr (by have := Hh.out; omega)))))
                exact ⟨hfin.1, hfin.2⟩
              · have hcn0 : cn = 0 := by have := Hh.out; omega
                have hbox5 : w5.heap[q]? = some (.cells #[.slice (some ⟨b, o, none⟩) T.length c] 44 (0, 0)) :=
                  (Hgrow5.out.block q (Nat.lt_of_lt_of_le hqw Hb4.out.size) (fun e => by have := Hin.out.ap.2; injection e with e; omega)).trans ((Hb4.out.block q hqw).trans Hin.out.box)
                have hnot : m ∉ memsD T k := fun hm => by have := Hcm.out.2 hm; omega
                have hgk := Hgood.out.2 (.inr ⟨ho0, .inr ⟨by omega, by omega, by omega, by simp, hnot⟩⟩)
                have hnext : CkIn T q mb (some ⟨b, o, none⟩) c w (k + 1) w5 :=
                  ⟨hbox5, ⟨_, by rw [Hmem.out]; exact Hmap5.out, by rw [Hmem.out]; exact Hput.out⟩, HgB.out _ Hgrow5.out, fun x hx => by
                    by_cases e : x = k
                    · subst e; exact hgk
                    · exact Hin.out.good x (by omega), Hin.out.ap⟩
                exact ⟨⟨k + 1, by omega, by go_num, by rw [Hlast.out]; first | rfl | (congr 1; omega) | (simp; omega), hnext⟩, by simp [intOf]; omega⟩
        · obtain rfl : k = T.length := by omega
          have hokk : OkT' T ↔ ((leavesD T.length / 2 : Nat) : Int) ≤ lastD T T.length := by
            constructor
            · rintro (h | ⟨_, _, h⟩)
              · exact absurd h h0
              · exact h
            · exact fun h => .inr ⟨by rw [← Hnl.out]; exact hlv, hin.good, h⟩
          rw [← Hnl.out] at hokk
          have Hokk := Lib.hid hokk
          have hq1 : (n : Int).tdiv 2 = ((n / 2 : Nat) : Int) := by rw [Int.tdiv_eq_ediv_of_nonneg (by omega)]; omega
          have hq2 : (n : Int) / 2 = ((n / 2 : Nat) : Int) := by omega
          generalize lastD T T.length = lv at Hokk ⊢
          generalize n / 2 = m2 at Hokk hq1 hq2
          have Hb5 := Lib.hid hin.b
          clear hin hokk
          by_cases hl : lv < (m2 : Int)
          · have Hbad := Lib.hid (errD_bad (T := T) (fun h => by have := Hokk.out.1 h; omega))
            go_wp2
            go_ret
            exact ⟨by rw [Hbad.out]; rfl, Hb5.out⟩
          · have Hgd := Lib.hid (errD_ok (T := T) (Hokk.out.2 (by omega)))
            go_wp2
            go_ret
            exact ⟨by rw [Hgd.out]; rfl, Hb5.out⟩

set_option maxRecDepth 100000 in
theorem asize_any (B : Nat) (T : List NodeD) (hok : OkT' T) (hfit : FitT T) (hlen : T.length ≤ 262144) (a : Option Addr) (c : Nat) (w : World) (he : TzF w) (h3 : 3 ≤ B) (hB : B ≤ w.heap.size) (hT : TreeAt B w a T) :
    Calls Tryz.prog 187 #[.agg #[.slice a T.length c]] w fun r w' => r = .returned (.int .i64 (leavesD T.length : Nat)) ∧ Below w.heap.size w w' := by
  have hb1 := (Below.refl w.heap.size w).alloc (Nat.le_refl _) (.cells #[.slice a T.length c] 44)
  have hs1 : w.heap.size < (w.alloc (.cells #[.slice a T.length c] 44)).heap.size := by simp
  have hbox := row_alloc (w := w) #[.slice a T.length c] 44 (0, 0)
  have hck := acheck_any B T hfit hlen a c _ (he.below hb1 (Nat.le_trans h3 hB)) h3 (Nat.le_trans hB hb1.size) (hT.below (hb1.mono hB))
  rw [errD_ok hok] at hck
  have Hck := Lib.hid hck; clear hck
  have Hb1 := Lib.hid hb1; clear hb1
  have Hs1 := Lib.hid hs1; clear hs1
  have Hbox := Lib.hid hbox; clear hbox
  clear hT he hok hfit
  go_enter Tryz.func187, Tryz.ntmps187
  go_wp2_with fail
  refine Hck.out.mono ?_
  rintro e w2 ⟨rfl, hb2⟩
  have hx : w2.cell? ⟨w.heap.size, 0, none⟩ = some (.slice a T.length c) := by rw [cell_row ((hb2.block w.heap.size Hs1.out).trans Hbox.out)]; rfl
  have Hb2 := Lib.hid (Hb1.out.trans (hb2.mono (Nat.le_of_lt Hs1.out))); clear hb2
  go_wp2_with fail
  refine (aleaves_any a T.length c hlen _).mono ?_
  rintro e w3 ⟨rfl, hb3⟩
  have Hb3 := Lib.hid (Hb2.out.trans (hb3.mono Hb2.out.size)); clear hb3
  go_wp2
  go_ret
  exact ⟨rfl, Hb3.out⟩
end Go.Proofs.YtedpljclnpiggaaGreatDoor

/-
  path.over: the iterator over a node's forebears, of any tree.
-/
namespace Go.Proofs.YtedpljclnpiggaaGreatDoor
open Go Go.RowKit

/-- A node of a tree. -/
abbrev NodeN (T : List NodeD) := { x : Nat // x < T.length }

/-- What the iterator reads. -/
structure OvA (B : Nat) (W : World) (bn bt : Nat) (a : Option Addr) (c : Nat) (T : List NodeD) (x : Nat) : Prop where
  n0 : W.heap[bn]? = some (boxI x)
  t0 : W.heap[bt]? = some (boxT (.slice a T.length c))
  tr : TreeAt B W a T
  tz : TzF W
  three : 3 ≤ B
  sz : B ≤ W.heap.size
theorem OvA.new {B : Nat} {W W' : World} {bn bt : Nat} {a : Option Addr} {c : Nat} {T : List NodeD} {x : Nat} (h : OvA B W bn bt a c T x) (hb : Below W.heap.size W W') : OvA B W' bn bt a c T x :=
  ⟨(hb.block bn (Array.getElem?_eq_some_iff.1 h.n0).1).trans h.n0, (hb.block bt (Array.getElem?_eq_some_iff.1 h.t0).1).trans h.t0, h.tr.below (hb.mono h.sz), h.tz.below hb (Nat.le_trans h.three h.sz), h.three, Nat.le_trans h.sz hb.size⟩

/-- What a round keeps. -/
def KpA (B bt bx : Nat) (W W' : World) : Prop := Below B W W' ∧ W'.heap[bt]? = W.heap[bt]? ∧ ∀ k cs, k ≠ bx → W.heap[k]? = some (.cells cs 3 (0, 0)) → W'.heap[k]? = some (.cells cs 3 (0, 0))
theorem kpA_t {B bt bx : Nat} {X Y Z : World} (h : KpA B bt bx X Y) (k : KpA B bt bx Y Z) : KpA B bt bx X Z := ⟨h.1.trans k.1, k.2.1.trans h.2.1, fun i cs hi hx => k.2.2 i cs hi (h.2.2 i cs hi hx)⟩
theorem kpA_b {B bt bx : Nat} {w : World} (hB : B ≤ w.heap.size) (hbt : bt < w.heap.size) (W : World) (l : Nat) (o o' : Obj) (hl : w.heap.size ≤ l) (h : W.heap[l]? = some o) (ho : o.isCells = false) (hw : o.isWalk = false) : KpA B bt bx W (W.putObj l o') :=
  ⟨belowK_b hB W l o o' hl h ho hw, World.putObj_heap_other (by omega), fun k cs _ hk => by
    have hne : k ≠ l := fun e => by subst e; rw [h] at hk; injection hk with hk; rw [hk] at ho; cases ho
    exact (World.putObj_heap_other hne).trans hk⟩

/-- Between two rounds. -/
structure OvIn (B : Nat) (bt : Nat) (a : Option Addr) (c : Nat) (T : List NodeD) (l : List Nat) (g : Nat) (wr : World) : Prop where
  t0 : wr.heap[bt]? = some (boxT (.slice a T.length c))
  tr : TreeAt B wr a T
  row : l ≠ [] → ∃ cs, wr.heap[g]? = some (.cells cs 3 (0, 0)) ∧ ∀ i, i < l.length → wr.cell? ⟨g, 1 + i, none⟩ = some (.int .i64 (l.getD i 0 : Nat))

theorem OvIn.kept {B bt bx : Nat} {a : Option Addr} {c : Nat} {T : List NodeD} {l : List Nat} {g : Nat} {W W' : World} (h : OvIn B bt a c T l g W) (hg : l ≠ [] → g ≠ bx) (hk : KpA B bt bx W W') : OvIn B bt a c T l g W' := by
  refine ⟨hk.2.1.trans h.t0, h.tr.below hk.1, fun hl => ?_⟩
  obtain ⟨cs, hr, hc⟩ := h.row hl
  have h2 := hk.2.2 g cs (hg hl) hr
  exact ⟨cs, h2, fun i hi => (World.cell?_of_block (w := W) (a := ⟨g, 1 + i, none⟩) (h2.trans hr.symm)).trans (hc i hi)⟩

abbrev notB (T : List NodeD) (y : Nat) : Bool := decide ((nodeD T y).pub ≠ 0)

def OvRel (B bt : Nat) (a : Option Addr) (c : Nat) (T : List NodeD) (l : List Nat) (g : Nat) (J : List (NodeN T) → World → Prop) (i : Value) (wr : World) : Prop :=
  ∃ (k : Nat) (pre : List (NodeN T)), k ≤ l.length ∧ i = .int .i64 k ∧ pre.map Subtype.val = (l.take k).filter (notB T) ∧ J pre wr ∧ OvIn B bt a c T l g wr

theorem take_snoc {α : Type} (d : α) {l : List α} {k : Nat} (h : k < l.length) : l.take (k + 1) = l.take k ++ [l.getD k d] := by
  rw [List.take_add_one, List.getD_eq_getElem?_getD, List.getElem?_eq_getElem h]; rfl

set_option maxRecDepth 100000 in
set_option maxHeartbeats 3200000 in
theorem over_stops (n B bn bt bx : Nat) (a : Option Addr) (c : Nat) (T : List NodeD) (x : Nat) (hok : OkT' T) (hfit : FitT T) (hlen : T.length ≤ 262144) (hx : x < T.length) (w : World) (hbx : bx < w.heap.size) (h : OvA B w bn bt a c T x) :
    SeqStopsK Fence.wide n Tryz.prog 185 #[.pointer (some ⟨bn, 0, none⟩), .pointer (some ⟨bt, 0, none⟩)] (fun y : NodeN T => #[.int .i64 (y.1 : Nat)]) (KpA B bt bx) (fun xs => xs.map Subtype.val = overD T x)
      (fun pre => ∃ r, overD T x = pre.map Subtype.val ++ r) (overD T x).length w := by
  intro l J Jx W hW hJ _ hY h0
  refine callsIn_wide.2 ?_
  have hlv := ok_leaves hok (by omega)
  obtain ⟨hn, hTn⟩ := leaves_isN hlv
  have H := Lib.hid (h.new hW)
  have hbxW : bx < W.heap.size := Nat.lt_of_lt_of_le hbx hW.size
  have hsz := fun W1 (hW : OvA B W1 bn bt a c T x) => asize_any B T hok hfit hlen a c W1 hW.tz hW.three hW.sz hW.tr
  have hdir := fun W1 (hW : OvA B W1 bn bt a c T x) => adirect_any x (leavesD T.length) hn (by omega) W1 hW.tz (Nat.le_trans hW.three hW.sz)
  have Hsz := Lib.hid hsz; clear hsz
  have Hdir := Lib.hid hdir; clear hdir
  have hlt : ∀ y ∈ directD x (leavesD T.length), y < T.length := fun y hy => by
    have := up_lt hn (by omega : x < 2 * leavesD T.length - 1) y (by rw [up_eq hn (by omega)]; exact List.mem_cons_of_mem _ hy)
    omega
  have hd3 := direct_len hn (by omega : x < 2 * leavesD T.length - 1)
  have hov : overD T x = (directD x (leavesD T.length)).filter (notB T) := rfl
  generalize directD x (leavesD T.length) = dl at Hdir hlt hd3 hov
  have Hov := Lib.hid hov; clear hov
  have Hlt := Lib.hid hlt; clear hlt
  have k0 := cell_row H.out.n0 0
  have k1 := cell_row H.out.t0 0
  have HY := Lib.hid hY
  have HJ := Lib.hid (fun W' (hb : Below W.heap.size W W') => abides_below hJ h0 hb)
  have Hbx := Lib.hid hbxW
  have h15 : (T.length : Int) ≤ 15 := by rcases hn with h | h | h | h <;> omega
  clear h hY hJ h0 hW hn hTn hlv hok hfit hbx hbxW
  show Calls _ _ #[.func (.yield l) #[] #[], .pointer (some ⟨bn, 0, none⟩), .pointer (some ⟨bt, 0, none⟩)] _ _
  go_enter Tryz.func185, Tryz.ntmps185
  go_upto_region 0 with fail
  go_cut [9, 10, 11] (fun v9 v10 v11 W' => ∃ (g : Nat) (ra : Option Addr) (rc : Nat), v9 = .slice ra dl.length rc ∧ v10 = .int .i64 dl.length ∧ v11 = .int .i64 0 ∧ (dl ≠ [] → ra = some ⟨g, 1, none⟩) ∧ (dl ≠ [] → W.heap.size ≤ g) ∧ OvRel B bt a c T dl g J (.int .i64 0) W')
  case first =>
    go_region_with (first | (go_at_call 187; refine (Hsz.out _ (by exact H.out.new ⟨rfl, rfl, rfl, Nat.le_refl _, fun _ _ => rfl⟩)).mono ?_; rintro e w1 ⟨rfl, hb1⟩; have hb1' : Below W.heap.size W w1 := ⟨hb1.os, hb1.tape, hb1.output, hb1.size, hb1.block⟩; have H1 := Lib.hid (H.out.new hb1'); have Hb1 := Lib.hid hb1'; have k0 := cell_row H1.out.n0 0; have k1 := cell_row H1.out.t0 0; clear hb1 hb1') | (go_at_call 186; refine (Hdir.out _ H1.out).mono ?_; rintro e w2 ⟨ra, rc, rfl, hb2, hrow⟩; have H2 := Lib.hid (H1.out.new hb2); have Hb2 := Lib.hid (Hb1.out.trans (hb2.mono Hb1.out.size)); have k0 := cell_row H2.out.n0 0; have k1 := cell_row H2.out.t0 0; have Hrow := Lib.hid hrow; clear hb2 hrow))
    all_goals
      go_wp2_with fail
      go_meet
      have hin : ∀ g, (dl ≠ [] → ra = some ⟨g, 1, none⟩) → OvIn B bt a c T dl g w2 := fun g hg => ⟨H2.out.t0, H2.out.tr, fun hl => by
        obtain ⟨g', cs, e, _, hr, hc⟩ := Hrow.out hl
        have e2 := (hg hl).symm.trans e
        obtain rfl : g = g' := by simpa using e2
        exact ⟨cs, hr, hc⟩⟩
      by_cases hl : dl = []
      · exact ⟨0, ra, rc, rfl, rfl, rfl, fun h => absurd hl h, fun h => absurd hl h, 0, [], Nat.zero_le _, rfl, by simp, HJ.out _ Hb2.out, hin 0 (fun h => absurd hl h)⟩
      · obtain ⟨g, cs, e, hg, _⟩ := Hrow.out hl
        exact ⟨g, ra, rc, rfl, rfl, rfl, fun _ => e, fun _ => Nat.le_trans Hb1.out.size hg, 0, [], Nat.zero_le _, rfl, by simp, HJ.out _ Hb2.out, hin g (fun _ => e)⟩
  case rest =>
    obtain ⟨g, ra, rc, rfl, rfl, rfl, hra, hgW, hst⟩ := hcut
    have Hra := Lib.hid hra; clear hra
    have HgW := Lib.hid hgW; clear hgW
    have Hst := Lib.hid hst; clear hst
    have hdI : (dl.length : Int) ≤ 3 := by omega
    go_wp2_with fail
    go_loopw [11] (fun i wr => OvRel B bt a c T dl g J i wr) (fun i _ => dl.length - (intOf i).toNat)
    case atStart => exact Hst.out
    case round =>
      obtain ⟨k, pre, hk, rfl, hpre, hJ, hin⟩ := hrel
      by_cases hkl : k < dl.length
      · have hne : dl ≠ [] := fun e => by rw [e] at hkl; simp at hkl
        obtain ⟨cs, hr, hc⟩ := hin.row hne
        have rg := Hra.out hne
        subst rg
        have kc := hc k hkl
        have hmem : dl.getD k 0 ∈ dl := by rw [List.getD_eq_getElem?_getD, List.getElem?_eq_getElem hkl]; exact List.getElem_mem _
        have hy := Hlt.out _ hmem
        have htk := take_snoc 0 hkl
        have hdr : dl = dl.take (k + 1) ++ dl.drop (k + 1) := (List.take_append_drop _ _).symm
        generalize dl.getD k 0 = y at kc hy htk hmem
        obtain ⟨b, o, rfl, hnode⟩ := hin.tr y hy
        have kp := hnode.c0
        have kb := (cell_row hin.t0 0).trans rfl
        have hyI : (y : Int) < T.length := by omega
        have hkI : (k : Int) < dl.length := by omega
        have Hin := Lib.hid hin; clear hin hnode hc hr hmem hne
        have HJ2 := Lib.hid hJ; clear hJ
        have Hpre := Lib.hid hpre; clear hpre
        have Htk := Lib.hid htk; clear htk
        have Hdr := Lib.hid hdr; clear hdr
        by_cases hp : (nodeD T y).pub = 0
        · have hflt : (dl.take (k + 1)).filter (notB T) = (dl.take k).filter (notB T) := by
            rw [Htk.out, List.filter_append]
            simp [notB, hp]
          have Hflt := Lib.hid hflt; clear hflt
          rw [hp] at kp
          go_wp2
          exact ⟨⟨k + 1, pre, by omega, by go_num, by rw [Hflt.out]; exact Hpre.out, HJ2.out, Hin.out⟩, by simp [intOf]; omega⟩
        · have hflt : (dl.take (k + 1)).filter (notB T) = (dl.take k).filter (notB T) ++ [y] := by
            rw [Htk.out, List.filter_append]
            simp [notB, hp]
          have hov2 : overD T x = (dl.take (k + 1)).filter (notB T) ++ (dl.drop (k + 1)).filter (notB T) := by
            rw [Hov.out, ← List.filter_append, ← Hdr.out]
          have hpl : pre.length < (overD T x).length := by
            have h1 := congrArg List.length Hpre.out
            rw [hov2, hflt]
            simp at h1 ⊢
            omega
          obtain ⟨fn, tmps, assign, body, hyd, hR⟩ := HY.out pre ⟨y, hy⟩ _ HJ2.out hpl
          have hp0 : ((nodeD T y).pub == 0) = false := beq_eq_false_iff_ne.2 hp
          generalize (nodeD T y).pub = pv at kp hp0 hp
          have hpx : (pre ++ [(⟨y, hy⟩ : NodeN T)]).map Subtype.val = (dl.take (k + 1)).filter (notB T) := by rw [hflt, List.map_append, Hpre.out]; rfl
          have Hpx := Lib.hid hpx; clear hpx hflt
          have Hov2 := Lib.hid hov2; clear hov2 hpl
          go_upto_region 3 with fail
          refine (wpIn_wide (n := n)).1 ?_
          gi_wp2
          refine ⟨fun h => (by cases h), ?_⟩
          refine hR.mono ?_
          rintro e W3 (⟨rfl, hJ3, hK3⟩ | ⟨rfl, hJx3⟩)
          · have hin3 := Hin.out.kept (fun hne => by have := HgW.out hne; have := Hbx.out; omega) hK3
            have Hin3 := Lib.hid hin3; clear hin3 hK3
            gi_wp2
            go_wp2
            exact ⟨⟨k + 1, pre ++ [⟨y, hy⟩], by omega, by go_num, Hpx.out, hJ3, Hin3.out⟩, by simp [intOf]; omega⟩
          · gi_wp2
            go_wp2
            refine bodyPost_ret (results_none rfl _ _ _) rfl ?_
            exact ⟨⟨_, rfl⟩, .inr ⟨pre ++ [⟨y, hy⟩], ⟨_, by rw [Hpx.out]; exact Hov2.out⟩, hJx3⟩⟩
      · obtain rfl : k = dl.length := by omega
        rw [List.take_length, ← Hov.out] at hpre
        have Hpre := Lib.hid hpre; clear hpre
        go_wp2
        go_end0
        exact ⟨⟨_, rfl⟩, .inl ⟨pre, Hpre.out, hJ⟩⟩
end Go.Proofs.YtedpljclnpiggaaGreatDoor

/-
  path.held over any tree.
-/
namespace Go.Proofs.YtedpljclnpiggaaGreatDoor
open Go Go.RowKit

set_option maxRecDepth 100000 in
theorem ahf_any (s q : Nat) (F : Nat → Prop) (L : List TermD) (hl : L.length ≤ 2000000) (p m e : Int) (a : Option Addr) (k c : Nat) (w : World) (h : ProgStore w s F L) (hq : w.cell? ⟨q, 0, none⟩ = some (.pointer (some ⟨s, 0, none⟩))) :
    Calls Tryz.prog 184 #[.agg #[.int .i64 p, .int .i64 m, .int .i64 e, .slice a k c], .pointer (some ⟨q, 0, none⟩)] w fun r w' => r = .returned (.bool (decide (p ≠ 0) && !thereD L.length p)) ∧ Below w.heap.size w w' := by
  have hb := (Below.refl w.heap.size w).alloc (Nat.le_refl _) (.cells #[.int .i64 p, .int .i64 m, .int .i64 e, .slice a k c] 125)
  have hq1 := (hb.cell (p := ⟨q, 0, none⟩) (World.block_lt_of_cell? w _ hq)).trans hq
  by_cases hp : p = 0
  · subst hp
    have Hb := Lib.hid hb; clear hb
    clear h hq
    go_enter Tryz.func184, Tryz.ntmps184
    go_wp2
    go_ret
    exact ⟨rfl, Hb.out⟩
  · have his := sis_any s F L p _ (h.new hb) hl
    have hres : (decide (p ≠ 0) && !thereD L.length p) = !thereD L.length p := by simp [hp]
    rw [hres]
    generalize thereD L.length p = t at his
    have His := Lib.hid his; clear his
    have hp0 : (p == 0) = false := beq_eq_false_iff_ne.2 hp
    have Hb := Lib.hid hb; clear hb
    clear h hq hres
    cases t
    all_goals
      go_enter Tryz.func184, Tryz.ntmps184
      go_wp2_with (go_at_call 37; refine His.out.mono ?_; rintro e w2 ⟨rfl, hb2⟩; have Hb2 := Lib.hid (Hb.out.trans (hb2.mono Hb.out.size)); clear hb2)
      go_ret
      exact ⟨by first | rfl | simp [hp], Hb2.out⟩

def lackD (n : Nat) (d : NodeD) : Bool := decide (d.pub ≠ 0) && !thereD n d.pub
theorem held_iff {T : List NodeD} {n : Nat} : heldD T n ↔ ¬ ∃ x, x < T.length ∧ lackD n (nodeD T x) = true := by
  constructor
  · rintro h ⟨x, hx, hl⟩
    unfold lackD at hl
    rcases h x hx with e | e <;> simp [e] at hl
  · intro h x hx
    by_cases hp : (nodeD T x).pub = 0
    · exact .inl hp
    · refine .inr ?_
      cases ht : thereD n (nodeD T x).pub with
      | true => rfl
      | false => exact absurd ⟨x, hx, by unfold lackD; simp [hp, ht]⟩ h

def IxRel (T : List NodeD) (n : Nat) (w : World) (i : Value) (wr : World) : Prop := ∃ k : Nat, k ≤ T.length ∧ i = .int .i64 k ∧ Below w.heap.size w wr ∧ ∀ x, x < k → lackD n (nodeD T x) = false

set_option maxRecDepth 100000 in
set_option maxHeartbeats 1600000 in
theorem aindexf_any (B s q : Nat) (F : Nat → Prop) (L : List TermD) (hl : L.length ≤ 2000000) (T : List NodeD) (hlen : T.length ≤ 262144) (a : Option Addr) (c : Nat) (w : World) (h : ProgStore w s F L) (hB : B ≤ w.heap.size) (hT : TreeAt B w a T) (hq : w.cell? ⟨q, 0, none⟩ = some (.pointer (some ⟨s, 0, none⟩))) :
    Calls Tryz.prog 285 #[.slice a T.length c, .func (.func 184) #[] #[.pointer (some ⟨q, 0, none⟩)]] w
      fun r w' => (∃ i : Int, r = .returned (.int .i64 i) ∧ (0 ≤ i ↔ ∃ x, x < T.length ∧ lackD L.length (nodeD T x) = true)) ∧ Below w.heap.size w w' := by
  have hfn := fun (d : NodeD) (a : Option Addr) (cc : Nat) (W : World) (hW : Below w.heap.size w W) => ahf_any s q F L hl d.pub d.mem d.ep a d.um.length cc W (h.new hW) ((hW.cell (p := ⟨q, 0, none⟩) (World.block_lt_of_cell? w _ hq)).trans hq)
  have Hfn := Lib.hid hfn; clear hfn h hq
  have HT := Lib.hid hT; clear hT
  have hlI : (T.length : Int) ≤ 262144 := by omega
  go_enter Tryz.func285, Tryz.ntmps285
  go_wp2
  go_loopw [8] (fun i wr => IxRel T L.length w i wr) (fun i _ => T.length - (intOf i).toNat)
  case atStart => exact ⟨0, Nat.zero_le _, rfl, Below.refl _ _, fun x hx => by omega⟩
  case round =>
    obtain ⟨k, hk, rfl, hb, hall⟩ := hrel
    by_cases hlt : k < T.length
    · obtain ⟨b, o, rfl, hnode⟩ := (HT.out.below (hb.mono hB)) k hlt
      obtain ⟨ua, uc, k3, _⟩ := hnode.c3
      have k0 := hnode.c0
      have k1 := hnode.c1
      have k2 := hnode.c2
      have hkI : (k : Int) < T.length := by omega
      have hcall := Hfn.out (nodeD T k) ua uc wr hb
      have hlk : lackD L.length (nodeD T k) = (decide ((nodeD T k).pub ≠ 0) && !thereD L.length (nodeD T k).pub) := rfl
      rw [← hlk] at hcall
      clear hnode
      generalize hbd : lackD L.length (nodeD T k) = bd at hcall hlk
      have Hbd := Lib.hid hbd; clear hbd hlk
      generalize (nodeD T k).pub = p at k0 hcall
      generalize (nodeD T k).mem = m at k1 hcall
      generalize (nodeD T k).ep = ee at k2 hcall
      generalize (nodeD T k).um.length = ul at k3 hcall
      have Hcall := Lib.hid hcall; clear hcall
      have Hb := Lib.hid hb; clear hb
      have Hall := Lib.hid hall; clear hall
      go_wp2_with fail
      refine Hcall.out.mono ?_
      rintro e w1 ⟨rfl, hb1⟩
      have Hb1 := Lib.hid (Hb.out.trans (hb1.mono Hb.out.size)); clear hb1 k0 k1 k2 k3
      cases bd with
      | true =>
        go_wp2
        go_ret
        exact ⟨⟨k, rfl, ⟨fun _ => ⟨k, hlt, Hbd.out⟩, fun _ => by omega⟩⟩, Hb1.out⟩
      | false =>
        go_wp2
        exact ⟨⟨k + 1, by omega, by go_num, Hb1.out, fun x hx => by
          by_cases e : x = k
          · subst e; exact Hbd.out
          · exact Hall.out x (by omega)⟩, by simp [intOf]; omega⟩
    · obtain rfl : k = T.length := by omega
      have Hall := Lib.hid hall; clear hall
      have Hb := Lib.hid hb; clear hb
      go_wp2
      go_ret
      exact ⟨⟨-1, rfl, ⟨fun h => by omega, fun ⟨x, hx, h⟩ => by rw [Hall.out x hx] at h; cases h⟩⟩, Hb.out⟩

theorem acontainsf_any (v f : Value) (P : Prop) (w : World) (h : Calls Tryz.prog 285 #[v, f] w fun r w' => (∃ i : Int, r = .returned (.int .i64 i) ∧ (0 ≤ i ↔ P)) ∧ Below w.heap.size w w') :
    Calls Tryz.prog 183 #[v, f] w fun r w' => (∃ b : Bool, r = .returned (.bool b) ∧ (b = true ↔ P)) ∧ Below w.heap.size w w' := by
  have H := Lib.hid h; clear h
  go_enter Tryz.func183, Tryz.ntmps183
  go_wp2_with fail
  refine H.out.mono ?_
  rintro e w2 ⟨⟨i, rfl, hi⟩, hb2⟩
  have Hb2 := Lib.hid hb2; clear hb2
  have Hi := Lib.hid hi; clear hi
  go_wp2
  go_ret
  exact ⟨⟨decide (0 ≤ i), rfl, by simpa using Hi.out⟩, Hb2.out⟩

set_option maxRecDepth 100000 in
set_option maxHeartbeats 800000 in
theorem aheld_any (B s : Nat) (F : Nat → Prop) (L : List TermD) (hl : L.length ≤ 2000000) (T : List NodeD) (hfit : FitT T) (hlen : T.length ≤ 262144) (a : Option Addr) (c : Nat) (w : World) (he : TzF w) (h3 : 3 ≤ B) (hB : B ≤ w.heap.size) (h : ProgStore w s F L) (hT : TreeAt B w a T) :
    Calls Tryz.prog 46 #[.pointer (some ⟨s, 0, none⟩), .agg #[.slice a T.length c]] w fun r w' => (∃ b : Bool, r = .returned (.bool b) ∧ (b = true ↔ OkT' T ∧ heldD T L.length)) ∧ Below w.heap.size w w' := by
  have hb0 := (Below.refl w.heap.size w).alloc (Nat.le_refl _) (.cells #[.pointer (some ⟨s, 0, none⟩)] 23)
  have hb1 := hb0.alloc hb0.size (.cells #[.slice a T.length c] 44)
  have hck := acheck_any B T hfit hlen a c _ (he.below hb1 (Nat.le_trans h3 hB)) h3 (Nat.le_trans hB hb1.size) (hT.below (hb1.mono hB))
  have hcq : ((w.alloc (.cells #[.pointer (some ⟨s, 0, none⟩)] 23)).alloc (.cells #[.slice a T.length c] 44)).cell? ⟨w.heap.size, 0, none⟩ = some (.pointer (some ⟨s, 0, none⟩)) := by simp
  have hct : ((w.alloc (.cells #[.pointer (some ⟨s, 0, none⟩)] 23)).alloc (.cells #[.slice a T.length c] 44)).cell? ⟨w.heap.size + 1, 0, none⟩ = some (.slice a T.length c) := by simp
  have hsz1 : w.heap.size + 1 < ((w.alloc (.cells #[.pointer (some ⟨s, 0, none⟩)] 23)).alloc (.cells #[.slice a T.length c] 44)).heap.size := by simp
  have hix := fun (W : World) (hW : Below w.heap.size w W) (hq : W.cell? ⟨w.heap.size, 0, none⟩ = some (.pointer (some ⟨s, 0, none⟩))) => acontainsf_any _ _ _ W (aindexf_any B s w.heap.size F L hl T hlen a c W (h.new hW) (Nat.le_trans hB hW.size) (hT.below (hW.mono hB)) hq)
  have Hix := Lib.hid hix; clear hix
  have Hck := Lib.hid hck; clear hck
  have Hb1 := Lib.hid hb1; clear hb1 hb0
  have Hcq := Lib.hid hcq; clear hcq
  have Hct := Lib.hid hct; clear hct
  have Hs1 := Lib.hid hsz1; clear hsz1
  clear h hT he hfit
  by_cases hok : OkT' T
  · have he0 := errD_ok hok
    rw [he0] at Hck
    have Hok := Lib.hid hok; clear hok he0
    go_enter Tryz.func46, Tryz.ntmps46
    go_wp2_with fail
    refine Hck.out.mono ?_
    rintro e w2 ⟨rfl, hb2⟩
    have ht2 := (hb2.cell (p := ⟨w.heap.size + 1, 0, none⟩) Hs1.out).trans Hct.out
    have hq2 := (hb2.cell (p := ⟨w.heap.size, 0, none⟩) (Nat.lt_trans (Nat.lt_succ_self _) Hs1.out)).trans Hcq.out
    have Hb2 := Lib.hid (Hb1.out.trans (hb2.mono Hb1.out.size)); clear hb2
    have Hx := Lib.hid (Hix.out w2 Hb2.out hq2)
    clear hq2
    go_wp2_with fail
    refine Hx.out.mono ?_
    rintro e w3 ⟨⟨b, rfl, hb⟩, hb3⟩
    have Hb3 := Lib.hid (Hb2.out.trans (hb3.mono Hb2.out.size)); clear hb3
    have Hbb := Lib.hid hb; clear hb
    go_wp2
    go_ret
    refine ⟨⟨!b, rfl, ?_⟩, Hb3.out⟩
    rw [held_iff, ← Hbb.out]
    cases b <;> simp [Hok.out]
  · have he1 := errD_bad hok
    rw [he1] at Hck
    have Hok := Lib.hid hok; clear hok he1
    go_enter Tryz.func46, Tryz.ntmps46
    go_wp2_with fail
    refine Hck.out.mono ?_
    rintro e w2 ⟨rfl, hb2⟩
    have Hb2 := Lib.hid (Hb1.out.trans (hb2.mono Hb1.out.size)); clear hb2
    go_wp2
    go_ret
    exact ⟨⟨false, rfl, by simp [Hok.out]⟩, Hb2.out⟩
end Go.Proofs.YtedpljclnpiggaaGreatDoor
