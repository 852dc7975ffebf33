/-
  tree.Check at a tree of three nodes (under way).
-/
import Derived.Test.YtedpljclnpiggaaGreatDoorQTree
set_option linter.unusedVariables false
set_option linter.unusedSimpArgs false
namespace Go.Proofs.YtedpljclnpiggaaGreatDoor
open Go Go.RowKit

theorem wpList_unguard {P : Program} {ops : Array Oper} {rest : List Oper} {o : Oper} {a : Act} {Q : Exit → Act → World → Prop} {w : World} (hw : Region.wanted o (yielded ops a.tmps) = true)
    (h : wpList P ops Q (⟨o.dst, o.op, o.type, o.pos, o.after, none⟩ :: rest) a w) : wpList P ops Q (o :: rest) a w := by
  unfold wpList at h ⊢
  rw [if_pos hw]
  rw [if_pos (by rfl)] at h
  exact h

theorem keyedI : Maps.Keyed Tryz.prog 3 := Maps.int_keyed Tryz.underlying3
theorem key_int {k : Int} (h : i64ok k) : keyOf Tryz.prog 3 (.int .i64 k) = some (.int .i64 k) := Maps.keyOf_int_mk Tryz.underlying3 (WalkArith.wf_i64 h)
theorem run_make_ints (w : World) : (Instr.makeMap 173 none).run Tryz.prog w = .ok (.map (some w.heap.size)) (w.alloc (.map #[] 0)) := by kernel_rfl

abbrev IMap (w : World) (b n : Nat) (D : DataW Unit) : Prop := w.ownsMap Tryz.prog 3 (plainElem Tryz.prog 3) b n D

theorem look_cnt {W : World} {b n : Nat} {D : DataW Unit} (h : IMap W b n D) (k c : Int) (hk : i64ok k) (hc : D.atKey (.int .i64 k) (.lit (.int .i64 0)) = .lit (.int .i64 c)) :
    (Instr.lookup 173 (.map (some b)) (.int .i64 k) false).run Tryz.prog W = .ok (.int .i64 c) W := by
  obtain ⟨c', hrun, hat, _⟩ := World.ownsMap.lookup_int h keyedI Tryz.underlying173 Tryz.underlying3 (zero_int W) (key_int hk)
  rw [hc] at hat
  obtain rfl : c = c' := by simpa using hat
  exact hrun

theorem wpList_look_cnt {ops : Array Oper} {rest : List Oper} {o : Oper} {a : Act} {Q : Exit → Act → World → Prop} {w : World} {b n : Nat} {D : DataW Unit} (hg : o.guard = none) (m x : Operand) (hop : o.op = Op.lookup 173 m x false)
    (hm : a.eval m = .map (some b)) (k : Int) (hx : a.eval x = .int .i64 k) (h : IMap w b n D) (hk : i64ok k) (c : Int) (hc : D.atKey (.int .i64 k) (.lit (.int .i64 0)) = .lit (.int .i64 c))
    (hK : wpList Tryz.prog ops Q rest (a.put o.dst (.int .i64 c)) w) : wpList Tryz.prog ops Q (o :: rest) a w := by
  refine wpList_plain hg fun K' hK' => ?_
  unfold Oper.wp
  simp [execOp, hop, hm, hx, look_cnt h k c hk hc, Result.andThen]
  exact hK' _ _ hK

theorem IMap.below {B : Nat} {w w' : World} {b n : Nat} {D : DataW Unit} (h : IMap w b n D) (hb : Below B w w') (hB : b < B) : IMap w' b n D := by
  obtain ⟨es, clock, h1, rest⟩ := h
  exact ⟨es, clock, (hb.block b hB).trans h1, rest⟩

theorem T3.block {w w' : World} {b : Nat} {p0 m0 e0 p1 p2 m2 e2 : Int} (h : T3 w b p0 m0 e0 p1 p2 m2 e2) (hb : w'.heap[b]? = w.heap[b]?) : T3 w' b p0 m0 e0 p1 p2 m2 e2 :=
  have hc : ∀ j, w'.cell? ⟨b, j, none⟩ = w.cell? ⟨b, j, none⟩ := fun j => World.cell?_of_block (w := w) hb
  ⟨(hc 0).trans h.c0, (hc 1).trans h.c1, (hc 2).trans h.c2, let ⟨a, c, e⟩ := h.c3; ⟨a, c, (hc 3).trans e⟩, (hc 4).trans h.c4, (hc 5).trans h.c5, (hc 6).trans h.c6, let ⟨a, c, e⟩ := h.c7; ⟨a, c, (hc 7).trans e⟩,
    (hc 8).trans h.c8, (hc 9).trans h.c9, (hc 10).trans h.c10, let ⟨a, c, e⟩ := h.c11; ⟨a, c, (hc 11).trans e⟩⟩

theorem parent_3 (b c : Nat) (p0 m0 e0 p1 p2 m2 e2 : Int) (hp : 0 ≤ p1) (w : World) (he : TzEnv w) (hsz : 3 ≤ w.heap.size) (h : T3 w b p0 m0 e0 p1 p2 m2 e2) :
    Calls Tryz.prog 283 #[.agg #[.slice (some ⟨b, 0, none⟩) 3 c], .int .i64 1] w fun r w' => r = .returned (.bool true) ∧ Below w.heap.size w w' := by
  by_cases h0 : p1 = 0
  · subst h0; exact parent_blank b c p0 m0 e0 p2 m2 e2 w h
  · exact parent_full b c p0 m0 e0 p1 p2 m2 e2 (by omega) w he hsz h

set_option maxRecDepth 100000 in
set_option maxHeartbeats 1600000 in
theorem check_3 (b c : Nat) (p0 m0 e0 p1 p2 m2 e2 : Int) (h0 : 0 < p0) (h1 : 0 ≤ p1) (h2 : 0 < p2) (hm0 : 0 ≤ m0 ∧ m0 ≤ 1000) (hm2 : 0 ≤ m2 ∧ m2 ≤ 1000) (hm : m0 ≠ m2) (he0 : 0 ≤ e0 ∧ e0 ≤ 1000) (he2 : 0 ≤ e2 ∧ e2 ≤ 1000) (w : World) (he : TzEnv w) (hsz : 3 ≤ w.heap.size) (h : T3 w b p0 m0 e0 p1 p2 m2 e2) :
    Calls Tryz.prog 182 #[.agg #[.slice (some ⟨b, 0, none⟩) 3 c]] w fun r w' => r = .returned (.int .i64 0) ∧ Below w.heap.size w w' := by
  have hb1 := (Below.refl w.heap.size w).alloc (Nat.le_refl _) (.cells #[.slice (some ⟨b, 0, none⟩) 3 c] 44)
  have hbox := row_alloc (w := w) #[.slice (some ⟨b, 0, none⟩) 3 c] 44 (0, 0)
  have hs1 : w.heap.size < (w.alloc (.cells #[.slice (some ⟨b, 0, none⟩) 3 c] 44)).heap.size := by simp
  have Hb1 := Lib.hid hb1; clear hb1
  have Hbox := Lib.hid hbox; clear hbox
  have Hs1 := Lib.hid hs1; clear hs1
  have He := Lib.hid he; clear he
  have H := Lib.hid h; clear h
  go_enter Tryz.func182, Tryz.ntmps182
  go_wp2_with fail
  refine (leaves_3 _ _ _).mono ?_
  rintro e w1 ⟨rfl, hb1⟩
  have hbx := (hb1.block w.heap.size Hs1.out).trans Hbox.out
  have Hsz1 := Lib.hid (Nat.lt_of_lt_of_le Hs1.out hb1.size)
  have Hb2 := Lib.hid (Hb1.out.trans (hb1.mono (Nat.le_of_lt Hs1.out)))
  clear hb1 Hb1 Hs1 Hbox
  have hmk := run_make_ints w1
  obtain ⟨q, hq⟩ : ∃ q, q = w.heap.size := ⟨_, rfl⟩
  rw [← hq] at hbx Hsz1 ⊢
  have Hq := Lib.hid hq; clear hq
  have hx0 : w1.cell? ⟨q, 0, none⟩ = some (.slice (some ⟨b, 0, none⟩) 3 c) := (cell_row hbx 0).trans rfl
  have hql : q < w1.heap.size := Hsz1.out
  go_wp2
  clear hmk
  refine wp_loop_rounds 4 ?_
  rw [rounds_succ]
  have hmap : IMap (w1.alloc (.map #[] 0)) w1.heap.size 0 (.map []) := World.ownsMap_made w1 Tryz.prog 3 (plainElem (H := Unit) Tryz.prog 3)
  have hT : T3 (w1.alloc (.map #[] 0)) b p0 m0 e0 p1 p2 m2 e2 := (H.out.new Hb2.out).new ((Below.refl _ _).alloc (Nat.le_refl _) _)
  have hb3 := Hb2.out.alloc Hb2.out.size (.map #[] 0)
  have hx1 : (w1.alloc (.map #[] 0)).cell? ⟨q, 0, none⟩ = some (.slice (some ⟨b, 0, none⟩) 3 c) := (((Below.refl _ _).alloc (Nat.le_refl _) _).cell (p := ⟨q, 0, none⟩) hql).trans hx0
  have hmw : w.heap.size ≤ w1.heap.size ∧ w1.heap.size < (w1.alloc (.map #[] 0)).heap.size := ⟨Hb2.out.size, by simp⟩
  obtain ⟨mb, hmb⟩ : ∃ mb, mb = w1.heap.size := ⟨_, rfl⟩
  rw [← hmb] at hmap hmw ⊢
  clear hx0
  generalize w1.alloc (.map #[] 0) = w2 at hmap hT hb3 hx1 hmw ⊢
  obtain ⟨a0, ca, t3⟩ := hT.c3
  have t0 := hT.c0
  have t1 := hT.c1
  have t2 := hT.c2
  have hTl := hT.lt
  have HT := Lib.hid hT; clear hT
  have Hmap := Lib.hid hmap; clear hmap
  have Hb3 := Lib.hid hb3; clear hb3
  have Hmw := Lib.hid hmw; clear hmw
  have Hmb := Lib.hid hmb; clear hmb hbx
  go_wp2_with fail
  refine (blank_no p0 m0 e0 h0 a0 ca _).mono ?_
  rintro e w3 ⟨rfl, hb⟩
  have hal := (Below.refl w2.heap.size w2).alloc (Nat.le_refl _) (.cells #[.int .i64 p0, .int .i64 m0, .int .i64 e0, .slice a0 0 ca] 125)
  have hnode := (hb.block w2.heap.size (by simp)).trans (row_alloc (w := w2) #[.int .i64 p0, .int .i64 m0, .int .i64 e0, .slice a0 0 ca] 125 (0, 0))
  have hb23 := hal.trans (hb.mono (by simp))
  clear hb hal t0 t1 t2 t3
  have hT3 := HT.out.new hb23
  have hmap3 := Hmap.out.below hb23 Hmw.out.2
  have hx3 := (hb23.cell (p := ⟨q, 0, none⟩) (by have := Hmb.out; have := Hmw.out.2; simp only; omega)).trans hx1
  have hb3' := Hb3.out.trans (hb23.mono (by have := Hb3.out.size; omega))
  have hne : w2.heap.size ≠ mb ∧ w2.heap.size < w3.heap.size ∧ q ≠ mb ∧ b ≠ mb := ⟨by have := Hmw.out.2; omega, (Array.getElem?_eq_some_iff.1 hnode).1, by have := Hmb.out; omega, by have := H.out.lt; have := Hmw.out.1; omega⟩
  obtain ⟨nd, hnd⟩ : ∃ nd, nd = w2.heap.size := ⟨_, rfl⟩
  rw [← hnd] at hnode hne ⊢
  clear hnd hx1 hb23 Hb3 HT Hmap
  have n0 := (cell_row hnode 0).trans rfl
  have n1 := (cell_row hnode 1).trans rfl
  have n2 := (cell_row hnode 2).trans rfl
  have n3 := (cell_row hnode 3).trans rfl
  have Hnode := Lib.hid hnode; clear hnode
  have HT3 := Lib.hid hT3; clear hT3
  have Hmap3 := Lib.hid hmap3; clear hmap3
  have Hb3 := Lib.hid hb3'; clear hb3'
  have Hne := Lib.hid hne; clear hne
  have hm0k : i64ok m0 := by unfold i64ok; omega
  have hm2k : i64ok m2 := by unfold i64ok; omega
  have Hm0k := Lib.hid hm0k; clear hm0k
  have Hm2k := Lib.hid hm2k; clear hm2k
  have hd0 : (DataW.map [] : DataW Unit).atKey (.int .i64 m0) (.lit (.int .i64 0)) = .lit (.int .i64 0) := rfl
  have Hd0 := Lib.hid hd0; clear hd0
  have hd1 : ((DataW.map [] : DataW Unit).put (.int .i64 m0) (.lit (.int .i64 1))).atKey (.int .i64 m0) (.lit (.int .i64 0)) = .lit (.int .i64 1) := Maps.atKey_put_same Maps.isMap_empty (Maps.Keyed.key keyedI (key_int Hm0k.out)) _ _
  have Hd1 := Lib.hid hd1; clear hd1
  have hp01 : ¬ p0 < 1 := by omega
  have hm00 : ¬ m0 < 0 := by omega
  have he00 : ¬ e0 < 0 := by omega
  have Hx3 := Lib.hid hx3; clear hx3
  go_wp2_with (first
    | (at_lookup; refine wpList_look_cnt rfl (.tmp 34) (.tmp 36) rfl rfl m0 rfl Hmap3.out Hm0k.out 0 Hd0.out ?_)
    | (at_mapUpdate; refine wpList_mapUpdate_own _ rfl (.tmp 34) (.tmp 36) (.tmp 38) 173 rfl 3 3 keyedI Tryz.underlying173 (plainElem Tryz.prog 3) mb 0 (.map []) rfl Hmap3.out (by unfold maxLen; omega) (.int .i64 m0) (.int .i64 1) (.int .i64 m0) rfl rfl (key_int Hm0k.out) (.lit (.int .i64 1)) [] (plainElem_int (H := Unit) Tryz.underlying3 (q := .i64) (a := 1) (by decide)) ?_; intro w5 hmap5 hgrow5; have hb35 : ∀ k, k < w3.heap.size → k ≠ mb → w5.heap[k]? = w3.heap[k]? := fun k hk hn => hgrow5.block k hk (fun e => hn (by injection e)); have hnode5 := (hb35 nd Hne.out.2.1 Hne.out.1).trans Hnode.out; clear n0 n1 n2 n3; have n0 := (cell_row hnode5 0).trans rfl; have n1 := (cell_row hnode5 1).trans rfl; have n2 := (cell_row hnode5 2).trans rfl; have n3 := (cell_row hnode5 3).trans rfl; have Hb35 := Lib.hid hb35; clear hb35 hnode5; have hlk := look_cnt hmap5 m0 1 Hm0k.out Hd1.out; have Hmap5 := Lib.hid hmap5; clear hmap5; have Hgrow5 := Lib.hid hgrow5; clear hgrow5))
  have hT5 := HT3.out.block (Hb35.out b HT3.out.lt Hne.out.2.2.2)
  have hql3 : q < w3.heap.size := World.block_lt_of_cell? w3 _ Hx3.out
  have hx5 : w5.cell? ⟨q, 0, none⟩ = some (.slice (some ⟨b, 0, none⟩) 3 c) := (World.cell?_of_block (w := w3) (a := ⟨q, 0, none⟩) (Hb35.out q hql3 Hne.out.2.2.1)).trans Hx3.out
  have hb5 := Hb3.out.grown Hgrow5.out Hb3.out.size (fun k e => by injection e with e; have := Hmw.out.1; omega)
  have hml5 : mb < w5.heap.size := World.ownsMap.lt Hmap5.out
  have hql5 : q < w5.heap.size := Nat.lt_of_lt_of_le hql3 Hgrow5.out.size
  have hsz5 : 3 ≤ w5.heap.size := Nat.le_trans hsz hb5.size
  obtain ⟨a1, cb, t7⟩ := hT5.c7
  have t4 := hT5.c4
  have t5 := hT5.c5
  have t6 := hT5.c6
  have hTl5 := hT5.lt
  clear n0 n1 n2 n3 hlk hTl
  have HT5 := Lib.hid hT5; clear hT5
  have Hb5 := Lib.hid hb5; clear hb5
  have hal5 := (Below.refl w5.heap.size w5).alloc (Nat.le_refl _) (.cells #[.int .i64 p1, .int .i64 0, .int .i64 0, .slice a1 0 cb] 125)
  have hpar := parent_3 b c p0 m0 e0 p1 p2 m2 e2 h1 _ ((He.out.below Hb5.out hsz).below hal5 hsz5) (Nat.le_trans hsz5 hal5.size) (HT5.out.new hal5)
  have Hpar := Lib.hid hpar; clear hpar
  have Hal5 := Lib.hid hal5; clear hal5
  rw [rounds_succ]
  go_wp2_with fail
  refine Hpar.out.mono ?_
  rintro e w6 ⟨rfl, hb56⟩
  have hb6 := Hal5.out.trans (hb56.mono Hal5.out.size)
  clear hb56 t4 t5 t6 t7 Hpar Hal5
  have hT6 := HT5.out.new hb6
  have hmap6 : IMap w6 mb 1 ((DataW.map [] : DataW Unit).put (.int .i64 m0) (.lit (.int .i64 1))) := IMap.below (w := w5) Hmap5.out hb6 hml5
  have hb6w := Hb5.out.trans (hb6.mono Hb5.out.size)
  have hml6 : mb < w6.heap.size := World.ownsMap.lt hmap6
  clear hx5 hml5 hql5 hsz5 hb6
  obtain ⟨a2, cc, t11⟩ := hT6.c11
  have t8 := hT6.c8
  have t9 := hT6.c9
  have t10 := hT6.c10
  have hTl6 := hT6.lt
  have HT6 := Lib.hid hT6; clear hT6
  have Hmap6 := Lib.hid hmap6; clear hmap6
  have Hb6 := Lib.hid hb6w; clear hb6w
  go_wp2_with fail
  rw [rounds_succ]
  go_wp2_with fail
  refine (blank_no p2 m2 e2 h2 a2 cc _).mono ?_
  rintro e w7 ⟨rfl, hb⟩
  have hal := (Below.refl w6.heap.size w6).alloc (Nat.le_refl _) (.cells #[.int .i64 p2, .int .i64 m2, .int .i64 e2, .slice a2 0 cc] 125)
  have hnode := (hb.block w6.heap.size (by simp)).trans (row_alloc (w := w6) #[.int .i64 p2, .int .i64 m2, .int .i64 e2, .slice a2 0 cc] 125 (0, 0))
  have hb67 := hal.trans (hb.mono (by simp))
  clear hb hal t8 t9 t10 t11
  have hmap7 : IMap w7 mb 1 ((DataW.map [] : DataW Unit).put (.int .i64 m0) (.lit (.int .i64 1))) := IMap.below (w := w6) Hmap6.out hb67 hml6
  have hb7 := Hb6.out.trans (hb67.mono Hb6.out.size)
  have hne7 : w6.heap.size ≠ mb ∧ w6.heap.size < w7.heap.size := ⟨by omega, (Array.getElem?_eq_some_iff.1 hnode).1⟩
  obtain ⟨nd2, hnd2⟩ : ∃ nd, nd = w6.heap.size := ⟨_, rfl⟩
  rw [← hnd2] at hnode hne7 ⊢
  clear hnd2 hb67
  have n0 := (cell_row hnode 0).trans rfl
  have n1 := (cell_row hnode 1).trans rfl
  have n2 := (cell_row hnode 2).trans rfl
  have n3 := (cell_row hnode 3).trans rfl
  have Hnode7 := Lib.hid hnode; clear hnode
  have Hmap7 := Lib.hid hmap7; clear hmap7
  have Hb7 := Lib.hid hb7; clear hb7
  have Hne7 := Lib.hid hne7; clear hne7
  have hkne : (Lit.int .i64 m2) ≠ (Lit.int .i64 m0) := fun e => hm (by injection e with _ e; exact e.symm)
  have hd2 : ((DataW.map [] : DataW Unit).put (.int .i64 m0) (.lit (.int .i64 1))).atKey (.int .i64 m2) (.lit (.int .i64 0)) = .lit (.int .i64 0) := (Maps.atKey_put_other hkne _ _).trans rfl
  have Hd2 := Lib.hid hd2; clear hd2 hkne
  have hd3 : (((DataW.map [] : DataW Unit).put (.int .i64 m0) (.lit (.int .i64 1))).put (.int .i64 m2) (.lit (.int .i64 1))).atKey (.int .i64 m2) (.lit (.int .i64 0)) = .lit (.int .i64 1) := Maps.atKey_put_same (Maps.IsMap.put Maps.isMap_empty _ _) (Maps.Keyed.key keyedI (key_int Hm2k.out)) _ _
  have Hd3 := Lib.hid hd3; clear hd3
  have hp21 : ¬ p2 < 1 := by omega
  have hm20 : ¬ m2 < 0 := by omega
  have he20 : ¬ e2 < 0 := by omega
  go_wp2_with (first
    | (at_lookup; refine wpList_look_cnt rfl (.tmp 34) (.tmp 36) rfl rfl m2 rfl Hmap7.out Hm2k.out 0 Hd2.out ?_)
    | (at_mapUpdate; refine wpList_mapUpdate_own _ rfl (.tmp 34) (.tmp 36) (.tmp 38) 173 rfl 3 3 keyedI Tryz.underlying173 (plainElem Tryz.prog 3) mb 1 ((DataW.map [] : DataW Unit).put (.int .i64 m0) (.lit (.int .i64 1))) rfl Hmap7.out (by unfold maxLen; omega) (.int .i64 m2) (.int .i64 1) (.int .i64 m2) rfl rfl (key_int Hm2k.out) (.lit (.int .i64 1)) [] (plainElem_int (H := Unit) Tryz.underlying3 (q := .i64) (a := 1) (by decide)) ?_; intro w8 hmap8 hgrow8; have hnode8 := (hgrow8.block nd2 Hne7.out.2 (fun e => Hne7.out.1 (by injection e))).trans Hnode7.out; clear n0 n1 n2 n3; have n0 := (cell_row hnode8 0).trans rfl; have n1 := (cell_row hnode8 1).trans rfl; have n2 := (cell_row hnode8 2).trans rfl; have n3 := (cell_row hnode8 3).trans rfl; clear hnode8; have hlk8 := look_cnt hmap8 m2 1 Hm2k.out Hd3.out; clear hmap8; have Hgrow8 := Lib.hid hgrow8; clear hgrow8))
  rw [rounds_succ]
  go_wp2
  go_ret
  exact ⟨rfl, Hb7.out.grown Hgrow8.out Hb7.out.size (fun k e => by injection e with e; have := Hmw.out.1; omega)⟩
end Go.Proofs.YtedpljclnpiggaaGreatDoor
