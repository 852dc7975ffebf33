/-
  The document's store: Make, New, Get.
-/
import Derived.Test.YtagccbpjpcnmeaaGreatDoorQRef
import Derived.RegionTactic
import Derived.ChangeAlike
import Derived.Deep.RegionLaw
import Derived.Deep.AppendLies
set_option linter.unusedVariables false
set_option linter.unusedSimpArgs false
namespace Go.Proofs.YtagccbpjpcnmeaaGreatDoor
open Go Go.RowKit

theorem infoT : (Tryz.prog.info? 95).map (fun i => (i.zero, i.size, i.bytes)) = some (some (.agg #[.int .u8 0, .int .i64 0, .int .i64 0, .int .i64 0]), 4, 32) := by kernel_rfl

theorem four_new (w : World) (s : TermD) (t : TypeId) : ∀ j u, s.vals[j]? = some u → (w.alloc (.cells s.arr t)).cell? ((⟨w.heap.size, 0, none⟩ : Addr).add j) = some u := by
  intro j u hj
  have ha : (⟨w.heap.size, 0, none⟩ : Addr).add j = ⟨w.heap.size, j, none⟩ := by unfold Addr.add; split <;> simp_all
  rw [ha, cell_row (row_alloc _ _ _)]
  rw [show s.arr = s.vals.toArray from rfl, List.getElem?_toArray]
  exact hj

theorem geq_false (x lim : Int) (h : x < lim) (W : World) : (binOp .geq 3 (.int .i64 x) (.int .i64 lim)).run Tryz.prog W = .ok (.bool false) W := by
  go_simp

theorem wpList_geq_false {ops : Array Oper} {rest : List Oper} {o : Oper} {a : Act} {w : World} {Q : Exit → Act → World → Prop} (hg : o.guard = none) (u v : Operand) (x lim : Int) (ho : o.op = .binOp .geq 3 u v 3)
    (hu : a.eval u = .int .i64 x) (hv : a.eval v = .int .i64 lim) (h : x < lim) (hK : wpList Tryz.prog ops Q rest (a.put o.dst (.bool false)) w) : wpList Tryz.prog ops Q (o :: rest) a w := by
  refine wpList_plain hg fun K' hK' => ?_
  unfold Oper.wp
  simp [execOp, ho, hu, hv, geq_false x lim h, Result.andThen]
  exact hK' _ _ hK

/-- What a Make leaves. -/
def RMakePost (r : Nat) (F : Nat → Prop) (L : List TermD) (t : TermD) (w : World) (e : Ending) (w' : World) : Prop :=
  e = .returned (.tuple #[.int .i64 (makeN L t), .int .i64 (makeE L t)]) ∧ ∃ F', Ext F F' w w' ∧ RefStore w' r F' (makeL L t) ∧ Turned F w w'

theorem make_bad {L : List TermD} {t : TermD} (h : mayD L.length t = false) : makeN L t = 0 ∧ makeE L t = 1 ∧ makeL L t = L := by
  unfold makeN makeE makeL
  rw [if_pos h, if_pos h, if_pos h]
  exact ⟨rfl, rfl, rfl⟩
theorem make_new {L : List TermD} {t : TermD} (h : mayD L.length t = true) (hn : t ∉ L) (hl : L.length < 1048576) : makeN L t = (L.length : Int) + 1 ∧ makeE L t = 0 ∧ makeL L t = L ++ [t] := by
  have h' : ¬ mayD L.length t = false := by rw [h]; simp
  have hl' : ¬ 1048576 ≤ L.length := by omega
  unfold makeN makeE makeL
  rw [if_neg h', if_neg hn, if_neg hl', if_neg h', if_neg hn, if_neg hl', if_neg h', if_neg hn, if_neg hl']
  exact ⟨rfl, rfl, rfl⟩

theorem ret2 {x y a b : Int} (h1 : x = a) (h2 : y = b) : Ending.returned (.tuple #[.int .i64 x, .int .i64 y]) = .returned (.tuple #[.int .i64 a, .int .i64 b]) := by rw [h1, h2]

theorem idx_of {L : List TermD} (h : Good L) {i : Nat} {t : TermD} (hi : L[i]? = some t) : L.idxOf t = i := by
  have hmem : t ∈ L := List.mem_of_getElem? hi
  have hlt := (List.getElem?_eq_some_iff.1 hi).1
  have hj := List.idxOf_lt_length_of_mem hmem
  have e1 : L[L.idxOf t]'hj = t := List.getElem_idxOf hj
  have e2 : L[i]'hlt = t := (List.getElem?_eq_some_iff.1 hi).2
  have hp := List.pairwise_iff_getElem.1 h.nodup
  rcases Nat.lt_trichotomy (L.idxOf t) i with h1 | h1 | h1
  · exact absurd (e1.trans e2.symm) (hp _ _ hj hlt h1)
  · exact h1
  · exact absurd (e2.trans e1.symm) (hp _ _ hlt hj h1)

def RMRel (L : List TermD) (t : TermD) (w2 : World) (i : Value) (wr : World) : Prop :=
  ∃ k d : Nat, k ≤ L.length ∧ i = .int .i64 k ∧ (∀ j, j < k → L.getD j zeroT ≠ t) ∧ wr = w2.drewN d

theorem not_mem_of_getD {L : List TermD} {t : TermD} (h : ∀ j, j < L.length → L.getD j zeroT ≠ t) : t ∉ L := by
  intro hm
  obtain ⟨i, hi, rfl⟩ := List.mem_iff_getElem.1 hm
  exact h i hi (by simp [List.getD_eq_getElem?_getD, hi])

theorem getD_get {L : List TermD} {i : Nat} (hi : i < L.length) : L[i]? = some (L.getD i zeroT) := by
  simp [List.getD_eq_getElem?_getD, hi]

set_option maxRecDepth 100000 in
set_option maxHeartbeats 1600000 in
theorem rmake_any (r : Nat) (F : Nat → Prop) (L : List TermD) (t : TermD) (ht : t.ok) (hG : Good L) (hl : L.length < 1048576) (w : World) (h : RefStore w r F L) :
    Calls Tryz.prog 27 #[.pointer (some ⟨r, 0, none⟩), .agg #[.int .u8 t.kind, .int .i64 t.n, .int .i64 t.a, .int .i64 t.b]] w (RMakePost r F L t w) := by
  obtain ⟨i0, hi0, hz0, hz1, hz2⟩ := info_parts infoT
  have hb1 := (Below.refl w.heap.size w).alloc (Nat.le_refl _) (.cells #[.int .u8 t.kind, .int .i64 t.n, .int .i64 t.a, .int .i64 t.b] 95)
  have hmay := rmay_any r F L t ht _ (h.kept (Turned.new (fun _ => False) hb1) (fun _ _ h => h)) (by omega)
  have hbox := row_alloc (w := w) #[.int .u8 t.kind, .int .i64 t.n, .int .i64 t.a, .int .i64 t.b] 95 (0, 0)
  have Hb1 := Lib.hid hb1; clear hb1
  have Hmay := Lib.hid hmay; clear hmay
  have Hbox := Lib.hid hbox; clear hbox
  have H := Lib.hid h; clear h
  have Hl := Lib.hid hl; clear hl
  have HG := Lib.hid hG; clear hG
  have hws : w.heap.size < (w.alloc (.cells #[.int .u8 t.kind, .int .i64 t.n, .int .i64 t.a, .int .i64 t.b] 95)).heap.size := by simp
  have Hws := Lib.hid hws; clear hws
  obtain ⟨kd, n, a, b⟩ := t
  simp only at Hb1 Hmay Hbox Hws ⊢
  cases hm : mayD L.length ⟨kd, n, a, b⟩ with
  | false =>
    obtain ⟨m1, m2, m3⟩ := make_bad hm
    have Hm1 := Lib.hid m1; clear m1
    have Hm2 := Lib.hid m2; clear m2
    have Hm3 := Lib.hid m3; clear m3
    rw [hm] at Hmay
    clear hm
    go_enter Tryz.func27, Tryz.ntmps27
    go_wp2_with (go_at_call 57; refine Hmay.out.mono ?_; rintro e w2 ⟨rfl, hb2⟩; have Hb2 := Lib.hid (Hb1.out.trans (hb2.mono (Nat.le_of_lt Hws.out))); clear hb2)
    go_ret2
    refine ⟨ret2 Hm1.out.symm Hm2.out.symm, F, Ext.refl _ _ _, ?_, Turned.new F Hb2.out⟩
    rw [Hm3.out]
    exact H.out.kept (Turned.new (fun _ => False) Hb2.out) (fun _ _ h => h)
  | true =>
    rw [hm] at Hmay
    have Hm := Lib.hid hm; clear hm
    go_enter Tryz.func27, Tryz.ntmps27
    go_wp2_with fail
    refine Hmay.out.mono ?_
    rintro e w2 ⟨rfl, hb2⟩
    have hbx := (hb2.block _ Hws.out).trans Hbox.out
    have x0 : w2.cell? ⟨w.heap.size, 0, none⟩ = some (.int .u8 kd) := by rw [cell_row hbx]; rfl
    have x1 : w2.cell? ⟨w.heap.size, 1, none⟩ = some (.int .i64 n) := by rw [cell_row hbx]; rfl
    have x2 : w2.cell? ⟨w.heap.size, 2, none⟩ = some (.int .i64 a) := by rw [cell_row hbx]; rfl
    have x3 : w2.cell? ⟨w.heap.size, 3, none⟩ = some (.int .i64 b) := by rw [cell_row hbx]; rfl
    have hw2 : w.heap.size < w2.heap.size := Nat.lt_of_lt_of_le Hws.out hb2.size
    have Hb2 := Lib.hid (Hb1.out.trans (hb2.mono (Nat.le_of_lt Hws.out))); clear hb2 hbx
    have hs2 := H.out.kept (Turned.new (fun _ => False) Hb2.out) (fun _ _ h => h)
    obtain ⟨v, hrow, hown, hF, hFl⟩ := hs2
    obtain ⟨va, vc, rfl, _⟩ := ownT_len hown
    have c0 : w2.cell? ⟨r, 0, none⟩ = some (.slice va L.length vc) := by rw [cell_row hrow]; rfl
    have Hat := Lib.hid (ownT_at hown)
    have Hrow := Lib.hid hrow; clear hrow
    have Hown := Lib.hid hown; clear hown
    have HF := Lib.hid hF; clear hF
    have HFl := Lib.hid hFl; clear hFl
    clear Hmay Hb1 Hbox Hws
    obtain ⟨q, hq⟩ : ∃ q, q = w.heap.size := ⟨_, rfl⟩
    rw [← hq] at x0 x1 x2 x3 hw2 ⊢
    have Hq := Lib.hid hq; clear hq
    go_wp2
    go_loopw [6] (fun i wr => RMRel L ⟨kd, n, a, b⟩ w2 i wr) (fun i _ => L.length - (intOf i).toNat)
    case atStart => exact ⟨0, 0, Nat.zero_le _, rfl, fun j hj => by omega, rfl⟩
    case round =>
      obtain ⟨k, d, hk, rfl, hall, rfl⟩ := hrel
      have Hall := Lib.hid hall; clear hall
      by_cases hlt : k < L.length
      · obtain ⟨gb, go, rfl, t0, t1, t2, t3⟩ := Hat.out k hlt
        have hget := getD_get hlt
        obtain ⟨s, hs⟩ : ∃ s, s = L.getD k zeroT := ⟨_, rfl⟩
        rw [← hs] at hget
        have Hs := Lib.hid hs; clear hs
        simp only [← Hs.out] at t0 t1 t2 t3
        have Hget := Lib.hid hget; clear hget
        obtain ⟨sk, sn, sa, sb⟩ := s
        have heq := binop_eql_term ⟨sk, sn, sa, sb⟩ ⟨kd, n, a, b⟩
        simp only at t0 t1 t2 t3 heq
        have hkL : (k : Int) < L.length := by omega
        have hkB : (k : Int) ≤ 2000000 := by have := Hl.out; omega
        go_wp2_with fail
        go_quiet (fail)
        go_wp2
        · have hst : (⟨sk, sn, sa, sb⟩ : TermD) = ⟨kd, n, a, b⟩ := by
            have h1 : sk = kd ∧ sn = n ∧ sa = a ∧ sb = b := by assumption
            obtain ⟨rfl, rfl, rfl, rfl⟩ := h1
            rfl
          have hgt := Hget.out
          rw [hst] at hgt
          obtain ⟨m1, m2, m3⟩ := make_there HG.out hgt Hm.out
          go_ret2
          refine ⟨ret2 m1.symm m2.symm, F, Ext.refl _ _ _, ?_, (Turned.new F Hb2.out).drewN _⟩
          rw [m3]
          exact H.out.kept ((Turned.new (fun _ => False) Hb2.out).drewN _) (fun _ _ h => h)
        · have hne : (⟨sk, sn, sa, sb⟩ : TermD) ≠ ⟨kd, n, a, b⟩ := by
            have h1 : ¬sk = kd ∨ ¬sn = n ∨ ¬sa = a ∨ ¬sb = b := by assumption
            intro e
            simp only [TermD.mk.injEq] at e
            omega
          clear hkB
          refine ⟨⟨k + 1, d + nq, by omega, by go_num, fun j hj => ?_, rfl⟩, by simp [intOf]; omega⟩
          rcases Nat.lt_or_ge j k with h | h
          · exact Hall.out j h
          · obtain rfl : j = k := by omega
            rw [← Hs.out]
            exact hne
      · obtain rfl : k = L.length := by omega
        have hnot := not_mem_of_getD Hall.out
        obtain ⟨m1, m2, m3⟩ := make_new Hm.out hnot Hl.out
        have Hm1 := Lib.hid m1; clear m1
        have Hm2 := Lib.hid m2; clear m2
        have Hm3 := Lib.hid m3; clear m3 hnot
        have Hrne := Lib.hid (show some r ≠ (Value.slice va L.length vc).ownBlock from fun e => (HF.out.2 r e.symm).2 rfl)
        go_wp2_with (refine wpList_geq_false rfl (.tmp 35) (.const (.int .i64 1048576)) L.length 1048576 rfl rfl rfl (by have := Hl.out; omega) ?_)
        have C0 : (w2.drewN d).cell? ⟨r, 0, none⟩ = some (.slice va L.length vc) := c0
        have X0 : (w2.drewN d).cell? ⟨q, 0, none⟩ = some (.int .u8 kd) := x0
        have X1 : (w2.drewN d).cell? ⟨q, 1, none⟩ = some (.int .i64 n) := x1
        have X2 : (w2.drewN d).cell? ⟨q, 2, none⟩ = some (.int .i64 a) := x2
        have X3 : (w2.drewN d).cell? ⟨q, 3, none⟩ = some (.int .i64 b) := x3
        have HrowX : (w2.drewN d).heap[r]? = some (.cells #[.slice va L.length vc] 134 (0, 0)) := Hrow.out
        have HownX : OwnT (.slice va L.length vc) L (w2.drewN d) := Hown.out
        have hTX : Turned F w (w2.drewN d) := (Turned.new F Hb2.out).drewN d
        have hFX : ∀ k, F k → k < (w2.drewN d).heap.size := HFl.out
        have hqX : q < (w2.drewN d).heap.size := hw2
        clear c0 x0 x1 x2 x3 Hrow Hown HFl hw2 Hb2 Hat
        generalize w2.drewN d = wx at C0 X0 X1 X2 X3 HrowX HownX hTX hFX hqX ⊢
        have z0 := free_row HrowX 0
        have hrl : r < wx.heap.size := (Array.getElem?_eq_some_iff.1 HrowX).1
        have Hrow := Lib.hid HrowX; clear HrowX
        have Hown := Lib.hid HownX; clear HownX
        have HTX := Lib.hid hTX; clear hTX
        have HFX := Lib.hid hFX; clear hFX
        go_region_law (go_loud (refine step_append_lies _ rfl (.tmp 41) (.tmp 43) 22 rfl 0 95 i0 (.agg #[.int .u8 0, .int .i64 0, .int .i64 0, .int .i64 0]) 4 32 Tryz.underlying22 hi0 hz0 hz1 hz2 rfl (by decide) (.slice va L.length vc) L.length (L.flatMap TermD.vals) (by simp [Act.eval, Act.put]) (Hown.out.alloc _) ⟨wx.heap.size, 0, none⟩ 1 1 (TermD.vals ⟨kd, n, a, b⟩) (by simp [Act.eval, Act.put]) rfl (four_new _ _ _) (four_one _) (by omega) (by have := Hl.out; unfold maxLen; omega) (by have := Hl.out; omega) (by simp) (wx.heap.size + 1) (by simp) ?_); intro g cap w5 hown5 hgrow5 hat5 hlt5; have hr5 : w5.heap[r]? = some (.cells #[.slice va L.length vc] 134 (0, 0)) := (hgrow5.block r (Nat.lt_of_lt_of_le hrl (by simp)) Hrne.out).trans ((heap_alloc_old _ _ hrl).trans Hrow.out); have z5 := free_row hr5 0; have c5 : w5.cell? ⟨r, 0, none⟩ = some (.slice va L.length vc) := (cell_row hr5 _).trans rfl; have Hr5 := Lib.hid hr5; clear hr5; have Hown5 := Lib.hid hown5; clear hown5; have Hgrow5 := Lib.hid hgrow5; clear hgrow5; have Hat5 := Lib.hid hat5; clear hat5; have Hlt5 := Lib.hid hlt5; clear hlt5)
        all_goals
          clear z5 c5 z0
          have hr6 := row_setCell Hr5.out 0 (.slice (some ⟨g, 0, none⟩) (L.length + 1) cap)
          have hgr : g ≠ r := by
            rcases Hat5.out with e | e
            · exact (HF.out.2 g e).2
            · omega
          have hown6 := ownsRow_setCell_other (a := ⟨r, 0, none⟩) Hown5.out (by simp [Value.ownBlock, hgr]) (.slice (some ⟨g, 0, none⟩) (L.length + 1) cap)
          have hFg : ∀ k, k = g → F k ∨ (w.heap.size ≤ k ∧ k < (w5.setCell ⟨r, 0, none⟩ (.slice (some ⟨g, 0, none⟩) (L.length + 1) cap)).heap.size) := fun k e => by
            subst e
            rcases Hat5.out with e | e
            · exact .inl (HF.out.2 _ e).1
            · refine .inr ⟨by have := HTX.out.size; omega, ?_⟩
              simpa [World.setCell] using Hlt5.out
          have hT : Turned F w (w5.setCell ⟨r, 0, none⟩ (.slice (some ⟨g, 0, none⟩) (L.length + 1) cap)) :=
            ((HTX.out.alloc (.cells (TermD.arr ⟨kd, n, a, b⟩) 95)).drew.grown Hgrow5.out (fun k _ e => (HF.out.2 k e).1)).setCell (fun _ => HF.out.1) _
          have hsz : ∀ k, F k ∨ k = g → k < (w5.setCell ⟨r, 0, none⟩ (.slice (some ⟨g, 0, none⟩) (L.length + 1) cap)).heap.size := fun k hk => by
            rcases hk with hk | rfl
            · have h1 := HFX.out k hk
              have h2 := Hgrow5.out.size
              simp at h2
              simp [World.setCell]
              omega
            · simpa [World.setCell] using Hlt5.out
          generalize w5.setCell ⟨r, 0, none⟩ (.slice (some ⟨g, 0, none⟩) (L.length + 1) cap) = w6 at hr6 hown6 hFg hT hsz ⊢
          have c6 : w6.cell? ⟨r, 0, none⟩ = some (.slice (some ⟨g, 0, none⟩) (L.length + 1) cap) := (cell_row hr6 0).trans rfl
          have Hr6 := Lib.hid hr6; clear hr6
          have Hown6 := Lib.hid hown6; clear hown6
          have HFg := Lib.hid hFg; clear hFg
          have HT := Lib.hid hT; clear hT
          have Hsz := Lib.hid hsz; clear hsz
          have Hgr := Lib.hid hgr; clear hgr
          clear Hown5 Hgrow5 Hat5 Hlt5 Hr5
          go_wp2
          go_ret2
          refine ⟨ret2 Hm1.out.symm Hm2.out.symm, fun k => F k ∨ k = g, fun k hk => hk.elim .inl (HFg.out k), ?_, HT.out⟩
          rw [Hm3.out]
          refine ⟨_, Hr6.out, ?_, ⟨.inl HF.out.1, fun g' hg' => ?_⟩, Hsz.out⟩
          · unfold OwnT
            rw [List.length_append, List.flatMap_append]
            exact Hown6.out
          · obtain rfl : g = g' := by simpa [Value.ownBlock] using hg'
            exact ⟨.inr rfl, Hgr.out⟩
end Go.Proofs.YtagccbpjpcnmeaaGreatDoor
