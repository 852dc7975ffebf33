/- Reading a store: Get, is, there, alive, Len. -/
import Derived.Test.YtedpljclnpiggaaGreatDoorV04
import Derived.RegionTactic
import Derived.ChangeAlike
import Derived.Deep.RegionLaw
import Derived.Deep.AppendLies
import Derived.Test.YtedpljclnpiggaaGreatDoorV03
set_option linter.unusedVariables false
set_option linter.unusedSimpArgs false
set_option maxRecDepth 100000
set_option maxHeartbeats 12800000
namespace Go.Proofs.YtedpljclnpiggaaGreatDoor
section
open Go Go.RowKit
theorem infoT : (Tryz.prog.info? 107).map (fun i => (i.zero, i.size, i.bytes)) = some (some (.agg #[.int .u8 0, .int .i64 0, .int .i64 0, .int .i64 0]), 4, 32) := by kernel_rfl
theorem four_new (w : World) (s : TermD) (t : TypeId) : ∀ j u, s.vals[j]? = some u → (w.alloc (.cells s.arr t)).cell? ((⟨w.heap.size, 0, none⟩ : Addr).add j) = some u := by
 intro j u hj
 have ha : (⟨w.heap.size, 0, none⟩ : Addr).add j = ⟨w.heap.size, j, none⟩ := by unfold Addr.add; split <;> simp_all
 rw [ha, cRw (rAl _ _ _)]
 rw [show s.arr = s.vals.toArray from rfl, List.getElem?_toArray]
 exact hj
theorem geq_false (x lim : Int) (h : x < lim) (W : World) : (binOp .geq 3 (.int .i64 x) (.int .i64 lim)).run Tryz.prog W = .ok (.bool false) W := by
 go_simp
theorem wpList_geq_false {ops : Array Oper} {rest : List Oper} {o : Oper} {a : Act} {w : World} {Q : Exit → Act → World → Prop} (hg : o.guard = none) (u v : Operand) (x lim : Int) (ho : o.op = .binOp .geq 3 u v 3)
    (hu : a.eval u = .int .i64 x) (hv : a.eval v = .int .i64 lim) (h : x < lim) (hK : wpList Tryz.prog ops Q rest (a.put o.dst (.bool false)) w) : wpList Tryz.prog ops Q (o :: rest) a w := by
 refine wpList_plain hg fun K' hK' => ?_
 unfold Oper.wp
 simp [execOp, ho, hu, hv, geq_false x lim h, Result.andThen]
 exact hK' _ _ hK
def RMakePost (r : Nat) (F : Nat → Prop) (L : List TermD) (t : TermD) (w : World) (e : Ending) (w' : World) : Prop :=
 e = .returned (.tuple #[.int .i64 (makeN L t), .int .i64 (makeE L t)]) ∧ ∃ F', Ext F F' w w' ∧ RefStore w' r F' (makeL L t) ∧ Turned F w w'
theorem make_bad {L : List TermD} {t : TermD} (h : mayD L.length t = false) : makeN L t = 0 ∧ makeE L t = 1 ∧ makeL L t = L := by
 unfold makeN makeE makeL
 rw [if_pos h, if_pos h, if_pos h]
 exact ⟨rfl, rfl, rfl⟩
theorem make_new {L : List TermD} {t : TermD} (h : mayD L.length t = true) (hn : t ∉ L) (hl : L.length < 1048576) : makeN L t = (L.length : Int) + 1 ∧ makeE L t = 0 ∧ makeL L t = L ++ [t] := by
 have h' : ¬ mayD L.length t = false := by rw [h]; simp
 have hl' : ¬ 1048576 ≤ L.length := by omega
 unfold makeN makeE makeL
 rw [if_neg h', if_neg hn, if_neg hl', if_neg h', if_neg hn, if_neg hl', if_neg h', if_neg hn, if_neg hl']
 exact ⟨rfl, rfl, rfl⟩
theorem ret2 {x y a b : Int} (h1 : x = a) (h2 : y = b) : Ending.returned (.tuple #[.int .i64 x, .int .i64 y]) = .returned (.tuple #[.int .i64 a, .int .i64 b]) := by rw [h1, h2]
theorem idx_of {L : List TermD} (h : Good L) {i : Nat} {t : TermD} (hi : L[i]? = some t) : L.idxOf t = i := by
 have hmem : t ∈ L := List.mem_of_getElem? hi
 have hlt := (List.getElem?_eq_some_iff.1 hi).1
 have hj := List.idxOf_lt_length_of_mem hmem
 have e1 : L[L.idxOf t]'hj = t := List.getElem_idxOf hj
 have e2 : L[i]'hlt = t := (List.getElem?_eq_some_iff.1 hi).2
 have hp := List.pairwise_iff_getElem.1 h.nodup
 rcases Nat.lt_trichotomy (L.idxOf t) i with h1 | h1 | h1
 · exact absurd (e1.trans e2.symm) (hp _ _ hj hlt h1)
 · exact h1
 · exact absurd (e2.trans e1.symm) (hp _ _ hlt hj h1)
def RMRel (L : List TermD) (t : TermD) (w2 : World) (i : Value) (wr : World) : Prop :=
 ∃ k d : Nat, k ≤ L.length ∧ i = .int .i64 k ∧ (∀ j, j < k → L.getD j zeroT ≠ t) ∧ wr = w2.drewN d
theorem not_mem_of_getD {L : List TermD} {t : TermD} (h : ∀ j, j < L.length → L.getD j zeroT ≠ t) : t ∉ L := by
 intro hm
 obtain ⟨i, hi, rfl⟩ := List.mem_iff_getElem.1 hm
 exact h i hi (by simp [List.getD_eq_getElem?_getD, hi])
theorem getD_get {L : List TermD} {i : Nat} (hi : i < L.length) : L[i]? = some (L.getD i zeroT) := by
 simp [List.getD_eq_getElem?_getD, hi]
theorem rmake_any (r : Nat) (F : Nat → Prop) (L : List TermD) (t : TermD) (ht : t.ok) (hG : Good L) (hl : L.length < 1048576) (w : World) (h : RefStore w r F L) :
    Calls Tryz.prog 35 #[.pointer (some ⟨r, 0, none⟩), .agg #[.int .u8 t.kind, .int .i64 t.n, .int .i64 t.a, .int .i64 t.b]] w (RMakePost r F L t w) := by
 obtain ⟨i0, hi0, hz0, hz1, hz2⟩ := info_parts infoT
 have hb1 := (Below.refl w.heap.size w).alloc (Nat.le_refl _) (.cells #[.int .u8 t.kind, .int .i64 t.n, .int .i64 t.a, .int .i64 t.b] 107)
 have hmay := rmay_any r F L t ht _ (h.kept (Turned.new (fun _ => False) hb1) (fun _ _ h => h)) (by omega)
 have hbox := rAl (w := w) #[.int .u8 t.kind, .int .i64 t.n, .int .i64 t.a, .int .i64 t.b] 107 (0, 0)
 have Hb1 := hQ hb1; clear hb1
 have Hmay := hQ hmay; clear hmay
 have Hbox := hQ hbox; clear hbox
 have H := hQ h; clear h
 have Hl := hQ hl; clear hl
 have HG := hQ hG; clear hG
 have hws : w.heap.size < (w.alloc (.cells #[.int .u8 t.kind, .int .i64 t.n, .int .i64 t.a, .int .i64 t.b] 107)).heap.size := by simp
 have Hws := hQ hws; clear hws
 obtain ⟨kd, n, a, b⟩ := t
 simp only at Hb1 Hmay Hbox Hws ⊢
 cases hm : mayD L.length ⟨kd, n, a, b⟩ with
 | false =>
  obtain ⟨m1, m2, m3⟩ := make_bad hm
  have Hm1 := hQ m1; clear m1
  have Hm2 := hQ m2; clear m2
  have Hm3 := hQ m3; clear m3
  rw [hm] at Hmay
  clear hm
  go_enter Tryz.func35, Tryz.ntmps35
  go_wp2_with (go_at_call 172; refine Hmay.out.mono ?_; rintro e w2 ⟨rfl, hb2⟩; have Hb2 := hQ (Hb1.out.trans (hb2.mono (Nat.le_of_lt Hws.out))); clear hb2)
  go_ret2
  refine ⟨ret2 Hm1.out.symm Hm2.out.symm, F, Ext.refl _ _ _, ?_, Turned.new F Hb2.out⟩
  rw [Hm3.out]
  exact H.out.kept (Turned.new (fun _ => False) Hb2.out) (fun _ _ h => h)
 | true =>
  rw [hm] at Hmay
  have Hm := hQ hm; clear hm
  go_enter Tryz.func35, Tryz.ntmps35
  go_wp2_with fail
  refine Hmay.out.mono ?_
  rintro e w2 ⟨rfl, hb2⟩
  have hbx := (hb2.block _ Hws.out).trans Hbox.out
  have x0 : w2.cell? ⟨w.heap.size, 0, none⟩ = some (.int .u8 kd) := by rw [cRw hbx]; rfl
  have x1 : w2.cell? ⟨w.heap.size, 1, none⟩ = some (.int .i64 n) := by rw [cRw hbx]; rfl
  have x2 : w2.cell? ⟨w.heap.size, 2, none⟩ = some (.int .i64 a) := by rw [cRw hbx]; rfl
  have x3 : w2.cell? ⟨w.heap.size, 3, none⟩ = some (.int .i64 b) := by rw [cRw hbx]; rfl
  have hw2 : w.heap.size < w2.heap.size := Nat.lt_of_lt_of_le Hws.out hb2.size
  have Hb2 := hQ (Hb1.out.trans (hb2.mono (Nat.le_of_lt Hws.out))); clear hb2 hbx
  have hs2 := H.out.kept (Turned.new (fun _ => False) Hb2.out) (fun _ _ h => h)
  obtain ⟨v, hrow, hown, hF, hFl⟩ := hs2
  obtain ⟨va, vc, rfl, _⟩ := ownT_len hown
  have c0 : w2.cell? ⟨r, 0, none⟩ = some (.slice va L.length vc) := by rw [cRw hrow]; rfl
  have Hat := hQ (ownT_at hown)
  have Hrow := hQ hrow; clear hrow
  have Hown := hQ hown; clear hown
  have HF := hQ hF; clear hF
  have HFl := hQ hFl; clear hFl
  clear Hmay Hb1 Hbox Hws
  obtain ⟨q, hq⟩ : ∃ q, q = w.heap.size := ⟨_, rfl⟩
  rw [← hq] at x0 x1 x2 x3 hw2 ⊢
  have Hq := hQ hq; clear hq
  go_wp2
  go_loopw [6] (fun i wr => RMRel L ⟨kd, n, a, b⟩ w2 i wr) (fun i _ => L.length - (intOf i).toNat)
  case atStart => exact ⟨0, 0, Nat.zero_le _, rfl, fun j hj => by omega, rfl⟩
  case round =>
   obtain ⟨k, d, hk, rfl, hall, rfl⟩ := hrel
   have Hall := hQ hall; clear hall
   by_cases hlt : k < L.length
   · obtain ⟨gb, go, rfl, t0, t1, t2, t3⟩ := Hat.out k hlt
     have hget := getD_get hlt
     obtain ⟨s, hs⟩ : ∃ s, s = L.getD k zeroT := ⟨_, rfl⟩
     rw [← hs] at hget
     have Hs := hQ hs; clear hs
     simp only [← Hs.out] at t0 t1 t2 t3
     have Hget := hQ hget; clear hget
     obtain ⟨sk, sn, sa, sb⟩ := s
     have heq := binop_eql_term ⟨sk, sn, sa, sb⟩ ⟨kd, n, a, b⟩
     simp only at t0 t1 t2 t3 heq
     have hkL : (k : Int) < L.length := by omega
     have hkB : (k : Int) ≤ 2000000 := by have := Hl.out; omega
     go_wp2_with fail
     go_quiet (fail)
     go_wp2
     · have hst : (⟨sk, sn, sa, sb⟩ : TermD) = ⟨kd, n, a, b⟩ := by
         have h1 : sk = kd ∧ sn = n ∧ sa = a ∧ sb = b := by assumption
         obtain ⟨rfl, rfl, rfl, rfl⟩ := h1
         rfl
       have hgt := Hget.out
       rw [hst] at hgt
       obtain ⟨m1, m2, m3⟩ := make_there HG.out hgt Hm.out
       go_ret2
       refine ⟨ret2 m1.symm m2.symm, F, Ext.refl _ _ _, ?_, (Turned.new F Hb2.out).drewN _⟩
       rw [m3]
       exact H.out.kept ((Turned.new (fun _ => False) Hb2.out).drewN _) (fun _ _ h => h)
     · have hne : (⟨sk, sn, sa, sb⟩ : TermD) ≠ ⟨kd, n, a, b⟩ := by
         have h1 : ¬sk = kd ∨ ¬sn = n ∨ ¬sa = a ∨ ¬sb = b := by assumption
         intro e
         simp only [TermD.mk.injEq] at e
         omega
       clear hkB
       refine ⟨⟨k + 1, d + nq, by omega, by go_num, fun j hj => ?_, rfl⟩, by simp [intOf]; omega⟩
       rcases Nat.lt_or_ge j k with h | h
       · exact Hall.out j h
       · obtain rfl : j = k := by omega
         rw [← Hs.out]
         exact hne
   · obtain rfl : k = L.length := by omega
     have hnot := not_mem_of_getD Hall.out
     obtain ⟨m1, m2, m3⟩ := make_new Hm.out hnot Hl.out
     have Hm1 := hQ m1; clear m1
     have Hm2 := hQ m2; clear m2
     have Hm3 := hQ m3; clear m3 hnot
     have Hrne := hQ (show some r ≠ (Value.slice va L.length vc).ownBlock from fun e => (HF.out.2 r e.symm).2 rfl)
     go_wp2_with (refine wpList_geq_false rfl (.tmp 35) (.const (.int .i64 1048576)) L.length 1048576 rfl rfl rfl (by have := Hl.out; omega) ?_)
     have C0 : (w2.drewN d).cell? ⟨r, 0, none⟩ = some (.slice va L.length vc) := c0
     have X0 : (w2.drewN d).cell? ⟨q, 0, none⟩ = some (.int .u8 kd) := x0
     have X1 : (w2.drewN d).cell? ⟨q, 1, none⟩ = some (.int .i64 n) := x1
     have X2 : (w2.drewN d).cell? ⟨q, 2, none⟩ = some (.int .i64 a) := x2
     have X3 : (w2.drewN d).cell? ⟨q, 3, none⟩ = some (.int .i64 b) := x3
     have HrowX : (w2.drewN d).heap[r]? = some (.cells #[.slice va L.length vc] 156 (0, 0)) := Hrow.out
     have HownX : OwnT (.slice va L.length vc) L (w2.drewN d) := Hown.out
     have hTX : Turned F w (w2.drewN d) := (Turned.new F Hb2.out).drewN d
     have hFX : ∀ k, F k → k < (w2.drewN d).heap.size := HFl.out
     have hqX : q < (w2.drewN d).heap.size := hw2
     clear c0 x0 x1 x2 x3 Hrow Hown HFl hw2 Hb2 Hat
     generalize w2.drewN d = wx at C0 X0 X1 X2 X3 HrowX HownX hTX hFX hqX ⊢
     have z0 := fRw HrowX 0
     have hrl : r < wx.heap.size := (Array.getElem?_eq_some_iff.1 HrowX).1
     have Hrow := hQ HrowX; clear HrowX
     have Hown := hQ HownX; clear HownX
     have HTX := hQ hTX; clear hTX
     have HFX := hQ hFX; clear hFX
     go_region_law (go_loud (refine step_append_lies _ rfl (.tmp 41) (.tmp 43) 22 rfl 0 107 i0 (.agg #[.int .u8 0, .int .i64 0, .int .i64 0, .int .i64 0]) 4 32 Tryz.underlying22 hi0 hz0 hz1 hz2 rfl (by decide) (.slice va L.length vc) L.length (L.flatMap TermD.vals) (by simp [Act.eval, Act.put]) (Hown.out.alloc _) ⟨wx.heap.size, 0, none⟩ 1 1 (TermD.vals ⟨kd, n, a, b⟩) (by simp [Act.eval, Act.put]) rfl (four_new _ _ _) (four_one _) (by omega) (by have := Hl.out; unfold maxLen; omega) (by have := Hl.out; omega) (by simp) (wx.heap.size + 1) (by simp) ?_); intro g cap w5 hown5 hgrow5 hat5 hlt5; have hr5 : w5.heap[r]? = some (.cells #[.slice va L.length vc] 156 (0, 0)) := (hgrow5.block r (Nat.lt_of_lt_of_le hrl (by simp)) Hrne.out).trans ((heap_alloc_old _ _ hrl).trans Hrow.out); have z5 := fRw hr5 0; have c5 : w5.cell? ⟨r, 0, none⟩ = some (.slice va L.length vc) := (cRw hr5 _).trans rfl; have Hr5 := hQ hr5; clear hr5; have Hown5 := hQ hown5; clear hown5; have Hgrow5 := hQ hgrow5; clear hgrow5; have Hat5 := hQ hat5; clear hat5; have Hlt5 := hQ hlt5; clear hlt5)
     all_goals
      clear z5 c5 z0
      have hr6 := rSc Hr5.out 0 (.slice (some ⟨g, 0, none⟩) (L.length + 1) cap)
      have hgr : g ≠ r := by
       rcases Hat5.out with e | e
       · exact (HF.out.2 g e).2
       · omega
      have hown6 := ownsRow_setCell_other (a := ⟨r, 0, none⟩) Hown5.out (by simp [Value.ownBlock, hgr]) (.slice (some ⟨g, 0, none⟩) (L.length + 1) cap)
      have hFg : ∀ k, k = g → F k ∨ (w.heap.size ≤ k ∧ k < (w5.setCell ⟨r, 0, none⟩ (.slice (some ⟨g, 0, none⟩) (L.length + 1) cap)).heap.size) := fun k e => by
       subst e
       rcases Hat5.out with e | e
       · exact .inl (HF.out.2 _ e).1
       · refine .inr ⟨by have := HTX.out.size; omega, ?_⟩
         simpa [World.setCell] using Hlt5.out
      have hT : Turned F w (w5.setCell ⟨r, 0, none⟩ (.slice (some ⟨g, 0, none⟩) (L.length + 1) cap)) :=
       ((HTX.out.alloc (.cells (TermD.arr ⟨kd, n, a, b⟩) 107)).drew.grown Hgrow5.out (fun k _ e => (HF.out.2 k e).1)).setCell (fun _ => HF.out.1) _
      have hsz : ∀ k, F k ∨ k = g → k < (w5.setCell ⟨r, 0, none⟩ (.slice (some ⟨g, 0, none⟩) (L.length + 1) cap)).heap.size := fun k hk => by
       rcases hk with hk | rfl
       · have h1 := HFX.out k hk
         have h2 := Hgrow5.out.size
         simp at h2
         simp [World.setCell]
         omega
       · simpa [World.setCell] using Hlt5.out
      generalize w5.setCell ⟨r, 0, none⟩ (.slice (some ⟨g, 0, none⟩) (L.length + 1) cap) = w6 at hr6 hown6 hFg hT hsz ⊢
      have c6 : w6.cell? ⟨r, 0, none⟩ = some (.slice (some ⟨g, 0, none⟩) (L.length + 1) cap) := (cRw hr6 0).trans rfl
      have Hr6 := hQ hr6; clear hr6
      have Hown6 := hQ hown6; clear hown6
      have HFg := hQ hFg; clear hFg
      have HT := hQ hT; clear hT
      have Hsz := hQ hsz; clear hsz
      have Hgr := hQ hgr; clear hgr
      clear Hown5 Hgrow5 Hat5 Hlt5 Hr5
      go_wp2
      go_ret2
      refine ⟨ret2 Hm1.out.symm Hm2.out.symm, fun k => F k ∨ k = g, fun k hk => hk.elim .inl (HFg.out k), ?_, HT.out⟩
      rw [Hm3.out]
      refine ⟨_, Hr6.out, ?_, ⟨.inl HF.out.1, fun g' hg' => ?_⟩, Hsz.out⟩
      · unfold OwnT
        rw [List.length_append, List.flatMap_append]
        exact Hown6.out
      · obtain rfl : g = g' := by simpa [Value.ownBlock] using hg'
        exact ⟨.inr rfl, Hgr.out⟩
end
section
open Go Go.RowKit
theorem zero_int (W : World) : (zeroValue 3).run Tryz.prog W = .ok (.int .i64 0) W := by kernel_rfl
theorem look_in {W : World} {b n : Nat} {D : DataW Unit} {L : List TermD} {t : TermD} (h : W.ownsMap Tryz.prog 107 (plainElem Tryz.prog 3) b n D) (hT : TabOf D L) (ht : t.ok) :
    (Instr.lookup 152 (.map (some b)) (.agg #[.int .u8 t.kind, .int .i64 t.n, .int .i64 t.a, .int .i64 t.b]) true).run Tryz.prog W = .ok (.tuple #[.int .i64 (if t ∈ L then (L.idxOf t : Int) + 1 else 0), .bool (decide (t ∈ L))]) W := by
 obtain ⟨k, hk⟩ : ∃ k, keyT t = k := ⟨_, rfl⟩
 have hkey : keyOf Tryz.prog 107 (.agg t.arr) = some k := (keyT_some ht).trans (congrArg some hk)
 obtain ⟨v, ps, hrun, hv⟩ := World.ownsMap.look_ok h keyedT Tryz.underlying152 (zero_int W) (plainElem_int (H := Unit) Tryz.underlying3 (q := .i64) (a := 0) (by decide)) hkey
 obtain ⟨c, rfl, hc, _⟩ := plainElem_int_inv Tryz.underlying3 hv
 have hhas : Maps.has D k = decide (t ∈ L) := by rw [← hk]; exact hT.has t ht
 have hc1 : D.atKey k (.lit (.int .i64 0)) = .lit (.int .i64 c) := congrArg Prod.fst hc
 have hce : c = if t ∈ L then (L.idxOf t : Int) + 1 else 0 := by
  by_cases hm : t ∈ L
  · have h2 := hT.num t hm
    rw [hk, hc1] at h2
    rw [if_pos hm]
    simpa using h2
  · have h2 : D.atKey k (.lit (.int .i64 0)) = .lit (.int .i64 0) := Maps.atKey_of_not_has (by rw [hhas]; simp [hm]) _
    rw [hc1] at h2
    rw [if_neg hm]
    simpa using h2
 rw [← hce, ← hhas]
 exact hrun
def SMakePost (s : Nat) (F : Nat → Prop) (L : List TermD) (t : TermD) (w : World) (e : Ending) (w' : World) : Prop :=
 e = .returned (.tuple #[.int .i64 (makeN L t), .int .i64 (makeE L t)]) ∧ ∃ F', Ext F F' w w' ∧ ProgStore w' s F' (makeL L t) ∧ Turned F w w'
theorem smake_any (s : Nat) (F : Nat → Prop) (L : List TermD) (t : TermD) (ht : t.ok) (hG : Good L) (hl : L.length < 1048576) (w : World) (h : ProgStore w s F L) :
    Calls Tryz.prog 34 #[.pointer (some ⟨s, 0, none⟩), .agg #[.int .u8 t.kind, .int .i64 t.n, .int .i64 t.a, .int .i64 t.b]] w (SMakePost s F L t w) := by
 obtain ⟨i0, hi0, hz0, hz1, hz2⟩ := info_parts infoT
 have hb1 := (Below.refl w.heap.size w).alloc (Nat.le_refl _) (.cells #[.int .u8 t.kind, .int .i64 t.n, .int .i64 t.a, .int .i64 t.b] 107)
 have hmade := smade_any s F L _ (h.kept (Turned.new (fun _ => False) hb1) (fun _ _ h => h))
 have hmay := smay_any s F L t ht _ (h.kept (Turned.new (fun _ => False) hb1) (fun _ _ h => h)) (by omega)
 have hbox := rAl (w := w) #[.int .u8 t.kind, .int .i64 t.n, .int .i64 t.a, .int .i64 t.b] 107 (0, 0)
 have Hb1 := hQ hb1; clear hb1
 have Hmade := hQ hmade; clear hmade
 have Hmay := hQ hmay; clear hmay
 have Hbox := hQ hbox; clear hbox
 have H := hQ h; clear h
 have Hl := hQ hl; clear hl
 have HG := hQ hG; clear hG
 have Ht := hQ ht; clear ht
 have hws : w.heap.size < (w.alloc (.cells #[.int .u8 t.kind, .int .i64 t.n, .int .i64 t.a, .int .i64 t.b] 107)).heap.size := by simp
 have Hws := hQ hws; clear hws
 obtain ⟨kd, n, a, b⟩ := t
 simp only at Hb1 Hmade Hmay Hbox Hws ⊢
 cases hm : mayD L.length ⟨kd, n, a, b⟩ with
 | false =>
  obtain ⟨m1, m2, m3⟩ := make_bad hm
  have Hm1 := hQ m1; clear m1
  have Hm2 := hQ m2; clear m2
  have Hm3 := hQ m3; clear m3
  rw [hm] at Hmay
  clear hm
  go_enter Tryz.func34, Tryz.ntmps34
  go_wp2_with fail
  refine Hmade.out.mono ?_
  rintro e wm ⟨rfl, rfl⟩
  go_wp2_with fail
  refine Hmay.out.mono ?_
  rintro e w2 ⟨rfl, hb2⟩
  have Hb2 := hQ (Hb1.out.trans (hb2.mono (Nat.le_of_lt Hws.out))); clear hb2
  go_wp2
  go_ret2
  refine ⟨ret2 Hm1.out.symm Hm2.out.symm, F, Ext.refl _ _ _, ?_, Turned.new F Hb2.out⟩
  rw [Hm3.out]
  exact H.out.kept (Turned.new (fun _ => False) Hb2.out) (fun _ _ h => h)
 | true =>
  rw [hm] at Hmay
  have Hm := hQ hm; clear hm
  go_enter Tryz.func34, Tryz.ntmps34
  go_wp2_with fail
  refine Hmade.out.mono ?_
  rintro e wm ⟨rfl, rfl⟩
  go_wp2_with fail
  refine Hmay.out.mono ?_
  rintro e w2 ⟨rfl, hb2⟩
  have hbx := (hb2.block _ Hws.out).trans Hbox.out
  have x0 : w2.cell? ⟨w.heap.size, 0, none⟩ = some (.int .u8 kd) := by rw [cRw hbx]; rfl
  have x1 : w2.cell? ⟨w.heap.size, 1, none⟩ = some (.int .i64 n) := by rw [cRw hbx]; rfl
  have x2 : w2.cell? ⟨w.heap.size, 2, none⟩ = some (.int .i64 a) := by rw [cRw hbx]; rfl
  have x3 : w2.cell? ⟨w.heap.size, 3, none⟩ = some (.int .i64 b) := by rw [cRw hbx]; rfl
  have hw2 : w.heap.size < w2.heap.size := Nat.lt_of_lt_of_le Hws.out hb2.size
  have Hb2 := hQ (Hb1.out.trans (hb2.mono (Nat.le_of_lt Hws.out))); clear hb2
  have hs2 := H.out.kept (Turned.new (fun _ => False) Hb2.out) (fun _ _ h => h)
  obtain ⟨v, mb, D, hrow, hown, hmap, hT, hF, hFl⟩ := hs2
  obtain ⟨va, vc, rfl, _⟩ := ownT_len hown
  have c0 : w2.cell? ⟨s, 0, none⟩ = some (.slice va L.length vc) := by rw [cRw hrow]; rfl
  have c1 : w2.cell? ⟨s, 1, none⟩ = some (.map (some mb)) := by rw [cRw hrow]; rfl
  have hlook := fun d => look_in (W := w2.drewN d) (b := mb) (n := L.length) (D := D) (L := L) (t := ⟨kd, n, a, b⟩) hmap hT Ht.out
  simp only at hlook
  have Hrow := hQ hrow; clear hrow
  have Hown := hQ hown; clear hown
  have Hmap := hQ hmap; clear hmap
  have HT := hQ hT; clear hT
  have HF := hQ hF; clear hF
  have HFl := hQ hFl; clear hFl
  clear Hmay Hmade Hb1 Hws hbx Hbox
  obtain ⟨q, hq⟩ : ∃ q, q = w.heap.size := ⟨_, rfl⟩
  rw [← hq] at x0 x1 x2 x3 hw2 ⊢
  have Hq := hQ hq; clear hq
  by_cases hin : (⟨kd, n, a, b⟩ : TermD) ∈ L
  · simp only [if_pos hin, decide_eq_true hin] at hlook
    obtain ⟨i, hi, he⟩ := List.mem_iff_getElem.1 hin
    obtain ⟨m1, m2, m3⟩ := make_there HG.out (List.getElem?_eq_some_iff.2 ⟨hi, he⟩) Hm.out
    have hidx := idx_of HG.out (List.getElem?_eq_some_iff.2 ⟨hi, he⟩)
    rw [hidx] at hlook
    have Hm1 := hQ m1; clear m1
    have Hm2 := hQ m2; clear m2
    have Hm3 := hQ m3; clear m3
    clear he hidx hin
    have hiB : (i : Int) ≤ 2000000 := by have := Hl.out; omega
    go_wp2_with fail
    go_quiet (fail)
    go_wp2
    go_ret2
    refine ⟨ret2 Hm1.out.symm Hm2.out.symm, F, Ext.refl _ _ _, ?_, (Turned.new F Hb2.out).drewN _⟩
    rw [Hm3.out]
    exact H.out.kept ((Turned.new (fun _ => False) Hb2.out).drewN _) (fun _ _ h => h)
  · simp only [if_neg hin, decide_eq_false hin] at hlook
    obtain ⟨m1, m2, m3⟩ := make_new Hm.out hin Hl.out
    have hTput := HT.out.put HG.out Ht.out hin
    have HTput := hQ hTput; clear hTput
    have Hm1 := hQ m1; clear m1
    have Hm2 := hQ m2; clear m2
    have Hm3 := hQ m3; clear m3 hin
    go_wp2_with fail
    go_quiet (fail)
    clear hlook
    have hLB : (L.length : Int) ≤ 2000000 := by have := Hl.out; omega
    go_wp2_with (refine wpList_geq_false rfl (.tmp 30) (.const (.int .i64 1048576)) L.length 1048576 rfl rfl rfl (by have := Hl.out; omega) ?_)
    have C0 : (w2.drewN nq).cell? ⟨s, 0, none⟩ = some (.slice va L.length vc) := c0
    have X0 : (w2.drewN nq).cell? ⟨q, 0, none⟩ = some (.int .u8 kd) := x0
    have X1 : (w2.drewN nq).cell? ⟨q, 1, none⟩ = some (.int .i64 n) := x1
    have X2 : (w2.drewN nq).cell? ⟨q, 2, none⟩ = some (.int .i64 a) := x2
    have X3 : (w2.drewN nq).cell? ⟨q, 3, none⟩ = some (.int .i64 b) := x3
    have HrowX : (w2.drewN nq).heap[s]? = some (.cells #[.slice va L.length vc, .map (some mb)] 154 (0, 0)) := Hrow.out
    have HownX : OwnT (.slice va L.length vc) L (w2.drewN nq) := Hown.out
    have HmapX : (w2.drewN nq).ownsMap Tryz.prog 107 (plainElem Tryz.prog 3) mb L.length D := Hmap.out
    have hTX : Turned F w (w2.drewN nq) := (Turned.new F Hb2.out).drewN nq
    have hFX : ∀ k, F k → k < (w2.drewN nq).heap.size := HFl.out
    have hqX : q < (w2.drewN nq).heap.size := hw2
    have HqX := hQ (show w.heap.size = q from Hq.out.symm)
    clear c0 c1 x0 x1 x2 x3 Hrow Hown Hmap HFl hw2 Hb2
    generalize w2.drewN nq = wx at C0 X0 X1 X2 X3 HrowX HownX HmapX hTX hFX hqX ⊢
    have z0 := fRw HrowX 0
    have hrl : s < wx.heap.size := (Array.getElem?_eq_some_iff.1 HrowX).1
    have hml : mb < wx.heap.size := HmapX.lt
    have Hml := hQ hml; clear hml
    have Hrow := hQ HrowX; clear HrowX
    have Hown := hQ HownX; clear HownX
    have Hmap := hQ HmapX; clear HmapX
    have HTX := hQ hTX; clear hTX
    have HFX := hQ hFX; clear hFX
    have Hrne := hQ (show some s ≠ (Value.slice va L.length vc).ownBlock from fun e => (HF.out.2.2.2 s e.symm).2.1 rfl)
    have Hqne := hQ (show some q ≠ (Value.slice va L.length vc).ownBlock from fun e => by
     have h1 := H.out
     obtain ⟨_, _, _, _, _, _, _, _, h6⟩ := h1
     have := h6 q (HF.out.2.2.2 q e.symm).1
     have := HqX.out
     omega)
    have Hqr := hQ (show q ≠ s from fun e => by
     obtain ⟨_, _, _, _, _, _, _, _, h6⟩ := H.out
     have := h6 s HF.out.1
     have := HqX.out
     omega)
    go_region_law (go_loud (refine step_append_lies _ rfl (.tmp 36) (.tmp 38) 22 rfl 0 107 i0 (.agg #[.int .u8 0, .int .i64 0, .int .i64 0, .int .i64 0]) 4 32 Tryz.underlying22 hi0 hz0 hz1 hz2 rfl (by decide) (.slice va L.length vc) L.length (L.flatMap TermD.vals) (by simp [Act.eval, Act.put]) (Hown.out.alloc _) ⟨wx.heap.size, 0, none⟩ 1 1 (TermD.vals ⟨kd, n, a, b⟩) (by simp [Act.eval, Act.put]) rfl (four_new _ _ _) (four_one _) (by omega) (by have := Hl.out; unfold maxLen; omega) (by have := Hl.out; omega) (by simp) (wx.heap.size + 1) (by simp) ?_); intro g cap w5 hown5 hgrow5 hat5 hlt5; have hr5 : w5.heap[s]? = some (.cells #[.slice va L.length vc, .map (some mb)] 154 (0, 0)) := (hgrow5.block s (Nat.lt_of_lt_of_le hrl (by simp)) Hrne.out).trans ((heap_alloc_old _ _ hrl).trans Hrow.out); have z5 := fRw hr5 0; have c5 : w5.cell? ⟨s, 0, none⟩ = some (.slice va L.length vc) := (cRw hr5 _).trans rfl; have Hr5 := hQ hr5; clear hr5; have Hown5 := hQ hown5; clear hown5; have Hgrow5 := hQ hgrow5; clear hgrow5; have Hat5 := hQ hat5; clear hat5; have Hlt5 := hQ hlt5; clear hlt5)
    all_goals
     clear z5 c5 z0
     have hgs : g ≠ s ∧ g ≠ mb := by
      rcases Hat5.out with e | e
      · exact (HF.out.2.2.2 g e).2
      · have := Hml.out
        omega
     have hr6 := rSc Hr5.out 0 (.slice (some ⟨g, 0, none⟩) (L.length + 1) cap)
     have hown6 := ownsRow_setCell_other (a := ⟨s, 0, none⟩) Hown5.out (by simp [Value.ownBlock, hgs.1]) (.slice (some ⟨g, 0, none⟩) (L.length + 1) cap)
     have hmap5 : w5.ownsMap Tryz.prog 107 (plainElem Tryz.prog 3) mb L.length D := (Hmap.out.alloc _).drew.kept Hgrow5.out (fun e => (HF.out.2.2.2 mb e.symm).2.2 rfl)
     have hmap6 := hmap5.setCell (a := ⟨s, 0, none⟩) HF.out.2.2.1 (.slice (some ⟨g, 0, none⟩) (L.length + 1) cap)
     clear hmap5
     have hFg : ∀ k, k = g → F k ∨ (w.heap.size ≤ k ∧ k < (w5.setCell ⟨s, 0, none⟩ (.slice (some ⟨g, 0, none⟩) (L.length + 1) cap)).heap.size) := fun k e => by
      subst e
      rcases Hat5.out with e | e
      · exact .inl (HF.out.2.2.2 _ e).1
      · refine .inr ⟨by have := HTX.out.size; omega, ?_⟩
        simpa [World.setCell] using Hlt5.out
     have hT6 : Turned F w (w5.setCell ⟨s, 0, none⟩ (.slice (some ⟨g, 0, none⟩) (L.length + 1) cap)) :=
      ((HTX.out.alloc (.cells (TermD.arr ⟨kd, n, a, b⟩) 107)).drew.grown Hgrow5.out (fun k _ e => (HF.out.2.2.2 k e).1)).setCell (fun _ => HF.out.1) _
     have hsz : ∀ k, F k ∨ k = g → k < (w5.setCell ⟨s, 0, none⟩ (.slice (some ⟨g, 0, none⟩) (L.length + 1) cap)).heap.size := fun k hk => by
      rcases hk with hk | rfl
      · have h1 := HFX.out k hk
        have h2 := Hgrow5.out.size
        simp at h2
        simp [World.setCell]
        omega
      · simpa [World.setCell] using Hlt5.out
     have hx6 : ∀ j, (w5.setCell ⟨s, 0, none⟩ (.slice (some ⟨g, 0, none⟩) (L.length + 1) cap)).cell? ⟨q, j, none⟩ = wx.cell? ⟨q, j, none⟩ := fun j => by
      have e1 : (w5.setCell ⟨s, 0, none⟩ (.slice (some ⟨g, 0, none⟩) (L.length + 1) cap)).heap[q]? = wx.heap[q]? :=
       (Below.heap_setCell _ _ _ _ (show q ≠ (⟨s, 0, none⟩ : Addr).block from Hqr.out)).trans ((Hgrow5.out.block q (Nat.lt_of_lt_of_le hqX (by simp)) Hqne.out).trans (heap_alloc_old _ _ hqX))
      exact World.cell?_of_block (w := wx) e1
     generalize w5.setCell ⟨s, 0, none⟩ (.slice (some ⟨g, 0, none⟩) (L.length + 1) cap) = w6 at hr6 hown6 hmap6 hFg hT6 hsz hx6 ⊢
     have c6 : w6.cell? ⟨s, 0, none⟩ = some (.slice (some ⟨g, 0, none⟩) (L.length + 1) cap) := (cRw hr6 0).trans rfl
     have d6 : w6.cell? ⟨s, 1, none⟩ = some (.map (some mb)) := (cRw hr6 1).trans rfl
     have y0 := (hx6 0).trans X0
     have y1 := (hx6 1).trans X1
     have y2 := (hx6 2).trans X2
     have y3 := (hx6 3).trans X3
     obtain ⟨kl, hkl⟩ : ∃ k, keyT ⟨kd, n, a, b⟩ = k := ⟨_, rfl⟩
     have hkey : keyOf Tryz.prog 107 (.agg (TermD.arr ⟨kd, n, a, b⟩)) = some kl := (keyT_some Ht.out).trans (congrArg some hkl)
     have hmap6d : w6.drew.ownsMap Tryz.prog 107 (plainElem Tryz.prog 3) mb L.length D := hmap6
     obtain ⟨w7, hrun7, hmap7, hgrow7⟩ := World.ownsMap.update hmap6d keyedT Tryz.underlying152 (by have := Hl.out; unfold maxLen; omega) hkey (plainElem_int (H := Unit) Tryz.underlying3 (q := .i64) (a := (L.length : Int) + 1) (WalkArith.wf_i64 (by have := Hl.out; omega)))
     have hrun8 : (Instr.mapUpdate 152 (.map (some mb)) (.agg #[.int .u8 kd, .int .i64 n, .int .i64 a, .int .i64 b]) (.int .i64 ((L.length : Int) + 1))).run Tryz.prog w6.drew = .ok () w7 := hrun7
     clear hrun7
     have Hr6 := hQ hr6; clear hr6
     have Hown6 := hQ hown6; clear hown6
     have HFg := hQ hFg; clear hFg
     have HT6 := hQ hT6; clear hT6
     have Hsz := hQ hsz; clear hsz
     have Hgs := hQ hgs; clear hgs
     have Hkl := hQ hkl; clear hkl hkey
     have Hmap7 := hQ hmap7; clear hmap7 hmap6 hmap6d
     have Hgrow7 := hQ hgrow7; clear hgrow7
     clear Hown5 Hgrow5 Hat5 Hlt5 Hr5 hx6 C0 X0 X1 X2 X3 Hqne Hqr hqX
     go_wp2_with fail
     go_region
     all_goals
      clear hrun8 c6 d6 y0 y1 y2 y3
      have hr7 := (Hgrow7.out.block s (Array.getElem?_eq_some_iff.1 Hr6.out).1 (fun e => HF.out.2.2.1 (by injection e with e; exact e.symm))).trans Hr6.out
      have c7 : w7.cell? ⟨s, 0, none⟩ = some (.slice (some ⟨g, 0, none⟩) (L.length + 1) cap) := (cRw hr7 0).trans rfl
      have hown7 := World.ownsRow.kept (w := w6.drew) Hown6.out Hgrow7.out (.inr (by simp [Value.ownBlock, Hgs.out.2]))
      have hT7 : Turned F w w7 := HT6.out.drew.grown Hgrow7.out (fun k _ e => by injection e with e; exact e ▸ HF.out.2.1)
      have hFg7 : ∀ k, k = g → F k ∨ (w.heap.size ≤ k ∧ k < w7.heap.size) := fun k e => (HFg.out k e).imp id fun h => ⟨h.1, Nat.lt_of_lt_of_le h.2 Hgrow7.out.size⟩
      have hsz7 : ∀ k, F k ∨ k = g → k < w7.heap.size := fun k hk => Nat.lt_of_lt_of_le (Hsz.out k hk) Hgrow7.out.size
      have Hr7 := hQ hr7; clear hr7
      have Hown7 := hQ hown7; clear hown7
      have HT7 := hQ hT7; clear hT7
      have HFg7 := hQ hFg7; clear hFg7
      have Hsz7 := hQ hsz7; clear hsz7
      go_wp2
      go_ret2
      refine ⟨ret2 Hm1.out.symm Hm2.out.symm, fun k => F k ∨ k = g, fun k hk => hk.elim .inl (HFg7.out k), ?_, HT7.out⟩
      rw [Hm3.out]
      refine ⟨_, mb, _, Hr7.out, ?_, ?_, HTput.out kl Hkl.out, ⟨.inl HF.out.1, .inl HF.out.2.1, HF.out.2.2.1, fun g' hg' => ?_⟩, Hsz7.out⟩
      · unfold OwnT
        rw [List.length_append, List.flatMap_append]
        exact Hown7.out
      · rw [List.length_append]
        exact Hmap7.out
      · obtain rfl : g = g' := by simpa [Value.ownBlock] using hg'
        exact ⟨.inr rfl, Hgs.out⟩
end
section
open Go Go.RowKit
def RPost (r : Nat) (F : Nat → Prop) (L' : List TermD) (v : Value) (w : World) (e : Ending) (w' : World) : Prop :=
 e = .returned v ∧ ∃ F', Ext F F' w w' ∧ RefStore w' r F' L' ∧ Turned F w w'
def SPost (s : Nat) (F : Nat → Prop) (L' : List TermD) (v : Value) (w : World) (e : Ending) (w' : World) : Prop :=
 e = .returned v ∧ ∃ F', Ext F F' w w' ∧ ProgStore w' s F' L' ∧ Turned F w w'
theorem rkdf_any (r : Nat) (F : Nat → Prop) (L : List TermD) (label x c : Int) (ht : (⟨4, label, x, c⟩ : TermD).ok) (hG : Good L) (hl : L.length < 1048576) (w : World) (h : RefStore w r F L) :
    Calls Tryz.prog 40 #[.pointer (some ⟨r, 0, none⟩), .int .i64 label, .int .i64 x, .int .i64 c] w (RPost r F (makeL L ⟨4, label, x, c⟩) (.int .i64 (makeN L ⟨4, label, x, c⟩)) w) := by
 have hmake := fun W hW => rmake_any r F L ⟨4, label, x, c⟩ ht hG hl W hW
 have Hmake := hQ hmake; clear hmake
 have H := hQ h; clear h
 have Hl := hQ hl; clear hl
 clear hG ht
 go_enter Tryz.func40, Tryz.ntmps40
 go_wp2_with fail
 refine (Hmake.out _ H.out).mono ?_
 rintro e w1 ⟨rfl, F', hx, hs, hT⟩
 have Hx := hQ hx; clear hx
 have Hs := hQ hs; clear hs
 have HT := hQ hT; clear hT
 go_wp2
 go_ret
 exact ⟨rfl, F', Hx.out, Hs.out, HT.out⟩
theorem rpub_any (r : Nat) (F : Nat → Prop) (L : List TermD) (x : Int) (ht : (⟨5, 0, x, 0⟩ : TermD).ok) (hG : Good L) (hl : L.length < 1048576) (w : World) (h : RefStore w r F L) :
    Calls Tryz.prog 41 #[.pointer (some ⟨r, 0, none⟩), .int .i64 x] w (RPost r F (makeL L ⟨5, 0, x, 0⟩) (.int .i64 (makeN L ⟨5, 0, x, 0⟩)) w) := by
 have hmake := fun W hW => rmake_any r F L ⟨5, 0, x, 0⟩ ht hG hl W hW
 have Hmake := hQ hmake; clear hmake
 have H := hQ h; clear h
 have Hl := hQ hl; clear hl
 clear hG ht
 go_enter Tryz.func41, Tryz.ntmps41
 go_wp2_with fail
 refine (Hmake.out _ H.out).mono ?_
 rintro e w1 ⟨rfl, F', hx, hs, hT⟩
 have Hx := hQ hx; clear hx
 have Hs := hQ hs; clear hs
 have HT := hQ hT; clear hT
 go_wp2
 go_ret
 exact ⟨rfl, F', Hx.out, Hs.out, HT.out⟩
theorem derived_any (s : Nat) (F : Nat → Prop) (L : List TermD) (label x : Int) (ht : (⟨4, label, x, 0⟩ : TermD).ok) (hG : Good L) (hl : L.length < 1048576) (w : World) (h : ProgStore w s F L) :
    Calls Tryz.prog 38 #[.pointer (some ⟨s, 0, none⟩), .int .i64 label, .int .i64 x] w (SPost s F (makeL L ⟨4, label, x, 0⟩) (.tuple #[.int .i64 (makeN L ⟨4, label, x, 0⟩), .int .i64 (makeE L ⟨4, label, x, 0⟩)]) w) := by
 have hmake := fun W hW => smake_any s F L ⟨4, label, x, 0⟩ ht hG hl W hW
 have Hmake := hQ hmake; clear hmake
 have H := hQ h; clear h
 have Hl := hQ hl; clear hl
 clear hG ht
 go_enter Tryz.func38, Tryz.ntmps38
 go_wp2_with fail
 refine (Hmake.out _ H.out).mono ?_
 rintro e w1 ⟨rfl, F', hx, hs, hT⟩
 have Hx := hQ hx; clear hx
 have Hs := hQ hs; clear hs
 have HT := hQ hT; clear hT
 go_wp2
 go_ret2
 exact ⟨rfl, F', Hx.out, Hs.out, HT.out⟩
theorem ownT_nil (w : World) : OwnT (.slice none 0 0) [] w := ⟨rfl, .inl ⟨rfl, rfl⟩⟩
theorem rnew_any (w : World) : Calls Tryz.prog 33 #[] w fun e w' => e = .returned (.pointer (some ⟨w.heap.size, 0, none⟩)) ∧ w' = w.alloc (.cells #[.slice none 0 0] 156) := by
 go_enter Tryz.func33, Tryz.ntmps33
 go_wp2
 go_ret
 exact ⟨rfl, rfl⟩
theorem rnew_store (w : World) : RefStore (w.alloc (.cells #[.slice none 0 0] 156)) w.heap.size (fun k => k = w.heap.size) [] :=
 ⟨_, rAl _ _ _, ownT_nil _, ⟨rfl, fun g hg => by simp [Value.ownBlock] at hg⟩, fun k hk => by subst hk; simp⟩
theorem run_make_terms (w : World) : (Instr.makeMap 152 none).run Tryz.prog w = .ok (.map (some w.heap.size)) (w.alloc (.map #[] 0)) := by kernel_rfl
theorem snew_any (w : World) : Calls Tryz.prog 32 #[] w fun e w' => e = .returned (.pointer (some ⟨w.heap.size + 1, 0, none⟩)) ∧ w' = (w.alloc (.map #[] 0)).alloc (.cells #[.slice none 0 0, .map (some w.heap.size)] 154) := by
 have hmk := run_make_terms w
 go_enter Tryz.func32, Tryz.ntmps32
 go_wp2
 go_ret
 exact ⟨rfl, rfl⟩
theorem snew_store (w : World) : ProgStore ((w.alloc (.map #[] 0)).alloc (.cells #[.slice none 0 0, .map (some w.heap.size)] 154)) (w.heap.size + 1) (fun k => k = w.heap.size ∨ k = w.heap.size + 1) [] := by
 have h := rAl (w := w.alloc (.map #[] 0)) #[.slice none 0 0, .map (some w.heap.size)] 154 (0, 0)
 refine ⟨_, w.heap.size, .map [], by simpa using h, ownT_nil _, ?_, tab_nil, ⟨.inr rfl, .inl rfl, by omega, fun g hg => by simp [Value.ownBlock] at hg⟩, fun k hk => by simp; omega⟩
 exact (World.ownsMap_made w Tryz.prog 107 (plainElem (H := Unit) Tryz.prog 3)).alloc _
end
section
open Go Go.RowKit
def getT (L : List TermD) (n : Int) : TermD := if thereD L.length n then L.getD (n - 1).toNat zeroT else zeroT
theorem rget_results (tmps : Array Value) (w : World) (g : Nat) (t : TermD) (ok : Bool) (h4 : tmps.getD 4 undef = .pointer (some ⟨g, 0, none⟩)) (h5 : tmps.getD 5 undef = .bool ok)
    (hg : w.heap[g]? = some (.cells t.arr 107 (0, 0))) : (results Tryz.f174 tmps).run Tryz.prog w = .ok (.tuple #[.agg t.arr, .bool ok]) w := by
 have hl := run_loadVar_row (P := Tryz.prog) w g 107 107 t.arr (0, 0) _ hg Tryz.underlying107 rfl (by kernel_rfl)
 have ha : (asAddr (.pointer (some ⟨g, 0, none⟩))).run Tryz.prog w = .ok ⟨g, 0, none⟩ w := by simp [asAddr]
 rw [results_cell_tmp (p := 4) (u := 5) (ty := 107) (by kernel_rfl), h4, h5, ha]
 simp [Result.andThen, hl]
theorem rget_any (s : Nat) (F : Nat → Prop) (L : List TermD) (n : Int) (w : World) (h : RefStore w s F L) (hl : L.length ≤ 2000000) :
    Calls Tryz.prog 174 #[.pointer (some ⟨s, 0, none⟩), .int .i64 n] w fun e w' => e = .returned (.tuple #[.agg (getT L n).arr, .bool (thereD L.length n)]) ∧ Below w.heap.size w w' := by
 have hb1 := (Below.refl w.heap.size w).alloc (Nat.le_refl _) (.cells #[.int .u8 0, .int .i64 0, .int .i64 0, .int .i64 0] 107)
 have h1 := h.kept (Turned.new (fun _ => False) hb1) (fun _ _ h => h)
 have hth := rthere_any s F L n _ h1 hl
 obtain ⟨v, hrow, hown, _⟩ := h1
 obtain ⟨va, vc, rfl, _⟩ := ownT_len hown
 have hres := rAl (w := w) #[.int .u8 0, .int .i64 0, .int .i64 0, .int .i64 0] 107 (0, 0)
 have Hres := hQ hres; clear hres
 have c0 : (w.alloc (.cells #[.int .u8 0, .int .i64 0, .int .i64 0, .int .i64 0] 107)).cell? ⟨s, 0, none⟩ = some (.slice va L.length vc) := by rw [cRw hrow]; rfl
 have Hat := hQ (ownT_at hown)
 have Hb1 := hQ hb1; clear hb1
 clear hrow hown h
 cases ht : thereD L.length n with
 | false =>
  rw [ht] at hth
  have Hth := hQ hth; clear hth
  have hg : getT L n = zeroT := by unfold getT; rw [ht]; rfl
  have Hg := hQ hg; clear hg ht c0
  go_enter Tryz.func174, Tryz.ntmps174
  go_wp2_with (first
   | (go_at_call 278; refine Hth.out.mono ?_; rintro e wx ⟨rfl, rfl⟩))
  refine bodyPost_ret_by (rget_results _ _ w.heap.size zeroT false rfl rfl ?_) rfl ⟨by rw [Hg.out], ?_⟩
  · first | exact Hres.out | exact rSc (rSc (rSc (rSc Hres.out _ _) _ _) _ _) _ _
  · first | exact Hb1.out | exact (((Hb1.out.setCell (Nat.le_refl _) _).setCell (Nat.le_refl _) _).setCell (Nat.le_refl _) _).setCell (Nat.le_refl _) _
 | true =>
  rw [ht] at hth
  have Hth := hQ hth; clear hth
  obtain ⟨hn1, hn2⟩ := tBd ht
  obtain ⟨i, rfl⟩ : ∃ i : Nat, n = (i : Int) + 1 := ⟨(n - 1).toNat, by omega⟩
  have hi : i < L.length := by omega
  have hg : getT L ((i : Int) + 1) = L.getD i zeroT := by unfold getT; rw [ht]; simp
  obtain ⟨gb, go, rfl, t0, t1, t2, t3⟩ := Hat.out i hi
  dsimp only at t0 t1 t2 t3
  generalize L.getD i zeroT = t at hg t0 t1 t2 t3
  have Hg := hQ hg; clear hg ht
  have hiL : (i : Int) < L.length := by omega
  clear hn1 hn2
  go_enter Tryz.func174, Tryz.ntmps174
  go_wp2_with (first
   | (go_at_call 278; refine Hth.out.mono ?_; rintro e wx ⟨rfl, rfl⟩))
  refine bodyPost_ret_by (rget_results _ _ w.heap.size t true rfl rfl ?_) rfl ⟨by rw [Hg.out], ?_⟩
  · exact rAl _ _ _
  · exact (Below.refl _ _).alloc (Nat.le_refl _) _
theorem sget_results (tmps : Array Value) (w : World) (g : Nat) (t : TermD) (ok : Bool) (h4 : tmps.getD 4 undef = .pointer (some ⟨g, 0, none⟩)) (h5 : tmps.getD 5 undef = .bool ok)
    (hg : w.heap[g]? = some (.cells t.arr 107 (0, 0))) : (results Tryz.f43 tmps).run Tryz.prog w = .ok (.tuple #[.agg t.arr, .bool ok]) w := by
 have hl := run_loadVar_row (P := Tryz.prog) w g 107 107 t.arr (0, 0) _ hg Tryz.underlying107 rfl (by kernel_rfl)
 have ha : (asAddr (.pointer (some ⟨g, 0, none⟩))).run Tryz.prog w = .ok ⟨g, 0, none⟩ w := by simp [asAddr]
 rw [results_cell_tmp (p := 4) (u := 5) (ty := 107) (by kernel_rfl), h4, h5, ha]
 simp [Result.andThen, hl]
theorem sget_any (s : Nat) (F : Nat → Prop) (L : List TermD) (n : Int) (w : World) (h : ProgStore w s F L) (hl : L.length ≤ 2000000) :
    Calls Tryz.prog 43 #[.pointer (some ⟨s, 0, none⟩), .int .i64 n] w fun e w' => e = .returned (.tuple #[.agg (getT L n).arr, .bool (thereD L.length n)]) ∧ Below w.heap.size w w' := by
 have hb1 := (Below.refl w.heap.size w).alloc (Nat.le_refl _) (.cells #[.int .u8 0, .int .i64 0, .int .i64 0, .int .i64 0] 107)
 have h1 := h.kept (Turned.new (fun _ => False) hb1) (fun _ _ h => h)
 have hth := sthere_any s F L n _ h1 hl
 have hmade := smade_any s F L _ h1
 have Hmade := hQ hmade; clear hmade
 obtain ⟨v, mb, D, hrow, hown, _⟩ := h1
 obtain ⟨va, vc, rfl, _⟩ := ownT_len hown
 have hres := rAl (w := w) #[.int .u8 0, .int .i64 0, .int .i64 0, .int .i64 0] 107 (0, 0)
 have Hres := hQ hres; clear hres
 have c0 : (w.alloc (.cells #[.int .u8 0, .int .i64 0, .int .i64 0, .int .i64 0] 107)).cell? ⟨s, 0, none⟩ = some (.slice va L.length vc) := by rw [cRw hrow]; rfl
 have Hat := hQ (ownT_at hown)
 have Hb1 := hQ hb1; clear hb1
 clear hrow hown h
 cases ht : thereD L.length n with
 | false =>
  rw [ht] at hth
  have Hth := hQ hth; clear hth
  have hg : getT L n = zeroT := by unfold getT; rw [ht]; rfl
  have Hg := hQ hg; clear hg ht c0
  go_enter Tryz.func43, Tryz.ntmps43
  go_wp2_with (first
   | (go_at_call 170; refine Hmade.out.mono ?_; rintro e wx ⟨rfl, rfl⟩)
   | (go_at_call 175; refine Hth.out.mono ?_; rintro e wx ⟨rfl, rfl⟩))
  refine bodyPost_ret_by (sget_results _ _ w.heap.size zeroT false rfl rfl ?_) rfl ⟨by rw [Hg.out], ?_⟩
  · first | exact Hres.out | exact rSc (rSc (rSc (rSc Hres.out _ _) _ _) _ _) _ _
  · first | exact Hb1.out | exact (((Hb1.out.setCell (Nat.le_refl _) _).setCell (Nat.le_refl _) _).setCell (Nat.le_refl _) _).setCell (Nat.le_refl _) _
 | true =>
  rw [ht] at hth
  have Hth := hQ hth; clear hth
  obtain ⟨hn1, hn2⟩ := tBd ht
  obtain ⟨i, rfl⟩ : ∃ i : Nat, n = (i : Int) + 1 := ⟨(n - 1).toNat, by omega⟩
  have hi : i < L.length := by omega
  have hg : getT L ((i : Int) + 1) = L.getD i zeroT := by unfold getT; rw [ht]; simp
  obtain ⟨gb, go, rfl, t0, t1, t2, t3⟩ := Hat.out i hi
  dsimp only at t0 t1 t2 t3
  generalize L.getD i zeroT = t at hg t0 t1 t2 t3
  have Hg := hQ hg; clear hg ht
  have hiL : (i : Int) < L.length := by omega
  clear hn1 hn2
  go_enter Tryz.func43, Tryz.ntmps43
  go_wp2_with (first
   | (go_at_call 170; refine Hmade.out.mono ?_; rintro e wx ⟨rfl, rfl⟩)
   | (go_at_call 175; refine Hth.out.mono ?_; rintro e wx ⟨rfl, rfl⟩))
  refine bodyPost_ret_by (sget_results _ _ w.heap.size t true rfl rfl ?_) rfl ⟨by rw [Hg.out], ?_⟩
  · exact rAl _ _ _
  · exact (Below.refl _ _).alloc (Nat.le_refl _) _
theorem ris_any (s : Nat) (F : Nat → Prop) (L : List TermD) (n : Int) (w : World) (h : RefStore w s F L) (hl : L.length ≤ 2000000) :
    Calls Tryz.prog 39 #[.pointer (some ⟨s, 0, none⟩), .int .i64 n] w fun e w' => e = .returned (.bool (thereD L.length n)) ∧ Below w.heap.size w w' := by
 have hget := rget_any s F L n w h hl
 unfold TermD.arr at hget
 generalize getT L n = t at hget
 have Hget := hQ hget; clear hget h
 go_enter Tryz.func39, Tryz.ntmps39
 go_wp2_with fail
 refine Hget.out.mono ?_
 rintro e w1 ⟨rfl, hb1⟩
 have Hb1 := hQ hb1; clear hb1
 go_wp2
 go_ret
 exact ⟨rfl, by first | exact Hb1.out.alloc Hb1.out.size _ | exact (((((Hb1.out.alloc Hb1.out.size _).setCell (p := ⟨w1.heap.size, 0, none⟩) Hb1.out.size _).setCell (p := ⟨w1.heap.size, 1, none⟩) Hb1.out.size _).setCell (p := ⟨w1.heap.size, 2, none⟩) Hb1.out.size _).setCell (p := ⟨w1.heap.size, 3, none⟩) Hb1.out.size _)⟩
theorem sis_any (s : Nat) (F : Nat → Prop) (L : List TermD) (n : Int) (w : World) (h : ProgStore w s F L) (hl : L.length ≤ 2000000) :
    Calls Tryz.prog 37 #[.pointer (some ⟨s, 0, none⟩), .int .i64 n] w fun e w' => e = .returned (.bool (thereD L.length n)) ∧ Below w.heap.size w w' := by
 have hget := sget_any s F L n w h hl
 unfold TermD.arr at hget
 generalize getT L n = t at hget
 have Hget := hQ hget; clear hget h
 go_enter Tryz.func37, Tryz.ntmps37
 go_wp2_with fail
 refine Hget.out.mono ?_
 rintro e w1 ⟨rfl, hb1⟩
 have Hb1 := hQ hb1; clear hb1
 go_wp2
 go_ret
 exact ⟨rfl, by first | exact Hb1.out.alloc Hb1.out.size _ | exact (((((Hb1.out.alloc Hb1.out.size _).setCell (p := ⟨w1.heap.size, 0, none⟩) Hb1.out.size _).setCell (p := ⟨w1.heap.size, 1, none⟩) Hb1.out.size _).setCell (p := ⟨w1.heap.size, 2, none⟩) Hb1.out.size _).setCell (p := ⟨w1.heap.size, 3, none⟩) Hb1.out.size _)⟩
end
end Go.Proofs.YtedpljclnpiggaaGreatDoor
