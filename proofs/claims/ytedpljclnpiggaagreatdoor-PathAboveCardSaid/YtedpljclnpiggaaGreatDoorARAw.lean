/-
  The document's Put, on a rising list.
-/
import Derived.BigQuiet
import Derived.Test.YtedpljclnpiggaaGreatDoorAAbove
import Derived.Test.YtedpljclnpiggaaGreatDoorARCk
set_option linter.unusedVariables false
set_option linter.unusedSimpArgs false
namespace Go.Proofs.YtedpljclnpiggaaGreatDoor
open Go Go.RowKit

/-- What has been put together. -/
structure PutIn (w1 : World) (v : Value) (pre : List KeyP) (wr : World) : Prop where
  own : wr.ownsRow 0 123 2 v pre.length (pre.flatMap keyV)
  fresh : ∀ g, v.ownBlock = some g → w1.heap.size ≤ g
  b : Below w1.heap.size w1 wr
  few : pre.length ≤ 100

theorem PutIn.len {w1 wr : World} {v : Value} {pre : List KeyP} (h : PutIn w1 v pre wr) : ∃ a c, v = .slice a pre.length c := by
  rcases h.own.2 with ⟨e, h2⟩ | ⟨g, cap, cur, e, _⟩
  · exact ⟨none, 0, by rw [e, h2]⟩
  · exact ⟨_, _, e⟩
theorem PutIn.drewN {w1 wr : World} {v : Value} {pre : List KeyP} (h : PutIn w1 v pre wr) (n : Nat) : PutIn w1 v pre (wr.drewN n) := ⟨h.own, h.fresh, below_drewN h.b n, h.few⟩
theorem PutIn.more {w1 wr w5 : World} {v : Value} {pre : List KeyP} {g c : Nat} {k : KeyP} (h : PutIn w1 v pre wr) (hf : pre.length < 100)
    (hown : w5.ownsRow 0 123 2 (.slice (some ⟨g, 0, none⟩) (pre.length + 1) c) (pre.length + 1) (pre.flatMap keyV ++ keyV k)) (hgrow : (wr.alloc (.cells #[.int .i64 k.1, .int .i64 k.2] 123)).grownBy w5 v.ownBlock) (hat : v.ownBlock = some g ∨ g = wr.heap.size + 1) :
    PutIn w1 (.slice (some ⟨g, 0, none⟩) (pre.length + 1) c) (pre ++ [k]) w5 := by
  refine ⟨?_, fun g' hg' => ?_, (h.b.alloc h.b.size _).grown hgrow (by have := h.b.size; simp; omega) (fun j hj => h.fresh j hj), by simp; omega⟩
  · rw [List.length_append, List.flatMap_append]
    have e : [k].flatMap keyV = keyV k := by simp
    rw [e]
    exact hown
  · obtain rfl : g = g' := by simpa [Value.ownBlock] using hg'
    rcases hat with e | e
    · exact h.fresh g e
    · have := h.b.size; omega

/-- The keys ahead of number i, put. -/
def PutSt (l : List KeyP) (k : KeyP) (i : Nat) (done : Bool) (pre : List KeyP) : Prop :=
  (done = false ∧ pre = l.take i ∧ ∀ y ∈ l.take i, y.1 < k.1) ∨ (done = true ∧ pre = putD (l.take i) k ∧ ∃ y ∈ l.take i, k.1 ≤ y.1)

def PutRel (l : List KeyP) (kk : KeyP) (w1 : World) (v dn i : Value) (wr : World) : Prop :=
  ∃ (k : Nat) (done : Bool) (pre : List KeyP), k ≤ l.length ∧ i = .int .i64 k ∧ dn = .bool done ∧ PutSt l kk k done pre ∧ PutIn w1 v pre wr

set_option maxRecDepth 100000 in
set_option maxHeartbeats 3200000 in
theorem rput_any (l : List KeyP) (hR : RisingK l) (hl : l.length ≤ 50) (kk : KeyP) (a : Option Addr) (c : Nat) (w : World) (h : KeysAt w a l) :
    Calls Tryz.prog 53 #[.slice a l.length c, .agg #[.int .i64 kk.1, .int .i64 kk.2]] w fun e w' => ∃ v, e = .returned v ∧ OwnK v (putD l kk) w' ∧ (∀ g, v.ownBlock = some g → w.heap.size ≤ g) ∧ Below w.heap.size w w' := by
  obtain ⟨iK, hiK, hk0, hk1, hk2⟩ := info_parts infoKey
  obtain ⟨x1, x2⟩ := kk
  simp only
  have hb := (Below.refl w.heap.size w).alloc (Nat.le_refl _) (.cells #[.int .i64 x1, .int .i64 x2] 123)
  have hrow := row_alloc (w := w) #[.int .i64 x1, .int .i64 x2] 123 (0, 0)
  have hlI : (l.length : Int) ≤ 50 := by omega
  have H1 := Lib.hid (h.below hb (Nat.le_refl _))
  have hs1 : w.heap.size < (w.alloc (.cells #[.int .i64 x1, .int .i64 x2] 123)).heap.size := by simp
  have Hb := Lib.hid hb
  have Hrow := Lib.hid hrow
  have HR := Lib.hid hR
  have Hl := Lib.hid hl
  clear hb hrow h hR hl
  go_enter Tryz.func53, Tryz.ntmps53
  go_wp2
  obtain ⟨q, hq⟩ : ∃ q, q = w.heap.size := ⟨_, rfl⟩
  rw [← hq] at Hrow hs1 ⊢
  have HQ := Lib.hid hq; clear hq
  generalize w.alloc (.cells #[.int .i64 x1, .int .i64 x2] 123) = w1 at Hb Hrow H1 hs1 ⊢
  have Hs1 := Lib.hid hs1; clear hs1
  go_loopw [5, 6, 7] (fun v dn i wr => PutRel l (x1, x2) w1 v dn i wr) (fun _ _ i _ => l.length - (intOf i).toNat)
  case atStart => exact ⟨0, false, [], Nat.zero_le _, rfl, rfl, .inl ⟨rfl, by simp, by simp⟩, World.ownsRow_nil w1 0 _ 2, fun g hg => by simp [Value.ownBlock] at hg, Below.refl _ _, by simp⟩
  case round =>
    obtain ⟨k, done, pre, hk, rfl, rfl, hst, hin⟩ := hrel
    obtain ⟨oa, oc, rfl⟩ := hin.len
    have hpl : pre.length ≤ k + 1 := by
      rcases hst with ⟨_, e, _⟩ | ⟨_, e, _⟩
      · rw [e, List.length_take]; omega
      · have := putD_len (l.take k) (x1, x2)
        rw [← e, List.length_take] at this
        omega
    have hkq := (hin.b.block q Hs1.out).trans Hrow.out
    have q0 := (cell_row hkq 0).trans rfl
    have q1 := (cell_row hkq 1).trans rfl
    have Hin := Lib.hid hin
    have Hst := Lib.hid hst
    have Hpl := Lib.hid hpl
    clear hpl
    by_cases hkl : k < l.length
    · obtain ⟨b, o, rfl, c0, c1⟩ := (H1.out.below hin.b (Nat.le_refl _)) k hkl
      have htk := take_snoc (0, 0) hkl
      have hmem : l.getD k (0, 0) ∈ l := by rw [List.getD_eq_getElem?_getD, List.getElem?_eq_getElem hkl]; exact List.getElem_mem _
      have hris : ∀ y ∈ l.take k, y.1 < (l.getD k (0, 0)).1 := fun y hy => by
        have hp := HR.out
        rw [← List.take_append_drop k l] at hp
        have h3 : (l.drop k)[0]? = some (l.getD k (0, 0)) := by rw [List.getElem?_drop, Nat.add_zero, List.getD_eq_getElem?_getD, List.getElem?_eq_getElem hkl]; rfl
        exact (List.pairwise_append.1 hp).2.2 y hy _ (List.mem_of_getElem? h3)
      obtain ⟨yk, hyk⟩ : ∃ yk, yk = l.getD k (0, 0) := ⟨_, rfl⟩
      rw [← hyk] at c0 c1 htk hris
      obtain ⟨y1, y2⟩ := yk
      have Hyk := Lib.hid hyk.symm; clear hyk
      simp only at c0 c1 hris
      have hkI : (k : Int) < l.length := by omega
      have Htk := Lib.hid htk
      have Hris := Lib.hid hris
      clear htk hris hin hst hmem hkq
      cases done with
      | true =>
        obtain ⟨hpre, yy, hy1, hy2⟩ : pre = putD (l.take k) (x1, x2) ∧ ∃ y ∈ l.take k, x1 ≤ y.1 := by
          rcases Hst.out with ⟨h, _⟩ | ⟨_, h⟩
          · cases h
          · exact h
        have hgt : x1 < y1 := by have := Hris.out yy hy1; omega
        have hge : x1 ≤ y1 := by omega
        have hne : (y1 != x1) = true := by simp; omega
        have hnx : PutSt l (x1, x2) (k + 1) true (pre ++ [(y1, y2)]) := .inr ⟨rfl, by rw [Htk.out, putD_snoc_done _ _ _ ⟨yy, hy1, hy2⟩, hpre], yy, by rw [Htk.out]; simp [hy1], hy2⟩
        have Hnx := Lib.hid hnx
        have hpl2 : pre.length < 100 := by have := Hpl.out; have := Hl.out; omega
        have Hpl2 := Lib.hid hpl2
        clear hnx hpre hy1 hy2 hpl2
        go_wp2_with fail
        go_quiet (fail)
        have e0 : (wr.drewN nq).cell? ⟨b, o + k * 2, none⟩ = some (.int .i64 y1) := c0
        have e1 : (wr.drewN nq).cell? ⟨b, o + k * 2 + 1, none⟩ = some (.int .i64 y2) := c1
        have e2 : (wr.drewN nq).cell? ⟨q, 0, none⟩ = some (.int .i64 x1) := q0
        have e3 : (wr.drewN nq).cell? ⟨q, 1, none⟩ = some (.int .i64 x2) := q1
        have Hy := Lib.hid (Hin.out.drewN nq)
        clear c0 c1 q0 q1
        have c0 := e0; have c1 := e1; have q0 := e2; have q1 := e3; clear e0 e1 e2 e3
        generalize wr.drewN nq = wy at c0 c1 q0 q1 Hy ⊢
        go_wp2_with fail
        go_quiet (fail)
        have e0 : (wy.drewN nq).cell? ⟨b, o + k * 2, none⟩ = some (.int .i64 y1) := c0
        have e1 : (wy.drewN nq).cell? ⟨b, o + k * 2 + 1, none⟩ = some (.int .i64 y2) := c1
        have e2 : (wy.drewN nq).cell? ⟨q, 0, none⟩ = some (.int .i64 x1) := q0
        have e3 : (wy.drewN nq).cell? ⟨q, 1, none⟩ = some (.int .i64 x2) := q1
        have Hz := Lib.hid (Hy.out.drewN nq)
        clear c0 c1 q0 q1
        have c0 := e0; have c1 := e1; have q0 := e2; have q1 := e3; clear e0 e1 e2 e3
        generalize wy.drewN nq = wz at c0 c1 q0 q1 Hz ⊢
        go_wp2_with (at_builtin; refine wpList_append_lies _ rfl (.tmp 38) (.tmp 43) 47 rfl 0 123 iK (.agg #[.int .i64 0, .int .i64 0]) 2 16 Tryz.underlying47 hiK hk0 hk1 hk2 rfl (by decide) _ _ _ rfl (Hz.out.own.alloc _) ⟨wz.heap.size, 0, none⟩ 1 1 (keyV (y1, y2)) rfl rfl (keyV_cells wz (y1, y2) 123) (by intro u hu; simp [keyV] at hu; rcases hu with rfl | rfl <;> rfl) (by omega) (by have := Hpl2.out; unfold maxLen; omega) (by have := Hpl2.out; omega) (Nat.zero_le _) (wz.heap.size + 1) (by simp) ?_; intro g1 cp1 w51 hown1 hgrow1 hat1 hlt1; have HN1 := Lib.hid (Hz.out.more (k := (y1, y2)) Hpl2.out hown1 hgrow1 hat1); clear hown1 hgrow1 hat1 hlt1)
        exact ⟨⟨k + 1, true, _, by omega, by go_num, rfl, Hnx.out, HN1.out⟩, by simp [intOf]; omega⟩
      | false =>
        obtain ⟨hpre, hall⟩ : pre = l.take k ∧ ∀ y ∈ l.take k, y.1 < x1 := by
          rcases Hst.out with ⟨_, h⟩ | ⟨h, _⟩
          · exact h
          · cases h
        have hpl2 : pre.length < 99 := by have := Hpl.out; have := Hl.out; omega
        have Hpl2 := Lib.hid (show pre.length < 100 by omega)
        have Hpl3 := Lib.hid (show (pre ++ [(x1, x2)]).length < 100 by simp; omega)
        have hcase : y1 < x1 ∨ y1 = x1 ∨ x1 < y1 := by omega
        have h1 : y1 < x1 → PutSt l (x1, x2) (k + 1) false (pre ++ [(y1, y2)]) := fun h => .inl ⟨rfl, by rw [Htk.out, hpre], fun y hy => by
          rw [Htk.out] at hy
          rcases List.mem_append.1 hy with hy | hy
          · exact hall y hy
          · have : y = (y1, y2) := by simpa using hy
            rw [this]; exact h⟩
        have h2 : y1 = x1 → PutSt l (x1, x2) (k + 1) true (pre ++ [(x1, x2)]) := fun h => .inr ⟨rfl, by rw [Htk.out, putD_snoc_eq _ _ _ hall h, hpre], (y1, y2), by rw [Htk.out]; simp, by show x1 ≤ y1; omega⟩
        have h3 : x1 < y1 → PutSt l (x1, x2) (k + 1) true (pre ++ [(x1, x2)] ++ [(y1, y2)]) := fun h => .inr ⟨rfl, by rw [Htk.out, putD_snoc_gt _ _ _ hall h, hpre]; simp, (y1, y2), by rw [Htk.out]; simp, by show x1 ≤ y1; omega⟩
        have Hh1 := Lib.hid h1
        have Hh2 := Lib.hid h2
        have Hh3 := Lib.hid h3
        clear h1 h2 h3 hpre hall hpl2
        rcases hcase with h | h | h
        · have hnx := Hh1.out h
          have Hnx := Lib.hid hnx
          have hge : ¬ x1 ≤ y1 := by omega
          have hgd : decide (x1 ≤ y1) = false := by simp; omega
          have hne : (y1 != x1) = true := by simp; omega
          clear hnx
          go_wp2_with fail
          go_quiet (fail)
          have e0 : (wr.drewN nq).cell? ⟨b, o + k * 2, none⟩ = some (.int .i64 y1) := c0
          have e1 : (wr.drewN nq).cell? ⟨b, o + k * 2 + 1, none⟩ = some (.int .i64 y2) := c1
          have e2 : (wr.drewN nq).cell? ⟨q, 0, none⟩ = some (.int .i64 x1) := q0
          have e3 : (wr.drewN nq).cell? ⟨q, 1, none⟩ = some (.int .i64 x2) := q1
          have Hy := Lib.hid (Hin.out.drewN nq)
          clear c0 c1 q0 q1
          have c0 := e0; have c1 := e1; have q0 := e2; have q1 := e3; clear e0 e1 e2 e3
          generalize wr.drewN nq = wy at c0 c1 q0 q1 Hy ⊢
          go_wp2_with fail
          go_quiet (fail)
          have e0 : (wy.drewN nq).cell? ⟨b, o + k * 2, none⟩ = some (.int .i64 y1) := c0
          have e1 : (wy.drewN nq).cell? ⟨b, o + k * 2 + 1, none⟩ = some (.int .i64 y2) := c1
          have e2 : (wy.drewN nq).cell? ⟨q, 0, none⟩ = some (.int .i64 x1) := q0
          have e3 : (wy.drewN nq).cell? ⟨q, 1, none⟩ = some (.int .i64 x2) := q1
          have Hz := Lib.hid (Hy.out.drewN nq)
          clear c0 c1 q0 q1
          have c0 := e0; have c1 := e1; have q0 := e2; have q1 := e3; clear e0 e1 e2 e3
          generalize wy.drewN nq = wz at c0 c1 q0 q1 Hz ⊢
          go_wp2_with (at_builtin; refine wpList_append_lies _ rfl (.tmp 38) (.tmp 43) 47 rfl 0 123 iK (.agg #[.int .i64 0, .int .i64 0]) 2 16 Tryz.underlying47 hiK hk0 hk1 hk2 rfl (by decide) _ _ _ rfl (Hz.out.own.alloc _) ⟨wz.heap.size, 0, none⟩ 1 1 (keyV (y1, y2)) rfl rfl (keyV_cells wz (y1, y2) 123) (by intro u hu; simp [keyV] at hu; rcases hu with rfl | rfl <;> rfl) (by omega) (by have := Hpl2.out; unfold maxLen; omega) (by have := Hpl2.out; omega) (Nat.zero_le _) (wz.heap.size + 1) (by simp) ?_; intro g1 cp1 w51 hown1 hgrow1 hat1 hlt1; have HN1 := Lib.hid (Hz.out.more (k := (y1, y2)) Hpl2.out hown1 hgrow1 hat1); clear hown1 hgrow1 hat1 hlt1)
          exact ⟨⟨k + 1, false, _, by omega, by go_num, rfl, Hnx.out, HN1.out⟩, by simp [intOf]; omega⟩
        · have hnx := Hh2.out h
          have Hnx := Lib.hid hnx
          have hge : x1 ≤ y1 := by omega
          have hne : (y1 != x1) = false := by simp; omega
          have Hh := Lib.hid h
          clear hnx h
          go_wp2_with fail
          go_quiet (fail)
          have e0 : (wr.drewN nq).cell? ⟨b, o + k * 2, none⟩ = some (.int .i64 y1) := c0
          have e1 : (wr.drewN nq).cell? ⟨b, o + k * 2 + 1, none⟩ = some (.int .i64 y2) := c1
          have e2 : (wr.drewN nq).cell? ⟨q, 0, none⟩ = some (.int .i64 x1) := q0
          have e3 : (wr.drewN nq).cell? ⟨q, 1, none⟩ = some (.int .i64 x2) := q1
          have Hy := Lib.hid (Hin.out.drewN nq)
          clear c0 c1 q0 q1
          have c0 := e0; have c1 := e1; have q0 := e2; have q1 := e3; clear e0 e1 e2 e3
          generalize wr.drewN nq = wy at c0 c1 q0 q1 Hy ⊢
          go_wp2_with (at_builtin; refine wpList_append_lies _ rfl (.tmp 26) (.tmp 28) 47 rfl 0 123 iK (.agg #[.int .i64 0, .int .i64 0]) 2 16 Tryz.underlying47 hiK hk0 hk1 hk2 rfl (by decide) _ _ _ rfl (Hy.out.own.alloc _) ⟨wy.heap.size, 0, none⟩ 1 1 (keyV (x1, x2)) rfl rfl (keyV_cells wy (x1, x2) 123) (by intro u hu; simp [keyV] at hu; rcases hu with rfl | rfl <;> rfl) (by omega) (by have := Hpl2.out; unfold maxLen; omega) (by have := Hpl2.out; omega) (Nat.zero_le _) (wy.heap.size + 1) (by simp) ?_; intro g1 cp1 w51 hown1 hgrow1 hat1 hlt1; have HN1 := Lib.hid (Hy.out.more (k := (x1, x2)) Hpl2.out hown1 hgrow1 hat1); clear hown1 hgrow1 hat1 hlt1)
          obtain ⟨b', o', ob, e0, e1⟩ := (H1.out.below HN1.out.b (Nat.le_refl _)) k hkl
          obtain ⟨rfl, rfl⟩ : b = b' ∧ o = o' := by simpa using ob
          rw [Hyk.out] at e0 e1
          simp only at e0 e1
          have hkq2 := (HN1.out.b.block q Hs1.out).trans Hrow.out
          have e2 := (cell_row hkq2 0).trans rfl
          have e3 := (cell_row hkq2 1).trans rfl
          clear c0 c1 q0 q1 ob hkq2
          have c0 := e0; have c1 := e1; have q0 := e2; have q1 := e3; clear e0 e1 e2 e3
          go_wp2_with fail
          go_quiet (fail)
          have e0 : (w51.drewN nq).cell? ⟨b, o + k * 2, none⟩ = some (.int .i64 y1) := c0
          have e1 : (w51.drewN nq).cell? ⟨b, o + k * 2 + 1, none⟩ = some (.int .i64 y2) := c1
          have e2 : (w51.drewN nq).cell? ⟨q, 0, none⟩ = some (.int .i64 x1) := q0
          have e3 : (w51.drewN nq).cell? ⟨q, 1, none⟩ = some (.int .i64 x2) := q1
          have Hz := Lib.hid (HN1.out.drewN nq)
          clear c0 c1 q0 q1
          have c0 := e0; have c1 := e1; have q0 := e2; have q1 := e3; clear e0 e1 e2 e3
          generalize w51.drewN nq = wz at c0 c1 q0 q1 Hz ⊢
          go_wp2
          exact ⟨⟨k + 1, true, _, by omega, by go_num, rfl, Hnx.out, Hz.out⟩, by simp [intOf]; omega⟩
        · have hnx := Hh3.out h
          have Hnx := Lib.hid hnx
          have hge : x1 ≤ y1 := by omega
          have hne : (y1 != x1) = true := by simp; omega
          clear hnx
          go_wp2_with fail
          go_quiet (fail)
          have e0 : (wr.drewN nq).cell? ⟨b, o + k * 2, none⟩ = some (.int .i64 y1) := c0
          have e1 : (wr.drewN nq).cell? ⟨b, o + k * 2 + 1, none⟩ = some (.int .i64 y2) := c1
          have e2 : (wr.drewN nq).cell? ⟨q, 0, none⟩ = some (.int .i64 x1) := q0
          have e3 : (wr.drewN nq).cell? ⟨q, 1, none⟩ = some (.int .i64 x2) := q1
          have Hy := Lib.hid (Hin.out.drewN nq)
          clear c0 c1 q0 q1
          have c0 := e0; have c1 := e1; have q0 := e2; have q1 := e3; clear e0 e1 e2 e3
          generalize wr.drewN nq = wy at c0 c1 q0 q1 Hy ⊢
          go_wp2_with (at_builtin; refine wpList_append_lies _ rfl (.tmp 26) (.tmp 28) 47 rfl 0 123 iK (.agg #[.int .i64 0, .int .i64 0]) 2 16 Tryz.underlying47 hiK hk0 hk1 hk2 rfl (by decide) _ _ _ rfl (Hy.out.own.alloc _) ⟨wy.heap.size, 0, none⟩ 1 1 (keyV (x1, x2)) rfl rfl (keyV_cells wy (x1, x2) 123) (by intro u hu; simp [keyV] at hu; rcases hu with rfl | rfl <;> rfl) (by omega) (by have := Hpl2.out; unfold maxLen; omega) (by have := Hpl2.out; omega) (Nat.zero_le _) (wy.heap.size + 1) (by simp) ?_; intro g1 cp1 w51 hown1 hgrow1 hat1 hlt1; have HN1 := Lib.hid (Hy.out.more (k := (x1, x2)) Hpl2.out hown1 hgrow1 hat1); clear hown1 hgrow1 hat1 hlt1)
          obtain ⟨b', o', ob, e0, e1⟩ := (H1.out.below HN1.out.b (Nat.le_refl _)) k hkl
          obtain ⟨rfl, rfl⟩ : b = b' ∧ o = o' := by simpa using ob
          rw [Hyk.out] at e0 e1
          simp only at e0 e1
          have hkq2 := (HN1.out.b.block q Hs1.out).trans Hrow.out
          have e2 := (cell_row hkq2 0).trans rfl
          have e3 := (cell_row hkq2 1).trans rfl
          clear c0 c1 q0 q1 ob hkq2
          have c0 := e0; have c1 := e1; have q0 := e2; have q1 := e3; clear e0 e1 e2 e3
          go_wp2_with fail
          go_quiet (fail)
          have e0 : (w51.drewN nq).cell? ⟨b, o + k * 2, none⟩ = some (.int .i64 y1) := c0
          have e1 : (w51.drewN nq).cell? ⟨b, o + k * 2 + 1, none⟩ = some (.int .i64 y2) := c1
          have e2 : (w51.drewN nq).cell? ⟨q, 0, none⟩ = some (.int .i64 x1) := q0
          have e3 : (w51.drewN nq).cell? ⟨q, 1, none⟩ = some (.int .i64 x2) := q1
          have Hz := Lib.hid (HN1.out.drewN nq)
          clear c0 c1 q0 q1
          have c0 := e0; have c1 := e1; have q0 := e2; have q1 := e3; clear e0 e1 e2 e3
          generalize w51.drewN nq = wz at c0 c1 q0 q1 Hz ⊢
          go_wp2_with (at_builtin; refine wpList_append_lies _ rfl (.tmp 38) (.tmp 43) 47 rfl 0 123 iK (.agg #[.int .i64 0, .int .i64 0]) 2 16 Tryz.underlying47 hiK hk0 hk1 hk2 rfl (by decide) _ _ _ rfl (Hz.out.own.alloc _) ⟨wz.heap.size, 0, none⟩ 1 1 (keyV (y1, y2)) rfl rfl (keyV_cells wz (y1, y2) 123) (by intro u hu; simp [keyV] at hu; rcases hu with rfl | rfl <;> rfl) (by omega) (by have := Hpl3.out; unfold maxLen; omega) (by have := Hpl3.out; omega) (Nat.zero_le _) (wz.heap.size + 1) (by simp) ?_; intro g2 cp2 w52 hown2 hgrow2 hat2 hlt2; have HN2 := Lib.hid (Hz.out.more (k := (y1, y2)) Hpl3.out hown2 hgrow2 hat2); clear hown2 hgrow2 hat2 hlt2)
          exact ⟨⟨k + 1, true, _, by omega, by go_num, rfl, Hnx.out, by have h9 := HN2.out; rw [show (pre ++ [(x1, x2)]).length = pre.length + 1 from by simp] at h9; exact h9⟩, by simp [intOf]; omega⟩
    · obtain rfl : k = l.length := by omega
      have hkI : ¬ (l.length : Int) < l.length := by omega
      rw [PutSt, List.take_length] at hst
      cases done with
      | true =>
        have hpre : pre = putD l (x1, x2) := by
          rcases hst with ⟨h, _⟩ | ⟨_, h, _⟩
          · cases h
          · exact h
        have Hpre := Lib.hid hpre
        clear hst hin hpre
        go_wp2
        go_ret
        exact ⟨.slice oa pre.length oc, rfl, by rw [← Hpre.out]; exact Hin.out.own, fun g hg => Nat.le_trans Hb.out.size (Hin.out.fresh g hg), Hb.out.trans (Hin.out.b.mono Hb.out.size)⟩
      | false =>
        obtain ⟨hpre, hall⟩ : pre = l ∧ ∀ y ∈ l, y.1 < x1 := by
          rcases hst with ⟨_, h⟩ | ⟨h, _⟩
          · exact h
          · cases h
        have hput : putD l (x1, x2) = pre ++ [(x1, x2)] := by rw [hpre]; exact putD_all_lt l (x1, x2) hall
        have Hput := Lib.hid hput
        have Hpl2 := Lib.hid (show pre.length < 100 by have := Hl.out; rw [hpre]; omega)
        clear hput hpre hall hst hin
        go_wp2_with (at_builtin; refine wpList_append_lies _ rfl (.tmp 47) (.tmp 49) 47 rfl 0 123 iK (.agg #[.int .i64 0, .int .i64 0]) 2 16 Tryz.underlying47 hiK hk0 hk1 hk2 rfl (by decide) _ _ _ rfl (Hin.out.own.alloc _) ⟨wr.heap.size, 0, none⟩ 1 1 (keyV (x1, x2)) rfl rfl (keyV_cells wr (x1, x2) 123) (by intro u hu; simp [keyV] at hu; rcases hu with rfl | rfl <;> rfl) (by omega) (by have := Hpl2.out; unfold maxLen; omega) (by have := Hpl2.out; omega) (Nat.zero_le _) (wr.heap.size + 1) (by simp) ?_; intro g1 cp1 w51 hown1 hgrow1 hat1 hlt1; have HN1 := Lib.hid (Hin.out.more (k := (x1, x2)) Hpl2.out hown1 hgrow1 hat1); clear hown1 hgrow1 hat1 hlt1)
        go_ret
        exact ⟨.slice (some ⟨g1, 0, none⟩) (pre.length + 1) cp1, rfl, by rw [Hput.out, OwnK, List.length_append]; have h9 := HN1.out.own; rw [List.length_append] at h9; exact h9, fun g hg => Nat.le_trans Hb.out.size (HN1.out.fresh g hg), Hb.out.trans (HN1.out.b.mono Hb.out.size)⟩
end Go.Proofs.YtedpljclnpiggaaGreatDoor

/-
  The document's Above over any tree.
-/
namespace Go.Proofs.YtedpljclnpiggaaGreatDoor
open Go Go.RowKit

/-- What the document's Above leaves. -/
def RAbPost (r : Nat) (G : Nat → Prop) (L : List TermD) (T : List NodeD) (node secret : Int) (w : World) (e : Ending) (w' : World) : Prop :=
  ∃ G' va vc c er T' ks, e = .returned (.tuple #[.slice va ks.length vc, .int .i64 c, .int .i64 er]) ∧ AbAns T L node secret er T' ks c ∧ RefStore w' r G' T' ∧
    StO G' w' 123 2 (.slice va ks.length vc) ks.length (ks.flatMap keyV) ∧ (∀ g, (Value.slice va ks.length vc).ownBlock = some g → w.heap.size ≤ g) ∧ Ext G G' w w' ∧ Turned G w w'

section
variable {B r : Nat} {G : Nat → Prop} {L : List TermD} {a : Option Addr} {c : Nat} {T : List NodeD} {w : World} {q x0 : Nat} {vu : Value} {v : Value} {G' G2 : Nat → Prop} {wr w2 : World}

/-- A turn of the store, what it bears left open. -/
structure RAbMid (B r : Nat) (G : Nat → Prop) (Lx : List TermD) (a : Option Addr) (c : Nat) (T : List NodeD) (w : World) (q x0 : Nat) (vu : Value) (ks : List KeyP) (v : Value) (G' : Nat → Prop) (wr : World) : Prop where
  rs : RefStore wr r G' Lx
  box : Stays G' wr q (boxT (.slice a T.length c))
  up : StO G' wr 3 1 vu (overD T x0).length ((natI (overD T x0)).map intV)
  keys : StO G' wr 123 2 v ks.length (ks.flatMap keyV)
  fresh : ∀ g, v.ownBlock = some g → w.heap.size ≤ g
  ext : Ext G G' w wr
  tur : Turned G w wr
  far : ∀ j, G j → B ≤ j
  size : B ≤ w.heap.size

variable {Lx Ly : List TermD} {ks : List KeyP}
theorem RAbMid.step (h : RAbMid B r G Lx a c T w q x0 vu ks v G' wr) (hx : Ext G' G2 wr w2) (hs : RefStore w2 r G2 Ly) (hT : Turned G' wr w2) : RAbMid B r G Ly a c T w q x0 vu ks v G2 w2 :=
  ⟨hs, h.box.step hx hT, h.up.step hx hT, h.keys.step hx hT, h.fresh, h.ext.trans hx h.tur.size hT.size, h.tur.trans hT (fun j hj hg => (h.ext j hg).elim id (fun e => by omega)), h.far, h.size⟩
theorem RAbMid.new (h : RAbMid B r G Lx a c T w q x0 vu ks v G' wr) (hb : Below wr.heap.size wr w2) : RAbMid B r G Lx a c T w q x0 vu ks v G' w2 :=
  ⟨h.rs.new hb, h.box.new hb, h.up.new hb, h.keys.new hb, h.fresh, h.ext.wide hb.size, h.tur.trans (Turned.new (fun _ => False) hb) (fun _ _ h => h.elim), h.far, h.size⟩
theorem RAbMid.below (h : RAbMid B r G Lx a c T w q x0 vu ks v G' wr) : Below B w wr := h.tur.below h.size h.far
theorem RAbMid.len (h : RAbMid B r G Lx a c T w q x0 vu ks v G' wr) : ∃ va vc, v = .slice va ks.length vc := by
  rcases h.keys.own.2 with ⟨e, h2⟩ | ⟨g, cap, cur, e, _⟩
  · exact ⟨none, 0, by rw [e, h2]⟩
  · exact ⟨_, _, e⟩
theorem RAbMid.upAt {ua : Option Addr} {n uc : Nat} (h : RAbMid B r G Lx a c T w q x0 (.slice ua n uc) ks v G' wr) {k : Nat} (hk : k < (overD T x0).length) : ∃ b o, ua = some ⟨b, o, none⟩ ∧ wr.cell? ⟨b, o + k, none⟩ = some (.int .i64 ((overD T x0).getD k 0 : Nat)) := by
  have h1 : OwnI (.slice ua n uc) (natI (overD T x0)) wr := by
    have h2 := h.up.own
    unfold OwnI
    rw [natI_len]
    exact h2
  obtain ⟨b, o, e, hc⟩ := ownI_at h1 k (by rw [natI_len]; exact hk)
  rw [natI_get] at hc
  exact ⟨b, o, e, hc⟩
/-- Another list of keys, new. -/
theorem RAbMid.list {ks2 : List KeyP} {v2 : Value} (h : RAbMid B r G Lx a c T w q x0 vu ks v G' wr) (hb : Below wr.heap.size wr w2) (hv : OwnK v2 ks2 w2) (hf : ∀ g, v2.ownBlock = some g → wr.heap.size ≤ g) : RAbMid B r G Lx a c T w q x0 vu ks2 v2 G' w2 :=
  have h2 := h.new hb
  ⟨h2.rs, h2.box, h2.up, ⟨hv, fun g hg hG => by have := h.rs.lt g hG; have := hf g hg; omega⟩, fun g hg => Nat.le_trans h.tur.size (hf g hg), h2.ext, h2.tur, h.far, h.size⟩
end
end Go.Proofs.YtedpljclnpiggaaGreatDoor

/-
  The document's Above over any tree: the walk.
-/
namespace Go.Proofs.YtedpljclnpiggaaGreatDoor
open Go Go.RowKit

theorem ownK_one (w : World) (x y : Int) : OwnK (.slice (some ⟨w.heap.size, 0, none⟩) 1 1) [(x, y)] (w.alloc (.cells #[.int .i64 x, .int .i64 y] 123)) :=
  ⟨rfl, .inr ⟨w.heap.size, 1, #[.int .i64 x, .int .i64 y], rfl, Nat.zero_le _, row_alloc _ _ _, Nat.le_refl _, by unfold maxLen; omega, rfl, rfl⟩⟩

def RARel (B r : Nat) (G : Nat → Prop) (L : List TermD) (a : Option Addr) (c : Nat) (T : List NodeD) (sec : Int) (w : World) (q x0 : Nat) (vu v ps i : Value) (wr : World) : Prop :=
  ∃ (k : Nat) (G' : Nat → Prop), k ≤ (overD T x0).length ∧ i = .int .i64 k ∧ ps = .int .i64 (climb k L sec).2 ∧ okD (pubD T) (x0 :: (overD T x0).take k) L sec ∧
    RAbMid B r G (nodeAtT L sec k) a c T w q x0 vu (risingD (keysD (x0 :: (overD T x0).take k) L sec)) v G' wr

theorem ris_snoc {T : List NodeD} {x0 k y : Nat} {L : List TermD} {sec : Int} (hk : k < (overD T x0).length) (hy : (overD T x0).take (k + 1) = (overD T x0).take k ++ [y]) :
    risingD (keysD (x0 :: (overD T x0).take (k + 1)) L sec) = putD (risingD (keysD (x0 :: (overD T x0).take k) L sec)) ((y : Int), keyAt L sec (k + 1)) := by
  rw [hy, ← List.cons_append, keysD_snoc, risingD_snoc]
  have : (x0 :: (overD T x0).take k).length = k + 1 := by rw [List.length_cons, List.length_take]; omega
  rw [this]

set_option maxRecDepth 100000 in
set_option maxHeartbeats 3200000 in
theorem rabove_any (B r : Nat) (G : Nat → Prop) (L : List TermD) (hG : Good L) (hM : AllMay L) (hl : L.length ≤ 3000) (T : List NodeD) (hfit : FitT T) (hlen : T.length ≤ 262144) (a : Option Addr) (c : Nat) (node secret : Int) (w : World) (hr : RefStore w r G L) (hfar : ∀ j, G j → B ≤ j) (hB : B ≤ w.heap.size) (hT : TreeAt B w a T) :
    Calls Tryz.prog 18 #[.pointer (some ⟨r, 0, none⟩), .agg #[.slice a T.length c], .int .i64 node, .int .i64 secret] w (RAbPost r G L T node secret w) := by
  have hb := (Below.refl w.heap.size w).alloc (Nat.le_refl _) (boxT (.slice a T.length c))
  have hrow := row_alloc (w := w) #[.slice a T.length c] 44 (0, 0)
  have hs1 : w.heap.size < (w.alloc (boxT (.slice a T.length c))).heap.size := by simp
  have hck := archeck_any B T hfit hlen a c _ (Nat.le_trans hB hb.size) (hT.below (hb.mono hB))
  have hheld := fun W (hW : Below w.heap.size w W) => arheld_any B r G L (by omega) T hlen a c W (hr.new hW) (Nat.le_trans hB hW.size) (hT.below (hW.mono hB))
  have his := fun W (hW : Below w.heap.size w W) => ris_any r G L secret W (hr.new hW) (by omega)
  have hbad : ¬ condD T L node secret → ∀ w', Below w.heap.size w w' → RAbPost r G L T node secret w (.returned (.tuple #[.slice none 0 0, .int .i64 0, .int .i64 1])) w' := fun hc w' hb =>
    ⟨G, none, 0, 0, 1, L, [], rfl, .inr ⟨hc, rfl, rfl, rfl, rfl⟩, hr.new hb, StO.nil' G w' _ 2, fun g hg => by simp [Value.ownBlock] at hg, Ext.refl G w w', Turned.new G hb⟩
  have Hb := Lib.hid hb
  have Hrow := Lib.hid hrow
  have Hs1 := Lib.hid hs1
  have Hck := Lib.hid hck
  have Hheld := Lib.hid hheld
  have His := Lib.hid his
  have Hbad := Lib.hid hbad
  have Hr := Lib.hid hr
  have HT := Lib.hid hT
  have HG := Lib.hid hG
  have HM := Lib.hid hM
  have Hl := Lib.hid hl
  have Hfit := Lib.hid hfit
  have Hlen := Lib.hid hlen
  have Hfar := Lib.hid hfar
  have HB := Lib.hid hB
  clear hb hrow hs1 hck hheld his hbad hr hT hG hM hl hfit hfar hB
  have hlenI : (T.length : Int) ≤ 262144 := by omega
  clear hlen
  go_enter Tryz.func18, Tryz.ntmps18
  go_wp2_with fail
  refine Hck.out.mono ?_
  rintro e w1 ⟨rfl, hb1⟩
  have hbx1 := (hb1.block w.heap.size Hs1.out).trans Hrow.out
  have Hb1 := Lib.hid (Hb.out.trans (hb1.mono Hb.out.size))
  have Hbx1 := Lib.hid hbx1
  clear hb1 hbx1 Hck
  obtain ⟨q, hq⟩ : ∃ q, q = w.heap.size := ⟨_, rfl⟩
  rw [← hq] at Hbx1 ⊢
  have HQ := Lib.hid hq; clear hq
  have k1 := (cell_row Hbx1.out 0).trans rfl
  by_cases hok : OkT' T
  · rw [errD_ok hok]
    have Hok := Lib.hid hok
    clear hok
    go_wp2_with fail
    refine (Hheld.out _ Hb1.out).mono ?_
    rintro e w2 ⟨bh, rfl, hbh, hb2⟩
    have Hb2 := Lib.hid (Hb1.out.trans (hb2.mono Hb1.out.size))
    have Hbx2 := Lib.hid ((hb2.block q (Array.getElem?_eq_some_iff.1 Hbx1.out).1).trans Hbx1.out)
    have Hbh := Lib.hid hbh
    clear hb2 hbh k1 Hheld
    have k1 := (cell_row Hbx2.out 0).trans rfl
    cases bh with
    | false =>
      have hfin := Hbad.out (fun hc => by have := Hbh.out.2 hc.2.1; cases this) w2 Hb2.out
      have Hfin := Lib.hid hfin; clear hfin
      go_wp2
      go_ret3
      exact Hfin.out
    | true =>
      have Hh := Lib.hid (Hbh.out.1 rfl)
      by_cases hn0 : node < 0
      · have hfin := Hbad.out (fun hc => by have := hc.2.2.1; omega) w2 Hb2.out
        have Hfin := Lib.hid hfin; clear hfin
        go_wp2
        go_ret3
        exact Hfin.out
      · by_cases hn1 : (T.length : Int) ≤ node
        · have hfin := Hbad.out (fun hc => by have := hc.2.2.2.1; omega) w2 Hb2.out
          have Hfin := Lib.hid hfin; clear hfin
          go_wp2
          go_ret3
          exact Hfin.out
        · obtain ⟨x0, rfl⟩ : ∃ x0 : Nat, node = x0 := ⟨node.toNat, by omega⟩
          have hx0 : x0 < T.length := by omega
          have Hx0 := Lib.hid hx0; clear hx0
          have hnI : (x0 : Int) < T.length := by omega
          clear hn0 hn1
          go_wp2_with fail
          refine (His.out _ Hb2.out).mono ?_
          rintro e w3 ⟨rfl, hb3⟩
          have Hb3 := Lib.hid (Hb2.out.trans (hb3.mono Hb2.out.size))
          have Hbx3 := Lib.hid ((hb3.block q (Array.getElem?_eq_some_iff.1 Hbx2.out).1).trans Hbx2.out)
          clear hb3 k1
          cases hth : thereD L.length secret with
          | false =>
            have hfin := Hbad.out (fun hc => by have := hc.2.2.2.2; rw [hth] at this; cases this) w3 Hb3.out
            have Hfin := Lib.hid hfin; clear hfin hth
            go_wp2
            go_ret3
            exact Hfin.out
          | true =>
            have hcond : condD T L x0 secret := ⟨Hok.out, Hh.out, by omega, by have := Hx0.out; omega, hth⟩
            have Hcond := Lib.hid hcond
            have hway : OnWay L secret 3000 := ⟨HG.out, HM.out, hth, Hl.out⟩
            have Hway := Lib.hid hway
            have hnode := fun W hW => rnode_any r G L secret HG.out (by have := Hl.out; omega) W hW
            rw [node_e hth] at hnode
            have hpk : pubAt L secret 0 = nodeP L secret ∧ keyAt L secret 0 = nodeK L secret ∧ nodeAtT L secret 0 = nodeT L secret := ⟨rfl, rfl, rfl⟩
            rw [← hpk.1, ← hpk.2.1, ← hpk.2.2] at hnode
            have Hnode := Lib.hid hnode
            obtain ⟨b, o, ra, hnd⟩ := (HT.out.below (Hb3.out.mono HB.out)) x0 Hx0.out
            subst ra
            clear hnode hpk hcond hway hth Hbad hnd
            go_wp2_with fail
            refine (Hnode.out _ (Hr.out.new Hb3.out)).mono ?_
            rintro e w4 ⟨rfl, G4, hx4, hs4, hT4⟩
            have hTw4 : Turned G w w4 := (Turned.new G Hb3.out).trans hT4 (fun _ _ h => h)
            have hXw4 : Ext G G4 w w4 := fun k hk => (hx4 k hk).imp id (fun h2 => ⟨Nat.le_trans Hb3.out.size h2.1, h2.2⟩)
            have hbx4 : Stays G4 w4 q (boxT (.slice (some ⟨b, o, none⟩) T.length c)) := Stays.step (F := G) ⟨Hbx3.out, fun hf => by have := Hr.out.lt _ hf; have := HQ.out; omega⟩ hx4 hT4
            have HTw4 := Lib.hid hTw4
            have HXw4 := Lib.hid hXw4
            have Hbx4 := Lib.hid hbx4
            have Hs4 := Lib.hid hs4
            have htr4 := HT.out.below (hTw4.below HB.out Hfar.out)
            obtain ⟨b', o', e', hnd⟩ := htr4 x0 Hx0.out
            obtain ⟨rfl, rfl⟩ : b = b' ∧ o = o' := by simpa using e'
            have kp := hnd.c0
            have k1 := (cell_row hbx4.at' 0).trans rfl
            have hpd : (nodeD T x0).pub = pubD T x0 := rfl
            rw [hpd] at kp
            clear hTw4 hXw4 hbx4 hs4 htr4 hnd e' hx4 hT4 hpd Hnode
            by_cases hp : pubD T x0 = pubAt L secret 0
            · have hov := fun W (hW : Below w.heap.size w W) => arover_any B x0 T Hok.out Hfit.out Hlen.out Hx0.out (some ⟨b, o, none⟩) c W (Nat.le_trans HB.out hW.size) (HT.out.below (hW.mono HB.out))
              have Hov := Lib.hid hov
              have Hp := Lib.hid hp
              have hpe : pubD T x0 = pubAt L secret 0 := hp
              rw [hpe] at kp
              have hb5 := (Below.refl w4.heap.size w4).alloc (Nat.le_refl _) (.cells #[.int .i64 x0, .int .i64 (keyAt L secret 0)] 123)
              have hone : OwnK (.slice (some ⟨w4.heap.size, 0, none⟩) 1 1) [((x0 : Int), keyAt L secret 0)] (w4.alloc (.cells #[.int .i64 x0, .int .i64 (keyAt L secret 0)] 123)) := ownK_one w4 _ _
              have Hb5 := Lib.hid hb5
              have Hone := Lib.hid hone
              have Hcov := Lib.hid (show Below B w w4 from HTw4.out.below HB.out Hfar.out)
              clear hov hp hpe hb5 hone
              have hql := Hbx4.out.lt
              generalize pubAt L secret 0 = pn at kp
              go_wp2_with fail
              have hbw5 : Below B w (w4.alloc (.cells #[.int .i64 x0, .int .i64 (keyAt L secret 0)] 123)) := Hcov.out.trans (Hb5.out.mono (Nat.le_trans HB.out Hcov.out.size))
              refine (arover_any B x0 T Hok.out Hfit.out Hlen.out Hx0.out (some ⟨b, o, none⟩) c _ (Nat.le_trans HB.out hbw5.size) (HT.out.below hbw5)).mono ?_
              rintro e w6 ⟨vu, rfl, hvu, hvf, hb6⟩
              have hstart : RAbMid B r G (nodeAtT L secret 0) (some ⟨b, o, none⟩) c T w q x0 vu (risingD (keysD (x0 :: (overD T x0).take 0) L secret)) (.slice (some ⟨w4.heap.size, 0, none⟩) 1 1) G4 w6 := by
                have hk1 : risingD (keysD (x0 :: (overD T x0).take 0) L secret) = [((x0 : Int), keyAt L secret 0)] := by rw [List.take_zero, keysD_one]; rfl
                rw [hk1]
                have hsz := HTw4.out.size
                have hb46 := Hb5.out.trans (hb6.mono Hb5.out.size)
                refine ⟨Hs4.out.new hb46, Hbx4.out.new hb46, ⟨by have h1 := hvu; unfold OwnI at h1; rw [natI_len] at h1; exact h1, fun g hg hG => by have := hvf g hg; have := Hb5.out.size; have := Hs4.out.lt g hG; omega⟩, ?_, fun g hg => ?_, HXw4.out.wide hb46.size, HTw4.out.trans (Turned.new (fun _ => False) hb46) (fun _ _ h => h.elim), Hfar.out, HB.out⟩
                · have h1 : StO G4 (w4.alloc (.cells #[.int .i64 x0, .int .i64 (keyAt L secret 0)] 123)) 123 2 (.slice (some ⟨w4.heap.size, 0, none⟩) 1 1) 1 ([((x0 : Int), keyAt L secret 0)].flatMap keyV) :=
                    ⟨Hone.out, fun g hg hG => by
                      have e : w4.heap.size = g := by simpa [Value.ownBlock] using hg
                      have := Hs4.out.lt g hG
                      omega⟩
                  exact h1.new hb6
                · have e : w4.heap.size = g := by simpa [Value.ownBlock] using hg
                  omega
              obtain ⟨ua, uc, hvue, _⟩ := ownI_len hvu
              rw [natI_len] at hvue
              subst hvue
              have hok0 : okD (pubD T) (x0 :: (overD T x0).take 0) L secret := by
                rw [List.take_zero]
                exact okD_snoc (okD_nil _ _ _) Hp.out
              have hst : RARel B r G L (some ⟨b, o, none⟩) c T secret w q x0 (.slice ua (overD T x0).length uc) (.slice (some ⟨w4.heap.size, 0, none⟩) 1 1) (.int .i64 secret) (.int .i64 0) w6 := ⟨0, G4, Nat.zero_le _, rfl, rfl, hok0, hstart⟩
              have Hst := Lib.hid hst
              have hol := over_len Hok.out Hx0.out
              have Hol := Lib.hid hol
              have hup : ∀ k, k < (overD T x0).length → (overD T x0).getD k 0 < T.length ∧ (overD T x0).take (k + 1) = (overD T x0).take k ++ [(overD T x0).getD k 0] := fun k hk => by
                refine ⟨?_, take_snoc 0 hk⟩
                have hm : (overD T x0).getD k 0 ∈ overD T x0 := by rw [List.getD_eq_getElem?_getD, List.getElem?_eq_getElem hk]; exact List.getElem_mem _
                have hm2 := (List.mem_filter.1 hm).1
                obtain ⟨hn, hTn⟩ := leaves_isN (ok_leaves Hok.out (by have := Hx0.out; omega))
                have := up_lt hn (by have := Hx0.out; omega : x0 < 2 * leavesD T.length - 1) _ (by rw [up_eq hn (by have := Hx0.out; omega)]; exact List.mem_cons_of_mem _ hm2)
                omega
              have Hup := Lib.hid hup
              have hovI : ((overD T x0).length : Int) ≤ 3 := by omega
              clear hstart hst hok0 hvu hvf hb6 hol hup Hone Hb5 Hov kp k1 Hs4 Hbx4 HXw4 HTw4 Hbx3 Hb3 hbw5
              go_wp2
              go_loopw [14, 16, 17] (fun v ps i wr => RARel B r G L (some ⟨b, o, none⟩) c T secret w q x0 (.slice ua (overD T x0).length uc) v ps i wr) (fun _ _ i _ => (overD T x0).length - (intOf i).toNat)
              case atStart => exact Hst.out
              case round =>
                obtain ⟨k, G', hk, rfl, rfl, hokk, hin⟩ := hrel
                have hwk := climb_way Hway.out k (by have := Hol.out; omega)
                have hnd := hwk.node (by have := hwk.len; have := Hol.out; omega)
                have hlk := hwk.len
                have hlk2 := Hol.out
                have hkdf := fun W hW => rkdf_any r G' (nodeAtT L secret k) 1 (climb k L secret).2 0 (kdf_ok (by simp [i64ok]) (there_i64 hnd.2.1 (by have := hnd.1.len; omega))) hnd.1.good (by have := hnd.1.len; show (nodeT _ _).length < _; omega) W hW
                change ∀ W, RefStore W r G' (nodeAtT L secret k) → Calls _ _ _ _ (RPost r G' (climb (k + 1) L secret).1 (.int .i64 (climb (k + 1) L secret).2) W) at hkdf
                have Hkdf := Lib.hid hkdf
                have Hin := Lib.hid hin
                have Hokk := Lib.hid hokk
                obtain ⟨va, vc, rfl⟩ := hin.len
                have kb := (cell_row hin.box.at' 0).trans rfl
                clear hkdf hin hokk hnd hwk
                by_cases hkl : k < (overD T x0).length
                · obtain ⟨hyT, htk⟩ := Hup.out k hkl
                  obtain ⟨y, hyd⟩ : ∃ y, y = (overD T x0).getD k 0 := ⟨_, rfl⟩
                  rw [← hyd] at hyT htk
                  have hupat : ∀ {Lx : List TermD} {G2 : Nat → Prop} {W : World} {v : Value} {ks : List KeyP}, RAbMid B r G Lx (some ⟨b, o, none⟩) c T w q x0 (.slice ua (overD T x0).length uc) ks v G2 W → ∃ gb go, ua = some ⟨gb, go, none⟩ ∧ W.cell? ⟨gb, go + k, none⟩ = some (.int .i64 (y : Nat)) ∧ W.cell? ⟨b, o + y * 4, none⟩ = some (.int .i64 (pubD T (y))) := fun h => by
                    obtain ⟨gb, go, e, hc⟩ := h.upAt hkl
                    rw [← hyd] at hc
                    obtain ⟨b', o', e', hnd⟩ := (HT.out.below h.below) _ hyT
                    obtain ⟨rfl, rfl⟩ : b = b' ∧ o = o' := by simpa using e'
                    exact ⟨gb, go, e, hc, hnd.c0⟩
                  have hnode := fun G2 W hW => rnode_any r G2 (climb (k + 1) L secret).1 (climb (k + 1) L secret).2 (climb_way Hway.out (k + 1) (by omega)).good (by have := (climb_way Hway.out (k + 1) (by omega)).len; omega) W hW
                  rw [node_e (climb_way Hway.out (k + 1) (by omega)).there] at hnode
                  change ∀ G2 W, RefStore W r G2 (climb (k + 1) L secret).1 → Calls _ _ _ _ (RPost r G2 (nodeAtT L secret (k + 1)) (.tuple #[.int .i64 (keyAt L secret (k + 1)), .int .i64 (pubAt L secret (k + 1)), .int .i64 0]) W) at hnode
                  have Hnode := Lib.hid hnode
                  have Hupat := Lib.hid (fun (Lx : List TermD) (G2 : Nat → Prop) (W : World) (v : Value) (ks : List KeyP) (h : RAbMid B r G Lx (some ⟨b, o, none⟩) c T w q x0 (.slice ua (overD T x0).length uc) ks v G2 W) => hupat h)
                  have hris := ris_snoc (L := L) (sec := secret) hkl htk
                  have hputl : (risingD (keysD (x0 :: (overD T x0).take k) L secret)).length ≤ 50 := by
                    have := risingD_len (keysD (x0 :: (overD T x0).take k) L secret)
                    rw [keysD_len, List.length_cons, List.length_take] at this
                    omega
                  have hput := fun W va vc hW => rput_any (risingD (keysD (x0 :: (overD T x0).take k) L secret)) (rising_risingD _) hputl ((y : Nat), keyAt L secret (k + 1)) va vc W hW
                  rw [← hris] at hput
                  have Hput := Lib.hid hput
                  have hfinb : pubD T (y) ≠ pubAt L secret (k + 1) → ∀ {G2 : Nat → Prop} {W : World} {v : Value} {ks : List KeyP}, RAbMid B r G (nodeAtT L secret (k + 1)) (some ⟨b, o, none⟩) c T w q x0 (.slice ua (overD T x0).length uc) ks v G2 W → RAbPost r G L T x0 secret w (.returned (.tuple #[.slice none 0 0, .int .i64 0, .int .i64 12])) W := fun hne G2 W v ks h => by
                    have hP : pathD T (x0 : Int).toNat = x0 :: overD T x0 := by rw [show (x0 : Int).toNat = x0 by omega]
                    refine ⟨G2, none, 0, 0, 12, _, [], rfl, .inl ⟨Hcond.out, .inr ⟨k + 1, ?_, ?_, ?_, rfl, rfl, rfl, rfl⟩⟩, h.rs, StO.nil' G2 W _ 2, fun g hg => by simp [Value.ownBlock] at hg, h.ext, h.tur⟩
                    · rw [hP]; simp; omega
                    · rw [hP]; exact Hokk.out
                    · rw [hP]
                      show pubD T ((overD T x0).getD k 0) ≠ _
                      rw [← hyd]; exact hne
                  have Hfinb := Lib.hid (fun hne (G2 : Nat → Prop) (W : World) (v : Value) (ks : List KeyP) (h : RAbMid B r G (nodeAtT L secret (k + 1)) (some ⟨b, o, none⟩) c T w q x0 (.slice ua (overD T x0).length uc) ks v G2 W) => hfinb hne h)
                  have hoks : pubD T (y) = pubAt L secret (k + 1) → okD (pubD T) (x0 :: (overD T x0).take (k + 1)) L secret := fun h => by
                    rw [htk, ← List.cons_append]
                    refine okD_snoc Hokk.out ?_
                    rw [List.length_cons, List.length_take, Nat.min_eq_left (by omega)]
                    exact h
                  have Hoks := Lib.hid hoks
                  have hyI : ((y : Nat) : Int) < T.length := by omega
                  have hkI : (k : Int) < (overD T x0).length := by omega
                  have HyT := Lib.hid hyT
                  have hyd2 : (overD T x0).getD k 0 = y := hyd.symm
                  have Hyd := Lib.hid hyd2
                  clear hyd hyd2
                  clear hyT htk hupat hnode hris hputl hput hfinb hoks
                  go_wp2_with fail
                  refine (Hkdf.out _ Hin.out.rs).mono ?_
                  rintro e w5 ⟨rfl, G5, hx5, hs5, hT5⟩
                  have Hin5 := Lib.hid (Hin.out.step hx5 hs5 hT5)
                  clear hx5 hs5 hT5 kb Hkdf Hin
                  go_wp2_with fail
                  refine (Hnode.out _ _ Hin5.out.rs).mono ?_
                  rintro e w7 ⟨rfl, G7, hx7, hs7, hT7⟩
                  have Hin7 := Lib.hid (Hin5.out.step hx7 hs7 hT7)
                  clear hx7 hs7 hT7 Hin5 Hnode
                  obtain ⟨gb, go, rua, cu, cp⟩ := Hupat.out _ _ _ _ _ Hin7.out
                  subst rua
                  have kb := (cell_row Hin7.out.box.at' 0).trans rfl
                  by_cases hp : pubD T (y) = pubAt L secret (k + 1)
                  · have Hokn := Lib.hid (Hoks.out hp)
                    rw [hp] at cp
                    clear hp Hfinb
                    generalize pubAt L secret (k + 1) = pn at cp
                    go_wp2_with fail
                    go_quiet (fail)
                    have hbz : Below w7.heap.size w7 (w7.drewN nq) := below_drewN (Below.refl _ _) nq
                    have Hz := Lib.hid (Hin7.out.new hbz)
                    have cz : (w7.drewN nq).cell? ⟨gb, go + k, none⟩ = some (.int .i64 (y : Nat)) := cu
                    clear cu cp kb hbz Hin7
                    generalize w7.drewN nq = wz at cz Hz ⊢
                    go_wp2_with fail
                    refine (Hput.out _ _ _ (keysA Hz.out.keys)).mono ?_
                    rintro e w9 ⟨v9, rfl, hv9, hf9, hb9⟩
                    have Hl9 := Lib.hid (Hz.out.list hb9 hv9 hf9)
                    clear hb9 hv9 hf9 cz
                    go_wp2
                    exact ⟨⟨k + 1, G7, by omega, by go_num, rfl, Hokn.out, Hl9.out⟩, by simp [intOf]; omega⟩
                  · have hne : (pubD T (y) != pubAt L secret (k + 1)) = true := by simpa using hp
                    have Hfb := Lib.hid (Hfinb.out hp)
                    clear Hfinb
                    generalize pubD T (y) = pv at cp hp hne
                    generalize pubAt L secret (k + 1) = pn at hp hne ⊢
                    go_wp2_with fail
                    go_quiet (fail)
                    have hbz : Below w7.heap.size w7 (w7.drewN nq) := below_drewN (Below.refl _ _) nq
                    have Hz := Lib.hid (Hfb.out _ _ _ _ (Hin7.out.new hbz))
                    clear hbz
                    go_wp2
                    go_ret3
                    exact Hz.out
                · obtain rfl : k = (overD T x0).length := by omega
                  have hP : pathD T (x0 : Int).toNat = x0 :: overD T x0 := by rw [show (x0 : Int).toNat = x0 by omega]
                  rw [List.take_length] at Hokk Hin ⊢
                  have hfin : ∀ {G2 : Nat → Prop} {W : World} {va vc}, RAbMid B r G (climb ((overD T x0).length + 1) L secret).1 (some ⟨b, o, none⟩) c T w q x0 (.slice ua (overD T x0).length uc) (risingD (keysD (x0 :: overD T x0) L secret)) (.slice va (risingD (keysD (x0 :: overD T x0) L secret)).length vc) G2 W →
                      RAbPost r G L T x0 secret w (.returned (.tuple #[.slice va (risingD (keysD (x0 :: overD T x0) L secret)).length vc, .int .i64 (climb ((overD T x0).length + 1) L secret).2, .int .i64 0])) W := fun h =>
                    ⟨_, _, _, _, 0, _, _, rfl, .inl ⟨Hcond.out, .inl ⟨by rw [hP]; exact Hokk.out, rfl, by rw [hP]; rfl, by rw [hP], by rw [hP]; rfl⟩⟩, h.rs, h.keys, h.fresh, h.ext, h.tur⟩
                  have Hfin := Lib.hid (fun (G2 : Nat → Prop) (W : World) va vc h => @hfin G2 W va vc h)
                  have hkI : ¬ ((overD T x0).length : Int) < (overD T x0).length := by omega
                  clear hfin hP
                  go_wp2_with fail
                  refine (Hkdf.out _ Hin.out.rs).mono ?_
                  rintro e w5 ⟨rfl, G5, hx5, hs5, hT5⟩
                  have Hin5 := Lib.hid (Hin.out.step hx5 hs5 hT5)
                  have Hfi := Lib.hid (Hfin.out _ _ _ _ Hin5.out)
                  clear hx5 hs5 hT5 kb Hkdf Hin Hin5 Hfin
                  go_wp2
                  go_ret3
                  exact Hfi.out
            · have hans := first_ans Hcond.out hp
              have hne : (pubD T x0 == pubAt L secret 0) = false := beq_eq_false_iff_ne.2 hp
              have hfin : RAbPost r G L T x0 secret w (.returned (.tuple #[.slice none 0 0, .int .i64 0, .int .i64 12])) w4 :=
                ⟨G4, none, 0, 0, 12, _, [], rfl, hans, Hs4.out, StO.nil' G4 w4 _ 2, fun g hg => by simp [Value.ownBlock] at hg, HXw4.out, HTw4.out⟩
              have Hfin := Lib.hid hfin
              clear hfin hans
              generalize pubD T x0 = pv at kp hp hne
              generalize pubAt L secret 0 = pn at hp hne ⊢
              go_wp2
              go_ret3
              exact Hfin.out
  · have hfin := Hbad.out (fun hc => hok hc.1) w1 Hb1.out
    have Hfin := Lib.hid hfin; clear hfin
    rw [errD_bad hok]
    clear hok
    go_wp2
    go_ret3
    exact Hfin.out
end Go.Proofs.YtedpljclnpiggaaGreatDoor
