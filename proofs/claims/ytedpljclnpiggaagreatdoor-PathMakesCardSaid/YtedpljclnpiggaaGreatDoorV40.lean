/- phratrylaw09.lives: it answers true. -/
import Derived.Test.YtedpljclnpiggaaGreatDoorV36
import Derived.BigQuiet
import Derived.Test.YtedpljclnpiggaaGreatDoorV25
import Derived.Test.YtedpljclnpiggaaGreatDoorV23
import Derived.Test.YtedpljclnpiggaaGreatDoorV39
set_option linter.unusedVariables false
set_option linter.unusedSimpArgs false
set_option maxRecDepth 100000
set_option maxHeartbeats 12800000
namespace Go.Proofs.YtedpljclnpiggaaGreatDoor
section
open Go Go.RowKit
structure PutIn (w1 : World) (v : Value) (pre : List KeyP) (wr : World) : Prop where
 own : wr.ownsRow 0 123 2 v pre.length (pre.flatMap keyV)
 fresh : ∀ g, v.ownBlock = some g → w1.heap.size ≤ g
 b : Below w1.heap.size w1 wr
 few : pre.length ≤ 100
theorem PutIn.len {w1 wr : World} {v : Value} {pre : List KeyP} (h : PutIn w1 v pre wr) : ∃ a c, v = .slice a pre.length c := by
 rcases h.own.2 with ⟨e, h2⟩ | ⟨g, cap, cur, e, _⟩
 · exact ⟨none, 0, by rw [e, h2]⟩
 · exact ⟨_, _, e⟩
theorem PutIn.drewN {w1 wr : World} {v : Value} {pre : List KeyP} (h : PutIn w1 v pre wr) (n : Nat) : PutIn w1 v pre (wr.drewN n) := ⟨h.own, h.fresh, bDr h.b n, h.few⟩
theorem PutIn.more {w1 wr w5 : World} {v : Value} {pre : List KeyP} {g c : Nat} {k : KeyP} (h : PutIn w1 v pre wr) (hf : pre.length < 100)
    (hown : w5.ownsRow 0 123 2 (.slice (some ⟨g, 0, none⟩) (pre.length + 1) c) (pre.length + 1) (pre.flatMap keyV ++ keyV k)) (hgrow : (wr.alloc (.cells #[.int .i64 k.1, .int .i64 k.2] 123)).grownBy w5 v.ownBlock) (hat : v.ownBlock = some g ∨ g = wr.heap.size + 1) :
    PutIn w1 (.slice (some ⟨g, 0, none⟩) (pre.length + 1) c) (pre ++ [k]) w5 := by
 refine ⟨?_, fun g' hg' => ?_, (h.b.alloc h.b.size _).grown hgrow (by have := h.b.size; simp; omega) (fun j hj => h.fresh j hj), by simp; omega⟩
 · rw [List.length_append, List.flatMap_append]
   have e : [k].flatMap keyV = keyV k := by simp
   rw [e]
   exact hown
 · obtain rfl : g = g' := by simpa [Value.ownBlock] using hg'
   rcases hat with e | e
   · exact h.fresh g e
   · have := h.b.size; omega
def PutSt (l : List KeyP) (k : KeyP) (i : Nat) (done : Bool) (pre : List KeyP) : Prop :=
 (done = false ∧ pre = l.take i ∧ ∀ y ∈ l.take i, y.1 < k.1) ∨ (done = true ∧ pre = putD (l.take i) k ∧ ∃ y ∈ l.take i, k.1 ≤ y.1)
def PutRel (l : List KeyP) (kk : KeyP) (w1 : World) (v dn i : Value) (wr : World) : Prop :=
 ∃ (k : Nat) (done : Bool) (pre : List KeyP), k ≤ l.length ∧ i = .int .i64 k ∧ dn = .bool done ∧ PutSt l kk k done pre ∧ PutIn w1 v pre wr
theorem rput_any (l : List KeyP) (hR : RisingK l) (hl : l.length ≤ 50) (kk : KeyP) (a : Option Addr) (c : Nat) (w : World) (h : KeysAt w a l) :
    Calls Tryz.prog 53 #[.slice a l.length c, .agg #[.int .i64 kk.1, .int .i64 kk.2]] w fun e w' => ∃ v, e = .returned v ∧ OwnK v (putD l kk) w' ∧ (∀ g, v.ownBlock = some g → w.heap.size ≤ g) ∧ Below w.heap.size w w' := by
 obtain ⟨iK, hiK, hk0, hk1, hk2⟩ := info_parts infoKey
 obtain ⟨x1, x2⟩ := kk
 simp only
 have hb := (Below.refl w.heap.size w).alloc (Nat.le_refl _) (.cells #[.int .i64 x1, .int .i64 x2] 123)
 have hrow := rAl (w := w) #[.int .i64 x1, .int .i64 x2] 123 (0, 0)
 have hlI : (l.length : Int) ≤ 50 := by omega
 have H1 := hQ (h.below hb (Nat.le_refl _))
 have hs1 : w.heap.size < (w.alloc (.cells #[.int .i64 x1, .int .i64 x2] 123)).heap.size := by simp
 have Hb := hQ hb
 have Hrow := hQ hrow
 have HR := hQ hR
 have Hl := hQ hl
 clear hb hrow h hR hl
 go_enter Tryz.func53, Tryz.ntmps53
 go_wp2
 obtain ⟨q, hq⟩ : ∃ q, q = w.heap.size := ⟨_, rfl⟩
 rw [← hq] at Hrow hs1 ⊢
 have HQ := hQ hq; clear hq
 generalize w.alloc (.cells #[.int .i64 x1, .int .i64 x2] 123) = w1 at Hb Hrow H1 hs1 ⊢
 have Hs1 := hQ hs1; clear hs1
 go_loopw [5, 6, 7] (fun v dn i wr => PutRel l (x1, x2) w1 v dn i wr) (fun _ _ i _ => l.length - (intOf i).toNat)
 case atStart => exact ⟨0, false, [], Nat.zero_le _, rfl, rfl, .inl ⟨rfl, by simp, by simp⟩, World.ownsRow_nil w1 0 _ 2, fun g hg => by simp [Value.ownBlock] at hg, Below.refl _ _, by simp⟩
 case round =>
  obtain ⟨k, done, pre, hk, rfl, rfl, hst, hin⟩ := hrel
  obtain ⟨oa, oc, rfl⟩ := hin.len
  have hpl : pre.length ≤ k + 1 := by
   rcases hst with ⟨_, e, _⟩ | ⟨_, e, _⟩
   · rw [e, List.length_take]; omega
   · have := putD_len (l.take k) (x1, x2)
     rw [← e, List.length_take] at this
     omega
  have hkq := (hin.b.block q Hs1.out).trans Hrow.out
  have q0 := (cRw hkq 0).trans rfl
  have q1 := (cRw hkq 1).trans rfl
  have Hin := hQ hin
  have Hst := hQ hst
  have Hpl := hQ hpl
  clear hpl
  by_cases hkl : k < l.length
  · obtain ⟨b, o, rfl, c0, c1⟩ := (H1.out.below hin.b (Nat.le_refl _)) k hkl
    have htk := take_snoc (0, 0) hkl
    have hmem : l.getD k (0, 0) ∈ l := by rw [List.getD_eq_getElem?_getD, List.getElem?_eq_getElem hkl]; exact List.getElem_mem _
    have hris : ∀ y ∈ l.take k, y.1 < (l.getD k (0, 0)).1 := fun y hy => by
     have hp := HR.out
     rw [← List.take_append_drop k l] at hp
     have h3 : (l.drop k)[0]? = some (l.getD k (0, 0)) := by rw [List.getElem?_drop, Nat.add_zero, List.getD_eq_getElem?_getD, List.getElem?_eq_getElem hkl]; rfl
     exact (List.pairwise_append.1 hp).2.2 y hy _ (List.mem_of_getElem? h3)
    obtain ⟨yk, hyk⟩ : ∃ yk, yk = l.getD k (0, 0) := ⟨_, rfl⟩
    rw [← hyk] at c0 c1 htk hris
    obtain ⟨y1, y2⟩ := yk
    have Hyk := hQ hyk.symm; clear hyk
    simp only at c0 c1 hris
    have hkI : (k : Int) < l.length := by omega
    have Htk := hQ htk
    have Hris := hQ hris
    clear htk hris hin hst hmem hkq
    cases done with
    | true =>
     obtain ⟨hpre, yy, hy1, hy2⟩ : pre = putD (l.take k) (x1, x2) ∧ ∃ y ∈ l.take k, x1 ≤ y.1 := by
      rcases Hst.out with ⟨h, _⟩ | ⟨_, h⟩
      · cases h
      · exact h
     have hgt : x1 < y1 := by have := Hris.out yy hy1; omega
     have hge : x1 ≤ y1 := by omega
     have hne : (y1 != x1) = true := by simp; omega
     have hnx : PutSt l (x1, x2) (k + 1) true (pre ++ [(y1, y2)]) := .inr ⟨rfl, by rw [Htk.out, putD_snoc_done _ _ _ ⟨yy, hy1, hy2⟩, hpre], yy, by rw [Htk.out]; simp [hy1], hy2⟩
     have Hnx := hQ hnx
     have hpl2 : pre.length < 100 := by have := Hpl.out; have := Hl.out; omega
     have Hpl2 := hQ hpl2
     clear hnx hpre hy1 hy2 hpl2
     go_wp2_with fail
     go_quiet (fail)
     have e0 : (wr.drewN nq).cell? ⟨b, o + k * 2, none⟩ = some (.int .i64 y1) := c0
     have e1 : (wr.drewN nq).cell? ⟨b, o + k * 2 + 1, none⟩ = some (.int .i64 y2) := c1
     have e2 : (wr.drewN nq).cell? ⟨q, 0, none⟩ = some (.int .i64 x1) := q0
     have e3 : (wr.drewN nq).cell? ⟨q, 1, none⟩ = some (.int .i64 x2) := q1
     have Hy := hQ (Hin.out.drewN nq)
     clear c0 c1 q0 q1
     have c0 := e0; have c1 := e1; have q0 := e2; have q1 := e3; clear e0 e1 e2 e3
     generalize wr.drewN nq = wy at c0 c1 q0 q1 Hy ⊢
     go_wp2_with fail
     go_quiet (fail)
     have e0 : (wy.drewN nq).cell? ⟨b, o + k * 2, none⟩ = some (.int .i64 y1) := c0
     have e1 : (wy.drewN nq).cell? ⟨b, o + k * 2 + 1, none⟩ = some (.int .i64 y2) := c1
     have e2 : (wy.drewN nq).cell? ⟨q, 0, none⟩ = some (.int .i64 x1) := q0
     have e3 : (wy.drewN nq).cell? ⟨q, 1, none⟩ = some (.int .i64 x2) := q1
     have Hz := hQ (Hy.out.drewN nq)
     clear c0 c1 q0 q1
     have c0 := e0; have c1 := e1; have q0 := e2; have q1 := e3; clear e0 e1 e2 e3
     generalize wy.drewN nq = wz at c0 c1 q0 q1 Hz ⊢
     go_wp2_with (at_builtin; refine wpList_append_lies _ rfl (.tmp 38) (.tmp 43) 47 rfl 0 123 iK (.agg #[.int .i64 0, .int .i64 0]) 2 16 Tryz.underlying47 hiK hk0 hk1 hk2 rfl (by decide) _ _ _ rfl (Hz.out.own.alloc _) ⟨wz.heap.size, 0, none⟩ 1 1 (keyV (y1, y2)) rfl rfl (keyV_cells wz (y1, y2) 123) (by intro u hu; simp [keyV] at hu; rcases hu with rfl | rfl <;> rfl) (by omega) (by have := Hpl2.out; unfold maxLen; omega) (by have := Hpl2.out; omega) (Nat.zero_le _) (wz.heap.size + 1) (by simp) ?_; intro g1 cp1 w51 hown1 hgrow1 hat1 hlt1; have HN1 := hQ (Hz.out.more (k := (y1, y2)) Hpl2.out hown1 hgrow1 hat1); clear hown1 hgrow1 hat1 hlt1)
     exact ⟨⟨k + 1, true, _, by omega, by go_num, rfl, Hnx.out, HN1.out⟩, by simp [intOf]; omega⟩
    | false =>
     obtain ⟨hpre, hall⟩ : pre = l.take k ∧ ∀ y ∈ l.take k, y.1 < x1 := by
      rcases Hst.out with ⟨_, h⟩ | ⟨h, _⟩
      · exact h
      · cases h
     have hpl2 : pre.length < 99 := by have := Hpl.out; have := Hl.out; omega
     have Hpl2 := hQ (show pre.length < 100 by omega)
     have Hpl3 := hQ (show (pre ++ [(x1, x2)]).length < 100 by simp; omega)
     have hcase : y1 < x1 ∨ y1 = x1 ∨ x1 < y1 := by omega
     have h1 : y1 < x1 → PutSt l (x1, x2) (k + 1) false (pre ++ [(y1, y2)]) := fun h => .inl ⟨rfl, by rw [Htk.out, hpre], fun y hy => by
      rw [Htk.out] at hy
      rcases List.mem_append.1 hy with hy | hy
      · exact hall y hy
      · have : y = (y1, y2) := by simpa using hy
        rw [this]; exact h⟩
     have h2 : y1 = x1 → PutSt l (x1, x2) (k + 1) true (pre ++ [(x1, x2)]) := fun h => .inr ⟨rfl, by rw [Htk.out, putD_snoc_eq _ _ _ hall h, hpre], (y1, y2), by rw [Htk.out]; simp, by show x1 ≤ y1; omega⟩
     have h3 : x1 < y1 → PutSt l (x1, x2) (k + 1) true (pre ++ [(x1, x2)] ++ [(y1, y2)]) := fun h => .inr ⟨rfl, by rw [Htk.out, putD_snoc_gt _ _ _ hall h, hpre]; simp, (y1, y2), by rw [Htk.out]; simp, by show x1 ≤ y1; omega⟩
     have Hh1 := hQ h1
     have Hh2 := hQ h2
     have Hh3 := hQ h3
     clear h1 h2 h3 hpre hall hpl2
     rcases hcase with h | h | h
     · have hnx := Hh1.out h
       have Hnx := hQ hnx
       have hge : ¬ x1 ≤ y1 := by omega
       have hgd : decide (x1 ≤ y1) = false := by simp; omega
       have hne : (y1 != x1) = true := by simp; omega
       clear hnx
       go_wp2_with fail
       go_quiet (fail)
       have e0 : (wr.drewN nq).cell? ⟨b, o + k * 2, none⟩ = some (.int .i64 y1) := c0
       have e1 : (wr.drewN nq).cell? ⟨b, o + k * 2 + 1, none⟩ = some (.int .i64 y2) := c1
       have e2 : (wr.drewN nq).cell? ⟨q, 0, none⟩ = some (.int .i64 x1) := q0
       have e3 : (wr.drewN nq).cell? ⟨q, 1, none⟩ = some (.int .i64 x2) := q1
       have Hy := hQ (Hin.out.drewN nq)
       clear c0 c1 q0 q1
       have c0 := e0; have c1 := e1; have q0 := e2; have q1 := e3; clear e0 e1 e2 e3
       generalize wr.drewN nq = wy at c0 c1 q0 q1 Hy ⊢
       go_wp2_with fail
       go_quiet (fail)
       have e0 : (wy.drewN nq).cell? ⟨b, o + k * 2, none⟩ = some (.int .i64 y1) := c0
       have e1 : (wy.drewN nq).cell? ⟨b, o + k * 2 + 1, none⟩ = some (.int .i64 y2) := c1
       have e2 : (wy.drewN nq).cell? ⟨q, 0, none⟩ = some (.int .i64 x1) := q0
       have e3 : (wy.drewN nq).cell? ⟨q, 1, none⟩ = some (.int .i64 x2) := q1
       have Hz := hQ (Hy.out.drewN nq)
       clear c0 c1 q0 q1
       have c0 := e0; have c1 := e1; have q0 := e2; have q1 := e3; clear e0 e1 e2 e3
       generalize wy.drewN nq = wz at c0 c1 q0 q1 Hz ⊢
       go_wp2_with (at_builtin; refine wpList_append_lies _ rfl (.tmp 38) (.tmp 43) 47 rfl 0 123 iK (.agg #[.int .i64 0, .int .i64 0]) 2 16 Tryz.underlying47 hiK hk0 hk1 hk2 rfl (by decide) _ _ _ rfl (Hz.out.own.alloc _) ⟨wz.heap.size, 0, none⟩ 1 1 (keyV (y1, y2)) rfl rfl (keyV_cells wz (y1, y2) 123) (by intro u hu; simp [keyV] at hu; rcases hu with rfl | rfl <;> rfl) (by omega) (by have := Hpl2.out; unfold maxLen; omega) (by have := Hpl2.out; omega) (Nat.zero_le _) (wz.heap.size + 1) (by simp) ?_; intro g1 cp1 w51 hown1 hgrow1 hat1 hlt1; have HN1 := hQ (Hz.out.more (k := (y1, y2)) Hpl2.out hown1 hgrow1 hat1); clear hown1 hgrow1 hat1 hlt1)
       exact ⟨⟨k + 1, false, _, by omega, by go_num, rfl, Hnx.out, HN1.out⟩, by simp [intOf]; omega⟩
     · have hnx := Hh2.out h
       have Hnx := hQ hnx
       have hge : x1 ≤ y1 := by omega
       have hne : (y1 != x1) = false := by simp; omega
       have Hh := hQ h
       clear hnx h
       go_wp2_with fail
       go_quiet (fail)
       have e0 : (wr.drewN nq).cell? ⟨b, o + k * 2, none⟩ = some (.int .i64 y1) := c0
       have e1 : (wr.drewN nq).cell? ⟨b, o + k * 2 + 1, none⟩ = some (.int .i64 y2) := c1
       have e2 : (wr.drewN nq).cell? ⟨q, 0, none⟩ = some (.int .i64 x1) := q0
       have e3 : (wr.drewN nq).cell? ⟨q, 1, none⟩ = some (.int .i64 x2) := q1
       have Hy := hQ (Hin.out.drewN nq)
       clear c0 c1 q0 q1
       have c0 := e0; have c1 := e1; have q0 := e2; have q1 := e3; clear e0 e1 e2 e3
       generalize wr.drewN nq = wy at c0 c1 q0 q1 Hy ⊢
       go_wp2_with (at_builtin; refine wpList_append_lies _ rfl (.tmp 26) (.tmp 28) 47 rfl 0 123 iK (.agg #[.int .i64 0, .int .i64 0]) 2 16 Tryz.underlying47 hiK hk0 hk1 hk2 rfl (by decide) _ _ _ rfl (Hy.out.own.alloc _) ⟨wy.heap.size, 0, none⟩ 1 1 (keyV (x1, x2)) rfl rfl (keyV_cells wy (x1, x2) 123) (by intro u hu; simp [keyV] at hu; rcases hu with rfl | rfl <;> rfl) (by omega) (by have := Hpl2.out; unfold maxLen; omega) (by have := Hpl2.out; omega) (Nat.zero_le _) (wy.heap.size + 1) (by simp) ?_; intro g1 cp1 w51 hown1 hgrow1 hat1 hlt1; have HN1 := hQ (Hy.out.more (k := (x1, x2)) Hpl2.out hown1 hgrow1 hat1); clear hown1 hgrow1 hat1 hlt1)
       obtain ⟨b', o', ob, e0, e1⟩ := (H1.out.below HN1.out.b (Nat.le_refl _)) k hkl
       obtain ⟨rfl, rfl⟩ : b = b' ∧ o = o' := by simpa using ob
       rw [Hyk.out] at e0 e1
       simp only at e0 e1
       have hkq2 := (HN1.out.b.block q Hs1.out).trans Hrow.out
       have e2 := (cRw hkq2 0).trans rfl
       have e3 := (cRw hkq2 1).trans rfl
       clear c0 c1 q0 q1 ob hkq2
       have c0 := e0; have c1 := e1; have q0 := e2; have q1 := e3; clear e0 e1 e2 e3
       go_wp2_with fail
       go_quiet (fail)
       have e0 : (w51.drewN nq).cell? ⟨b, o + k * 2, none⟩ = some (.int .i64 y1) := c0
       have e1 : (w51.drewN nq).cell? ⟨b, o + k * 2 + 1, none⟩ = some (.int .i64 y2) := c1
       have e2 : (w51.drewN nq).cell? ⟨q, 0, none⟩ = some (.int .i64 x1) := q0
       have e3 : (w51.drewN nq).cell? ⟨q, 1, none⟩ = some (.int .i64 x2) := q1
       have Hz := hQ (HN1.out.drewN nq)
       clear c0 c1 q0 q1
       have c0 := e0; have c1 := e1; have q0 := e2; have q1 := e3; clear e0 e1 e2 e3
       generalize w51.drewN nq = wz at c0 c1 q0 q1 Hz ⊢
       go_wp2
       exact ⟨⟨k + 1, true, _, by omega, by go_num, rfl, Hnx.out, Hz.out⟩, by simp [intOf]; omega⟩
     · have hnx := Hh3.out h
       have Hnx := hQ hnx
       have hge : x1 ≤ y1 := by omega
       have hne : (y1 != x1) = true := by simp; omega
       clear hnx
       go_wp2_with fail
       go_quiet (fail)
       have e0 : (wr.drewN nq).cell? ⟨b, o + k * 2, none⟩ = some (.int .i64 y1) := c0
       have e1 : (wr.drewN nq).cell? ⟨b, o + k * 2 + 1, none⟩ = some (.int .i64 y2) := c1
       have e2 : (wr.drewN nq).cell? ⟨q, 0, none⟩ = some (.int .i64 x1) := q0
       have e3 : (wr.drewN nq).cell? ⟨q, 1, none⟩ = some (.int .i64 x2) := q1
       have Hy := hQ (Hin.out.drewN nq)
       clear c0 c1 q0 q1
       have c0 := e0; have c1 := e1; have q0 := e2; have q1 := e3; clear e0 e1 e2 e3
       generalize wr.drewN nq = wy at c0 c1 q0 q1 Hy ⊢
       go_wp2_with (at_builtin; refine wpList_append_lies _ rfl (.tmp 26) (.tmp 28) 47 rfl 0 123 iK (.agg #[.int .i64 0, .int .i64 0]) 2 16 Tryz.underlying47 hiK hk0 hk1 hk2 rfl (by decide) _ _ _ rfl (Hy.out.own.alloc _) ⟨wy.heap.size, 0, none⟩ 1 1 (keyV (x1, x2)) rfl rfl (keyV_cells wy (x1, x2) 123) (by intro u hu; simp [keyV] at hu; rcases hu with rfl | rfl <;> rfl) (by omega) (by have := Hpl2.out; unfold maxLen; omega) (by have := Hpl2.out; omega) (Nat.zero_le _) (wy.heap.size + 1) (by simp) ?_; intro g1 cp1 w51 hown1 hgrow1 hat1 hlt1; have HN1 := hQ (Hy.out.more (k := (x1, x2)) Hpl2.out hown1 hgrow1 hat1); clear hown1 hgrow1 hat1 hlt1)
       obtain ⟨b', o', ob, e0, e1⟩ := (H1.out.below HN1.out.b (Nat.le_refl _)) k hkl
       obtain ⟨rfl, rfl⟩ : b = b' ∧ o = o' := by simpa using ob
       rw [Hyk.out] at e0 e1
       simp only at e0 e1
       have hkq2 := (HN1.out.b.block q Hs1.out).trans Hrow.out
       have e2 := (cRw hkq2 0).trans rfl
       have e3 := (cRw hkq2 1).trans rfl
       clear c0 c1 q0 q1 ob hkq2
       have c0 := e0; have c1 := e1; have q0 := e2; have q1 := e3; clear e0 e1 e2 e3
       go_wp2_with fail
       go_quiet (fail)
       have e0 : (w51.drewN nq).cell? ⟨b, o + k * 2, none⟩ = some (.int .i64 y1) := c0
       have e1 : (w51.drewN nq).cell? ⟨b, o + k * 2 + 1, none⟩ = some (.int .i64 y2) := c1
       have e2 : (w51.drewN nq).cell? ⟨q, 0, none⟩ = some (.int .i64 x1) := q0
       have e3 : (w51.drewN nq).cell? ⟨q, 1, none⟩ = some (.int .i64 x2) := q1
       have Hz := hQ (HN1.out.drewN nq)
       clear c0 c1 q0 q1
       have c0 := e0; have c1 := e1; have q0 := e2; have q1 := e3; clear e0 e1 e2 e3
       generalize w51.drewN nq = wz at c0 c1 q0 q1 Hz ⊢
       go_wp2_with (at_builtin; refine wpList_append_lies _ rfl (.tmp 38) (.tmp 43) 47 rfl 0 123 iK (.agg #[.int .i64 0, .int .i64 0]) 2 16 Tryz.underlying47 hiK hk0 hk1 hk2 rfl (by decide) _ _ _ rfl (Hz.out.own.alloc _) ⟨wz.heap.size, 0, none⟩ 1 1 (keyV (y1, y2)) rfl rfl (keyV_cells wz (y1, y2) 123) (by intro u hu; simp [keyV] at hu; rcases hu with rfl | rfl <;> rfl) (by omega) (by have := Hpl3.out; unfold maxLen; omega) (by have := Hpl3.out; omega) (Nat.zero_le _) (wz.heap.size + 1) (by simp) ?_; intro g2 cp2 w52 hown2 hgrow2 hat2 hlt2; have HN2 := hQ (Hz.out.more (k := (y1, y2)) Hpl3.out hown2 hgrow2 hat2); clear hown2 hgrow2 hat2 hlt2)
       exact ⟨⟨k + 1, true, _, by omega, by go_num, rfl, Hnx.out, by have h9 := HN2.out; rw [show (pre ++ [(x1, x2)]).length = pre.length + 1 from by simp] at h9; exact h9⟩, by simp [intOf]; omega⟩
  · obtain rfl : k = l.length := by omega
    have hkI : ¬ (l.length : Int) < l.length := by omega
    rw [PutSt, List.take_length] at hst
    cases done with
    | true =>
     have hpre : pre = putD l (x1, x2) := by
      rcases hst with ⟨h, _⟩ | ⟨_, h, _⟩
      · cases h
      · exact h
     have Hpre := hQ hpre
     clear hst hin hpre
     go_wp2
     go_ret
     exact ⟨.slice oa pre.length oc, rfl, by rw [← Hpre.out]; exact Hin.out.own, fun g hg => Nat.le_trans Hb.out.size (Hin.out.fresh g hg), Hb.out.trans (Hin.out.b.mono Hb.out.size)⟩
    | false =>
     obtain ⟨hpre, hall⟩ : pre = l ∧ ∀ y ∈ l, y.1 < x1 := by
      rcases hst with ⟨_, h⟩ | ⟨h, _⟩
      · exact h
      · cases h
     have hput : putD l (x1, x2) = pre ++ [(x1, x2)] := by rw [hpre]; exact putD_all_lt l (x1, x2) hall
     have Hput := hQ hput
     have Hpl2 := hQ (show pre.length < 100 by have := Hl.out; rw [hpre]; omega)
     clear hput hpre hall hst hin
     go_wp2_with (at_builtin; refine wpList_append_lies _ rfl (.tmp 47) (.tmp 49) 47 rfl 0 123 iK (.agg #[.int .i64 0, .int .i64 0]) 2 16 Tryz.underlying47 hiK hk0 hk1 hk2 rfl (by decide) _ _ _ rfl (Hin.out.own.alloc _) ⟨wr.heap.size, 0, none⟩ 1 1 (keyV (x1, x2)) rfl rfl (keyV_cells wr (x1, x2) 123) (by intro u hu; simp [keyV] at hu; rcases hu with rfl | rfl <;> rfl) (by omega) (by have := Hpl2.out; unfold maxLen; omega) (by have := Hpl2.out; omega) (Nat.zero_le _) (wr.heap.size + 1) (by simp) ?_; intro g1 cp1 w51 hown1 hgrow1 hat1 hlt1; have HN1 := hQ (Hin.out.more (k := (x1, x2)) Hpl2.out hown1 hgrow1 hat1); clear hown1 hgrow1 hat1 hlt1)
     go_ret
     exact ⟨.slice (some ⟨g1, 0, none⟩) (pre.length + 1) cp1, rfl, by rw [Hput.out, OwnK, List.length_append]; have h9 := HN1.out.own; rw [List.length_append] at h9; exact h9, fun g hg => Nat.le_trans Hb.out.size (HN1.out.fresh g hg), Hb.out.trans (HN1.out.b.mono Hb.out.size)⟩
end
section
open Go Go.RowKit
def BoolIs (P : Prop) (w : World) (e : Ending) (w' : World) : Prop := ∃ b : Bool, e = .returned (.bool b) ∧ (b = true ↔ P) ∧ Below w.heap.size w w'
def RhRel (T : List NodeD) (n q : Nat) (a : Option Addr) (c : Nat) (w : World) (i : Value) (wr : World) : Prop := ∃ k : Nat, k ≤ T.length ∧ i = .int .i64 k ∧ wr.heap[q]? = some (boxT (.slice a T.length c)) ∧ Below w.heap.size w wr ∧ ∀ x, x < k → lackD n (nodeD T x) = false
theorem arheld_any (B r : Nat) (G : Nat → Prop) (L : List TermD) (hl : L.length ≤ 2000000) (T : List NodeD) (hlen : T.length ≤ 262144) (a : Option Addr) (c : Nat) (w : World) (h : RefStore w r G L) (hB : B ≤ w.heap.size) (hT : TreeAt B w a T) :
    Calls Tryz.prog 51 #[.pointer (some ⟨r, 0, none⟩), .agg #[.slice a T.length c]] w (BoolIs (heldD T L.length) w) := by
 have hb := (Below.refl w.heap.size w).alloc (Nat.le_refl _) (boxT (.slice a T.length c))
 have hrow := rAl (w := w) #[.slice a T.length c] 44 (0, 0)
 have his := fun (p : Int) (W : World) (hW : Below w.heap.size w W) => ris_any r G L p W (h.new hW) hl
 have Hst := hQ (show RhRel T L.length w.heap.size a c w (.int .i64 0) (w.alloc (boxT (.slice a T.length c))) from ⟨0, Nat.zero_le _, rfl, hrow, hb, fun x hx => by omega⟩)
 have His := hQ his; clear his hb hrow h
 have HT := hQ hT; clear hT
 have hlI : (T.length : Int) ≤ 262144 := by omega
 have hpost : ∀ b : Bool, ∀ w', (b = true ↔ heldD T L.length) → Below w.heap.size w w' → BoolIs (heldD T L.length) w (.returned (.bool b)) w' := fun b w' h1 h2 => ⟨b, rfl, h1, h2⟩
 have Hpost := hQ hpost; clear hpost
 go_enter Tryz.func51, Tryz.ntmps51
 go_wp2
 obtain ⟨q, hq⟩ : ∃ q, q = w.heap.size := ⟨_, rfl⟩
 have Hst2 : Hid (RhRel T L.length q a c w (.int .i64 0) (w.alloc (boxT (.slice a T.length c)))) := by rw [hq]; exact Hst
 clear Hst
 rw [← hq]
 have HQ := hQ hq; clear hq
 go_loopw [5] (fun i wr => RhRel T L.length q a c w i wr) (fun i _ => T.length - (intOf i).toNat)
 case atStart => exact Hst2.out
 case round =>
  obtain ⟨k, hk, rfl, hbq, hb, hall⟩ := hrel
  have kb := (cRw hbq 0).trans rfl
  have hqw := (Array.getElem?_eq_some_iff.1 hbq).1
  have Hbq := hQ hbq
  have Hb := hQ hb
  have Hall := hQ hall
  clear hall
  by_cases hlt : k < T.length
  · obtain ⟨b, o, rfl, hnode⟩ := (HT.out.below (hb.mono hB)) k hlt
    have k0 := hnode.c0
    have hkI : (k : Int) < T.length := by omega
    clear hnode hb hbq
    have hlk : lackD L.length (nodeD T k) = (decide ((nodeD T k).pub ≠ 0) && !thereD L.length (nodeD T k).pub) := rfl
    by_cases hp : (nodeD T k).pub = 0
    · have Hlk := hQ (show lackD L.length (nodeD T k) = false by rw [hlk, hp]; simp)
      rw [hp] at k0
      clear hlk hp
      go_wp2
      exact ⟨⟨k + 1, by omega, by go_num, Hbq.out, Hb.out, fun x hx => by
       by_cases e : x = k
       · subst e; exact Hlk.out
       · exact Hall.out x (by omega)⟩, by simp [intOf]; omega⟩
    · have hp0 : ((nodeD T k).pub != 0) = true := by simpa using hp
      have hp1 : ((nodeD T k).pub == 0) = false := by simpa using hp
      have hlk2 : lackD L.length (nodeD T k) = !thereD L.length (nodeD T k).pub := by rw [hlk]; simp [hp]
      have hc := His.out (nodeD T k).pub wr Hb.out
      clear hlk
      obtain ⟨bd, hbd⟩ : ∃ bd, bd = thereD L.length (nodeD T k).pub := ⟨_, rfl⟩
      rw [← hbd] at hc hlk2
      have Hlk := hQ hlk2; clear hlk2 hbd
      generalize (nodeD T k).pub = p at k0 hp hp0 hp1 hc
      have Hc := hQ hc; clear hc
      go_wp2_with fail
      refine Hc.out.mono ?_
      rintro e w3 ⟨rfl, hb3⟩
      have Hb3 := hQ (Hb.out.trans (hb3.mono Hb.out.size))
      have Hbq3 := hQ ((hb3.block q hqw).trans Hbq.out)
      clear hb3 kb k0 Hc
      cases bd with
      | true =>
       go_wp2
       exact ⟨⟨k + 1, by omega, by go_num, Hbq3.out, Hb3.out, fun x hx => by
        by_cases e : x = k
        · subst e; rw [Hlk.out]; rfl
        · exact Hall.out x (by omega)⟩, by simp [intOf]; omega⟩
      | false =>
       have Hn := hQ (show ¬ heldD T L.length from fun h => held_iff.1 h ⟨k, hlt, by rw [Hlk.out]; rfl⟩)
       go_wp2
       go_ret
       exact Hpost.out false _ ⟨(fun h => by cases h), fun h => absurd h Hn.out⟩ Hb3.out
  · obtain rfl : k = T.length := by omega
    have hkI : ¬ (T.length : Int) < T.length := by omega
    have Hn := hQ (show heldD T L.length from held_iff.2 (fun ⟨x, hx, h⟩ => by rw [Hall.out x hx] at h; cases h))
    clear hb hbq
    go_wp2
    go_ret
    exact Hpost.out true _ ⟨fun _ => Hn.out, fun _ => rfl⟩ Hb.out
end
section
open Go Go.RowKit
section
variable {B r : Nat} {G : Nat → Prop} {L : List TermD} {a : Option Addr} {c : Nat} {T : List NodeD} {w : World} {q x0 : Nat} {vu : Value} {v : Value} {G' G2 : Nat → Prop} {wr w2 : World}
variable {Lx Ly : List TermD} {ks : List KeyP}
end
end
section
open Go Go.RowKit
section
variable {B s m : Nat} {F : Nat → Prop} {L : List TermD} {a : Option Addr} {c : Nat} {T : List NodeD} {sec : Int} {w : World} {q qf bt : Nat} {P : List Nat} {F' : Nat → Prop} {va : Option Addr} {vc : Nat} {W W' : World}
end
end
section
open Go Go.RowKit
attribute [local go_sem] Oper.semAt_some
end
section
open Go Go.RowKit
end
section
open Go Go.RowKit
theorem keys_any (mp n : Nat) (ks : List KeyP) (aa ab : Option Addr) (ca cb : Nat) (hn : n ≤ 100000) (hl : ∀ y ∈ ks, 0 ≤ y.2 ∧ y.2 < n) (hll : ks.length ≤ 100) (w : World) (h : MapAt w mp n) (ha : KeysAt w aa ks) (hb : KeysAt w ab ks) :
    Calls Tryz.prog 19 #[.pointer (some ⟨mp, 0, none⟩), .slice aa ks.length ca, .slice ab ks.length cb] w fun e w' => e = .returned (.bool true) ∧ ∃ d, w' = w.drewN d := by
 have HA := hQ ha; clear ha
 have HB := hQ hb; clear hb
 have H := hQ h; clear h
 have Hl := hQ hl; clear hl
 have hlI : (ks.length : Int) ≤ 100 := by omega
 go_enter Tryz.func19, Tryz.ntmps19
 go_wp2
 go_loopw [7] (fun i wr => NumRel ks.length w i wr) (fun i _ => ks.length - (intOf i).toNat)
 case atStart => exact ⟨0, 0, Nat.zero_le _, rfl, rfl⟩
 case round =>
  obtain ⟨k, d, hk, rfl, hwr⟩ := hrel
  have hcell : ∀ p, wr.cell? p = w.cell? p := fun p => by rw [hwr]; rfl
  have hmap : MapAt wr mp n := by rw [hwr]; exact H.out
  have Hwr := hQ hwr; clear hwr
  by_cases hlt : k < ks.length
  · obtain ⟨ga, oa, rfl, xa0, xa1⟩ := HA.out k hlt
    obtain ⟨gb, ob, rfl, xb0, xb1⟩ := HB.out k hlt
    rw [← hcell] at xa0 xa1 xb0 xb1
    clear hcell
    have hy := Hl.out (ks.getD k (0, 0)) (by rw [List.getD_eq_getElem?_getD, List.getElem?_eq_getElem hlt]; exact List.getElem_mem _)
    generalize ks.getD k (0, 0) = y at xa0 xa1 xb0 xb1 hy
    obtain ⟨y1, y2⟩ := y
    simp only at xa0 xa1 xb0 xb1 hy
    obtain ⟨x, rfl⟩ : ∃ x : Nat, y2 = x := ⟨y2.toNat, by omega⟩
    have hs := fun d' => same_any mp n x (by omega) hn (wr.drewN d') hmap
    have Hs := hQ hs; clear hs hy hmap
    have hkl : (k : Int) < ks.length := by omega
    go_wp2_with fail
    go_quiet ((go_at_call 13; exact Calls.quiet_of_same (Hs.out _)))
    go_wp2
    exact ⟨⟨k + 1, d + nq, by omega, by go_num, by rw [Hwr.out, World.drewN_drewN]⟩, by simp [intOf]; omega⟩
  · obtain rfl : k = ks.length := by omega
    clear hcell hmap
    go_wp2
    go_ret
    exact ⟨rfl, d, Hwr.out⟩
end
section
open Go Go.RowKit
end
section
open Go Go.RowKit
theorem get4 : getT L4 4 = ⟨5, 0, 2, 0⟩ ∧ thereD L4.length 4 = true := by decide +kernel
theorem fits_1 (B s b c gk : Nat) (F : Nat → Prop) (w : World) (h : Lv B s F L4 w) (hT : T3 w b 8 5 5 10 4 6 0) (hk0 : w.cell? ⟨gk, 0, none⟩ = some (.int .i64 2)) (hk1 : w.cell? ⟨gk, 1, none⟩ = some (.int .i64 2)) :
    Calls Tryz.prog 181 #[.pointer (some ⟨s, 0, none⟩), .agg #[.slice (some ⟨b, 0, none⟩) 3 c], .slice (some ⟨gk, 0, none⟩) 1 1] w fun e w' => ∃ g cg, e = .returned (.slice (some ⟨g, 0, none⟩) 1 cg) ∧ OwnK (.slice (some ⟨g, 0, none⟩) 1 cg) [(2, 2)] w' ∧ w.heap.size ≤ g ∧ Below w.heap.size w w' := by
 obtain ⟨iK, hiK, hz0, hz1, hz2⟩ := info_parts infoKey
 have hgk := World.block_lt_of_cell? w _ hk0
 have hb1 := ((Below.refl w.heap.size w).alloc (Nat.le_refl _) (boxT (.slice (some ⟨b, 0, none⟩) 3 c)))
 have hb2 := hb1.alloc hb1.size (.cells #[.int .i64 2, .int .i64 2] 123)
 have hget := fun W (hW : Below w.heap.size w W) => sget_any s F L4 4 W (h.ps.new hW) (by decide)
 rw [get4.1, get4.2] at hget
 unfold TermD.arr at hget
 have Hget := hQ hget; clear hget
 have Hb2 := hQ hb2
 have Hgk := hQ hgk
 have k4 := (hT.new hb2).c8
 have ka := (hb1.cell (p := ⟨gk, 0, none⟩) hgk).trans hk0
 have kb := (hb1.cell (p := ⟨gk, 1, none⟩) hgk).trans hk1
 have HT := hQ hT
 clear h hT hb1 hb2 hgk
 go_enter Tryz.func181, Tryz.ntmps181
 go_wp2
 refine wp_loop_rounds 2 ?_
 rw [rounds_succ]
 go_wp2_with fail
 refine (Hget.out _ Hb2.out).mono ?_
 have hkey := rAl (w := w.alloc (boxT (.slice (some ⟨b, 0, none⟩) 3 c))) #[.int .i64 2, .int .i64 2] 123 (0, 0)
 rw [World.size_alloc] at hkey
 have Hkey := hQ hkey; clear hkey
 obtain ⟨q, hq⟩ : ∃ q, q = w.heap.size := ⟨_, rfl⟩
 rw [← hq] at Hkey ⊢
 have Hq := hQ hq; clear hq ka kb k4 hk0 hk1
 generalize (w.alloc (boxT (.slice (some ⟨b, 0, none⟩) 3 c))).alloc (.cells #[.int .i64 2, .int .i64 2] 123) = w1 at Hb2 Hkey ⊢
 rintro e w2 ⟨rfl, hb⟩
 have hql := (Array.getElem?_eq_some_iff.1 Hkey.out).1
 have hk2 := (hb.block (q + 1) hql).trans Hkey.out
 have hal := (Below.refl w2.heap.size w2).alloc (Nat.le_refl _) (.cells #[.int .u8 5, .int .i64 0, .int .i64 2, .int .i64 0] 107)
 have Hb3 := hQ ((Hb2.out.trans (hb.mono Hb2.out.size)).trans (hal.mono (Nat.le_trans Hb2.out.size hb.size)))
 have hk3 := (hal.block (q + 1) (Nat.lt_of_lt_of_le hql hb.size)).trans hk2
 have k0 := cRw hk3 0
 have k1 := cRw hk3 1
 have Hk3 := hQ hk3
 clear hb hk2 hk3 hal hql Hkey Hb2 Hget
 have hn1 : ∀ W : World, W.ownsRow 0 123 2 (.slice none 0 0) 0 [] := fun W => World.ownsRow_nil W 0 _ 2
 have Hn1 := hQ hn1; clear hn1
 go_wp2_with (at_builtin; refine wpList_append_lies _ rfl (.tmp 51) (.tmp 53) 47 rfl 0 123 iK (.agg #[.int .i64 0, .int .i64 0]) 2 16 Tryz.underlying47 hiK hz0 hz1 hz2 rfl (by decide) (.slice none 0 0) 0 [] rfl (Hn1.out _) ⟨w2.heap.size + 1, 0, none⟩ 1 1 (keyV (2, 2)) rfl rfl (by have h := keyV_cells (w2.alloc (.cells #[.int .u8 5, .int .i64 0, .int .i64 2, .int .i64 0] 107)) (2, 2) 123; rw [World.size_alloc] at h; exact h) (by intro u hu; simp [keyV] at hu; rcases hu with rfl | rfl <;> rfl) (by omega) (by unfold maxLen; omega) (by omega) (Nat.zero_le _) (w2.heap.size + 1 + 1) (by simp) ?_; intro g cg w4 hown4 hgrow4 hat4 hlt4; have Hown4 := hQ hown4; have Hgrow4 := hQ hgrow4; have Hat4 := hQ hat4; clear hown4 hgrow4 hat4 hlt4)
 rw [rounds_succ]
 go_wp2
 go_ret
 have hb4 := (Hb3.out.alloc Hb3.out.size (.cells #[.int .i64 2, .int .i64 2] 123)).grown Hgrow4.out (by have := Hb3.out.size; simp at this ⊢; omega) (fun k hk => by simp [Value.ownBlock] at hk)
 have hg : g = w2.heap.size + 1 + 1 := Hat4.out.elim (fun e => by simp [Value.ownBlock] at e) id
 refine ⟨g, cg, rfl, Hown4.out, ?_, hb4⟩
 have := Hb3.out.size
 simp at this
 omega
end
section
open Go Go.RowKit
theorem get11 : getT L4 11 = ⟨6, 0, 4, 5⟩ ∧ thereD L4.length 11 = true := by decide +kernel
theorem get4' : getT L4 4 = ⟨5, 0, 2, 0⟩ := by decide +kernel
structure OpAt (B s b c q gk sb : Nat) (F : Nat → Prop) (w : World) : Prop where
 lv : Lv B s F L4 w
 tr : StT F w b 8 5 5 10 4 6 0
 tb : Stays F w q (boxT (.slice (some ⟨b, 0, none⟩) 3 c))
 k0 : StC F w gk 0 (.int .i64 2)
 k1 : StC F w gk 1 (.int .i64 2)
 s0 : StC F w sb 0 (.int .i64 1)
 s1 : StC F w sb 1 (.int .i64 2)
 s2 : StC F w sb 2 (.int .i64 11)
theorem OpAt.new {B s b c q gk sb : Nat} {F : Nat → Prop} {w w' : World} (h : OpAt B s b c q gk sb F w) (hb : Below w.heap.size w w') : OpAt B s b c q gk sb F w' :=
 ⟨h.lv.new hb, h.tr.new hb, h.tb.new hb, h.k0.new hb, h.k1.new hb, h.s0.new hb, h.s1.new hb, h.s2.new hb⟩
theorem OpAt.below {B s b c q gk sb : Nat} {F : Nat → Prop} {w0 w w' : World} (h : OpAt B s b c q gk sb F w) (hB : Below B w0 w) (hb : Below w.heap.size w w') : Below B w0 w' := hB.trans (hb.mono h.lv.size)
def OpPost (B : Nat) (w : World) (r : Ending) (w' : World) : Prop :=
 ∃ a cl, r = .returned (.tuple #[.slice a 2 cl, .int .i64 6, .int .i64 0]) ∧ Below B w w'
theorem ris_two' : rsD [(2, 2), (1, 9)] = [(1, 9), (2, 2)] := by decide
theorem two_of' {v : Value} {w : World} (h : OwnK v (rsD [(2, 2), (1, 9)]) w) : ∃ a c, v = .slice a 2 c := by
 rcases h.2 with ⟨_, e⟩ | ⟨g, cap, cur, e, _⟩
 · rw [ris_two'] at e; simp at e
 · rw [ris_two'] at e; exact ⟨_, _, e⟩
theorem open_3 (B s b c gk sb cs : Nat) (F : Nat → Prop) (w : World) (h : Lv B s F L4 w) (hT : StT F w b 8 5 5 10 4 6 0) (hk0 : StC F w gk 0 (.int .i64 2)) (hk1 : StC F w gk 1 (.int .i64 2)) (hs0 : StC F w sb 0 (.int .i64 1)) (hs1 : StC F w sb 1 (.int .i64 2)) (hs2 : StC F w sb 2 (.int .i64 11)) (hcs : 1 ≤ cs) :
    Calls Tryz.prog 45 #[.pointer (some ⟨s, 0, none⟩), .agg #[.slice (some ⟨b, 0, none⟩) 3 c], .int .i64 0, .int .i64 1, .slice (some ⟨gk, 0, none⟩) 1 1, .slice (some ⟨sb, 0, none⟩) 1 cs] w (OpPost B w) := by
 obtain ⟨iK, hiK, hz0, hz1, hz2⟩ := info_parts infoKey
 have hFl := h.ps.lt
 have hb1 := (Below.refl w.heap.size w).alloc (Nat.le_refl _) (boxT (.slice (some ⟨b, 0, none⟩) 3 c))
 have hO : OpAt B s b c w.heap.size gk sb F (w.alloc (boxT (.slice (some ⟨b, 0, none⟩) 3 c))) := ⟨h.new hb1, hT.new hb1, ⟨rAl _ _ _, fun hf => absurd (hFl _ hf) (Nat.lt_irrefl _)⟩, hk0.new hb1, hk1.new hb1, hs0.new hb1, hs1.new hb1, hs2.new hb1⟩
 have H1 := hQ hO
 have Hb1 := hQ (hb1.mono h.size)
 have k := cRw hO.tb.at' 0
 clear h hT hk0 hk1 hs0 hs1 hs2 hFl hb1 hO
 go_enter Tryz.func45, Tryz.ntmps45
 go_wp2_with fail
 refine (palive_any s F L4 _ H1.out.lv.ps).mono ?_
 rintro e wx ⟨rfl, hwx⟩
 subst wx
 obtain ⟨q, hq⟩ : ∃ q, q = w.heap.size := ⟨_, rfl⟩
 rw [← hq] at H1 k ⊢
 clear hq
 generalize w.alloc (boxT (.slice (some ⟨b, 0, none⟩) 3 c)) = w1 at H1 Hb1 k ⊢
 go_wp2_with fail
 refine (held_3 s b c F L4 (by decide) 8 5 5 10 4 6 0 (by decide) (.inr (by decide)) (by decide) (by omega) (by omega) (by omega) (by omega) (by omega) _ H1.out.lv.tz H1.out.lv.sz H1.out.lv.ps H1.out.tr.at').mono ?_
 rintro e w2 ⟨rfl, hb⟩
 have Hb2 := hQ (H1.out.below Hb1.out hb); have H2 := hQ (H1.out.new hb)
 clear hb H1 Hb1 k
 have k := cRw H2.out.tb.at' 0
 go_wp2_with fail
 refine (leafed_0 b c 8 5 5 10 4 6 0 (by omega) (by omega) (by omega) (by omega) (by omega) (by omega) (by omega) (by omega) _ H2.out.lv.tz H2.out.lv.sz H2.out.tr.at').mono ?_
 rintro e w3 ⟨rfl, hb⟩
 have Hb3 := hQ (H2.out.below Hb2.out hb); have H3 := hQ (H2.out.new hb)
 clear hb H2 Hb2 k
 have k := cRw H3.out.tb.at' 0
 go_wp2_with fail
 refine (leafed_1 b c 8 5 5 10 4 6 0 (by omega) (by omega) (by omega) (by omega) (by omega) (by omega) (by omega) (by omega) _ H3.out.lv.tz H3.out.lv.sz H3.out.tr.at').mono ?_
 rintro e w4 ⟨rfl, hb⟩
 have Hb4 := hQ (H3.out.below Hb3.out hb); have H4 := hQ (H3.out.new hb)
 clear hb H3 Hb3 k
 have k := cRw H4.out.tb.at' 0
 go_wp2_with fail
 refine (joint_3 b c 8 5 5 10 4 6 0 ⟨by omega, by omega, by omega, by omega, by omega, by omega, by omega, by omega⟩ (by omega) _ H4.out.lv.tz H4.out.lv.sz H4.out.tr.at').mono ?_
 rintro e w5 ⟨rfl, hb⟩
 have Hb5 := hQ (H4.out.below Hb4.out hb); have H5 := hQ (H4.out.new hb)
 clear hb H4 Hb4 k
 have a0 := H5.out.s0.at'
 have a1 := H5.out.s1.at'
 have a2 := H5.out.s2.at'
 go_wp2_with fail
 refine wp_loop_rounds 2 ?_
 rw [rounds_succ]
 have hal := (Below.refl w5.heap.size w5).alloc (Nat.le_refl _) (.cells #[.int .i64 1, .int .i64 2, .int .i64 11] 143)
 have c0 := ((H5.out.new hal).k0).at'
 have c1 := ((H5.out.new hal).k1).at'
 have H6 := hQ (H5.out.new hal)
 have Hb6 := hQ (H5.out.below Hb5.out hal)
 have Hsl := hQ (rAl (w := w5) #[.int .i64 1, .int .i64 2, .int .i64 11] 143 (0, 0))
 clear hal
 go_wp2_with fail
 refine wp_loop_rounds 2 ?_
 rw [rounds_succ]
 obtain ⟨w6, hw6⟩ : ∃ w6, w6 = w5.alloc (.cells #[.int .i64 1, .int .i64 2, .int .i64 11] 143) := ⟨_, rfl⟩
 obtain ⟨q5, hq5⟩ : ∃ q5, q5 = w5.heap.size := ⟨_, rfl⟩
 rw [← hw6] at H6 Hb6 Hsl c0 c1 ⊢
 rw [← hq5] at Hsl ⊢
 clear hw6 hq5 H5 Hb5 a0 a1 a2
 have hal := (Below.refl w6.heap.size w6).alloc (Nat.le_refl _) (.cells #[.int .i64 2, .int .i64 2] 123)
 have hsl := (hal.block q5 (Array.getElem?_eq_some_iff.1 Hsl.out).1).trans Hsl.out
 have e0 := cRw hsl 0
 have e1 := cRw hsl 1
 have e2 := cRw hsl 2
 have H7 := hQ (H6.out.new hal)
 have Hb7 := hQ (H6.out.below Hb6.out hal)
 clear hal hsl
 go_wp2_with fail
 refine (opened_yes s F L4 (by decide) 11 2 4 5 get11.1 get11.2 get4' _ H7.out.lv.ps).mono ?_
 rintro e w8 ⟨rfl, hb⟩
 have Hb8 := hQ (H7.out.below Hb7.out hb); have H8 := hQ (H7.out.new hb)
 clear hb H7 Hb7 H6 Hb6 Hsl e0 e1 e2 c0 c1
 have k := cRw H8.out.tb.at' 0
 go_wp2_with fail
 refine (above_3 B s b c F _ H8.out.lv H8.out.tr).mono ?_
 rintro e w9 ⟨F9, a, cl, rfl, hlv, hka, hx, hTu⟩
 have H9 := hQ (show OpAt B s b c q gk sb F9 w9 from ⟨hlv, H8.out.tr.step hx hTu, H8.out.tb.step hx hTu, H8.out.k0.step hx hTu, H8.out.k1.step hx hTu, H8.out.s0.step hx hTu, H8.out.s1.step hx hTu, H8.out.s2.step hx hTu⟩)
 have Hb9 := hQ (Hb8.out.trans (hTu.below H8.out.lv.size H8.out.lv.far))
 have Hka := hQ hka
 clear hlv hka hx hTu H8 Hb8 k
 have k := cRw H9.out.tb.at' 0
 go_wp2_with fail
 refine (fits_1 B s b c gk F9 _ H9.out.lv H9.out.tr.at' H9.out.k0.at' H9.out.k1.at').mono ?_
 rintro e w10 ⟨g, cg, rfl, hown, hg, hb⟩
 have Hb10 := hQ (H9.out.below Hb9.out hb)
 have hka2 := Hka.out.below hb (Nat.le_refl _)
 obtain ⟨b1, o1, ea, ca0, ca1⟩ := hka2 0 (by simp)
 subst ea
 have hgl : B ≤ g := Nat.le_trans H9.out.lv.size hg
 have hB10 : B ≤ w10.heap.size := Nat.le_trans H9.out.lv.size hb.size
 have Hown := hQ hown
 have Hgl := hQ (And.intro hgl hB10)
 clear hown hg hb hgl hB10 hka2 Hka H9 Hb9 k
 have hca : ∀ j u, (keyV (1, 9))[j]? = some u → w10.cell? ((⟨b1, o1, none⟩ : Addr).add j) = some u := by
  intro j u hj
  have ha : (⟨b1, o1, none⟩ : Addr).add j = ⟨b1, o1 + j, none⟩ := by unfold Addr.add; split <;> simp_all
  rw [ha]
  have h2 : j = 0 ∨ j = 1 := by
   have := (List.getElem?_eq_some_iff.1 hj).1
   simp [keyV] at this
   omega
  rcases h2 with rfl | rfl
  · simp [keyV] at hj
    subst hj
    simpa using ca0
  · simp [keyV] at hj
    subst hj
    simpa using ca1
 have Hca := hQ hca
 clear hca ca0 ca1
 go_wp2_with (at_builtin; refine wpList_append_lies _ rfl (.tmp 106) (.tmp 107) 47 rfl 0 123 iK (.agg #[.int .i64 0, .int .i64 0]) 2 16 Tryz.underlying47 hiK hz0 hz1 hz2 rfl (by decide) (.slice (some ⟨g, 0, none⟩) 1 cg) 1 (keyV (2, 2)) rfl Hown.out ⟨b1, o1, none⟩ 1 cl (keyV (1, 9)) rfl rfl Hca.out (by intro u hu; simp [keyV] at hu; rcases hu with rfl | rfl <;> rfl) (by omega) (by unfold maxLen; omega) (by omega) (Nat.zero_le _) w10.heap.size (by simp) ?_; intro g2 c2 w11 hown11 hgrow11 hat11 hlt11; have Hown11 := hQ hown11; have Hsz := hQ hgrow11.size; have Hb11 := hQ (Hb10.out.grown hgrow11 Hgl.out.2 (fun k hk => by simp [Value.ownBlock] at hk; have := Hgl.out.1; omega)); clear hown11 hgrow11 hat11 hlt11)
 have hst : StO (fun _ => False) w11 123 2 (.slice (some ⟨g2, 0, none⟩) 2 c2) 2 (keyV (2, 2) ++ keyV (1, 9)) := ⟨Hown11.out, fun _ _ h => h⟩
 refine (rising_any (some ⟨g2, 0, none⟩) c2 [(2, 2), (1, 9)] (by simp) (by simp) (by intro k hk; simp at hk; rcases hk with rfl | rfl <;> simp [i64ok]) _ (keys_at (l := [(2, 2), (1, 9)]) hst rfl)).mono ?_
 rintro e w12 ⟨v, rfl, hv, hvn, hb⟩
 obtain ⟨va, vc, rfl⟩ := two_of' hv
 have Hb12 := hQ (Hb11.out.trans (hb.mono (Nat.le_trans Hgl.out.2 Hsz.out)))
 clear hb hv hvn hst
 go_wp2_with fail
 go_ret3
 exact ⟨va, vc, rfl, Hb12.out⟩
end
section
open Go Go.RowKit
theorem lives_any : Lives := by
 intro w tz h3
 have Htz := hQ tz
 have H3 := hQ h3
 clear tz h3
 go_enter Tryz.func14, Tryz.ntmps14
 go_wp2_with fail
 refine (two_any _).mono ?_
 rintro e w1 ⟨s, t, b, c, F, rfl, hps, hT, hF, hb⟩
 have hal := (Below.refl w1.heap.size w1).alloc (Nat.le_refl _) (boxT (.slice (some ⟨b, 0, none⟩) 3 c))
 have hlv : Lv w.heap.size s F L0 w1 := ⟨Htz.out.below hb H3.out, hps, hF, H3.out, hb.size⟩
 have H2 := hQ (hlv.new hal)
 have HT2 := hQ (hT.new hal)
 have Hb2 := hQ (hb.trans (hal.mono hb.size))
 clear hps hT hF hb hal hlv
 go_wp2_with fail
 refine (make_3 w.heap.size s b c F _ H2.out HT2.out).mono ?_
 generalize w1.alloc (boxT (.slice (some ⟨b, 0, none⟩) 3 c)) = w2 at H2 HT2 Hb2 ⊢
 rintro e w3 ⟨g, gk, ck, sb, cs, F', rfl, hT, hs0, hs1, hs2, hx, hps, hTu, hcs⟩
 have hal := (Below.refl w3.heap.size w3).alloc (Nat.le_refl _) (boxT (.slice (some ⟨g, 0, none⟩) 3 3))
 have hal2 := hal.alloc hal.size (.cells #[.int .i64 2, .int .i64 2] 123)
 have hlv := H2.out.step hx hps hTu
 have hkr := rAl (w := w3.alloc (boxT (.slice (some ⟨g, 0, none⟩) 3 3))) #[.int .i64 2, .int .i64 2] 123 (0, 0)
 rw [World.size_alloc] at hkr
 have hkF : ¬ F' (w3.heap.size + 1) := fun hf => by have := hps.lt _ hf; omega
 have hk0 : StC F' _ (w3.heap.size + 1) 0 (.int .i64 2) := ⟨cRw hkr 0, hkF⟩
 have hk1 : StC F' _ (w3.heap.size + 1) 1 (.int .i64 2) := ⟨cRw hkr 1, hkF⟩
 have hop := open_3 w.heap.size s g 3 (w3.heap.size + 1) sb cs F' _ (hlv.new hal2) (hT.new hal2) hk0 hk1 (hs0.new hal2) (hs1.new hal2) (hs2.new hal2) hcs
 have Hop := hQ hop
 have Hb3 := hQ ((Hb2.out.trans (hTu.below H2.out.size H2.out.far)).trans (hal2.mono hlv.size))
 clear hop hal hal2 hlv hkr hkF hk0 hk1 hT hs0 hs1 hs2 hx hps hTu hcs H2 HT2 Hb2
 go_wp2_with fail
 refine Calls.mono Hop.out ?_
 rintro e w4 ⟨a, cl, rfl, hb4⟩
 have Hb4 := hQ (Hb3.out.trans hb4)
 clear hb4
 go_wp2
 go_ret
 exact ⟨rfl, Hb4.out⟩
end
end Go.Proofs.YtedpljclnpiggaaGreatDoor
