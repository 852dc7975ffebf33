/-
  phratrylaw03.Across over any two stores: the map of the terms' numbers.
-/
import Derived.Test.YtagccbpjpcnmeaaGreatDoorQSecs
import Derived.Test.YtagccbpjpcnmeaaGreatDoorQMay
set_option linter.unusedVariables false
set_option linter.unusedSimpArgs false
namespace Go.Proofs.YtagccbpjpcnmeaaGreatDoor
open Go Go.RowKit

/-- A term, its parts turned by a map. -/
def turnT (l : List Int) (t : TermD) : TermD := ⟨t.kind, t.n, l.getD t.a.toNat 0, l.getD t.b.toNat 0⟩
def acF (st : List Int × List TermD) (t : TermD) : List Int × List TermD := (st.1 ++ [makeN st.2 (turnT st.1 t)], makeL st.2 (turnT st.1 t))
/-- The map of the first k terms, and the other store behind them. -/
def acS (L M : List TermD) (k : Nat) : List Int × List TermD := (L.take k).foldl acF ([0], M)

theorem acS_zero (L M : List TermD) : acS L M 0 = ([0], M) := rfl
theorem acS_succ {L M : List TermD} {k : Nat} {t : TermD} (h : L[k]? = some t) : acS L M (k + 1) = acF (acS L M k) t := by
  unfold acS
  rw [List.take_add_one, h, List.foldl_append]
  rfl

structure AcOK (M : List TermD) (k : Nat) (l : List Int) (M' : List TermD) : Prop where
  len : l.length = k + 1
  good : Good M'
  may : AllMay M'
  size : M'.length ≤ M.length + k
  zero : l.getD 0 0 = 0
  vals : ∀ i, 1 ≤ i → i ≤ k → thereD M'.length (l.getD i 0) = true
  pre : M <+: M'

theorem AcOK.at {M : List TermD} {k : Nat} {l : List Int} {M' : List TermD} (h : AcOK M k l M') {m : Nat} {x : Int} (hx : x = 0 ∨ thereD m x = true) (hk : x ≤ k) : (x = 0 ∧ l.getD x.toNat 0 = 0) ∨ (thereD m x = true ∧ thereD M'.length (l.getD x.toNat 0) = true) := by
  rcases hx with rfl | hx
  · exact .inl ⟨rfl, h.zero⟩
  · have := there_bounds hx
    exact .inr ⟨hx, h.vals _ (by omega) (by omega)⟩

theorem turn_may {m m' : Nat} {l : List Int} {t : TermD} (h : mayD m t = true) (ha : (t.a = 0 ∧ l.getD t.a.toNat 0 = 0) ∨ (thereD m t.a = true ∧ thereD m' (l.getD t.a.toNat 0) = true)) (hb : (t.b = 0 ∧ l.getD t.b.toNat 0 = 0) ∨ (thereD m t.b = true ∧ thereD m' (l.getD t.b.toNat 0) = true)) : mayD m' (turnT l t) = true := by
  have no : ∀ n, thereD n 0 = false := fun n => by simp [thereD]
  have ha0 : t.a = 0 → l.getD t.a.toNat 0 = 0 := fun e => by
    rcases ha with h1 | h1
    · exact h1.2
    · rw [e, no] at h1; cases h1.1
  have hb0 : t.b = 0 → l.getD t.b.toNat 0 = 0 := fun e => by
    rcases hb with h1 | h1
    · exact h1.2
    · rw [e, no] at h1; cases h1.1
  have hat : thereD m t.a = true → thereD m' (l.getD t.a.toNat 0) = true := fun e => by
    rcases ha with h1 | h1
    · rw [h1.1, no] at e; cases e
    · exact h1.2
  have hbt : thereD m t.b = true → thereD m' (l.getD t.b.toNat 0) = true := fun e => by
    rcases hb with h1 | h1
    · rw [h1.1, no] at e; cases e
    · exact h1.2
  generalize hla : l.getD t.a.toNat 0 = la at *
  generalize hlb : l.getD t.b.toNat 0 = lb at *
  unfold turnT
  rw [hla, hlb]
  unfold mayD at h ⊢
  simp only at h ⊢
  split at h
  · rename_i e; rw [if_pos e]
    simp only [Bool.and_eq_true, decide_eq_true_eq] at h ⊢
    exact ⟨⟨h.1.1, ha0 h.1.2⟩, hb0 h.2⟩
  · rename_i e1; rw [if_neg e1]
    split at h
    · rename_i e; rw [if_pos e]
      simp only [Bool.and_eq_true, decide_eq_true_eq] at h ⊢
      exact ⟨ha0 h.1, hb0 h.2⟩
    · rename_i e2; rw [if_neg e2]
      split at h
      · rename_i e; rw [if_pos e]
        simp only [Bool.and_eq_true] at h ⊢
        exact ⟨⟨h.1.1, hat h.1.2⟩, hbt h.2⟩
      · rename_i e3; rw [if_neg e3]
        split at h
        · rename_i e; rw [if_pos e]
          simp only [Bool.and_eq_true, Bool.or_eq_true, decide_eq_true_eq] at h ⊢
          exact ⟨⟨h.1.1, hat h.1.2⟩, h.2.imp hbt hb0⟩
        · rename_i e4; rw [if_neg e4]
          split at h
          · rename_i e; rw [if_pos e]
            simp only [Bool.and_eq_true, decide_eq_true_eq] at h ⊢
            exact ⟨⟨h.1.1, hat h.1.2⟩, hb0 h.2⟩
          · cases h

theorem may_zero {m : Nat} {t : TermD} (h : mayD m t = true) : (t.a = 0 ∨ thereD m t.a = true) ∧ (t.b = 0 ∨ thereD m t.b = true) := by
  unfold mayD at h
  split at h
  · simp only [Bool.and_eq_true, decide_eq_true_eq] at h; exact ⟨.inl h.1.2, .inl h.2⟩
  · split at h
    · simp only [Bool.and_eq_true, decide_eq_true_eq] at h; exact ⟨.inl h.1, .inl h.2⟩
    · split at h
      · simp only [Bool.and_eq_true] at h; exact ⟨.inr h.1.2, .inr h.2⟩
      · split at h
        · simp only [Bool.and_eq_true, Bool.or_eq_true, decide_eq_true_eq] at h
          exact ⟨.inr h.1.2, h.2.elim .inr .inl⟩
        · split at h
          · simp only [Bool.and_eq_true, decide_eq_true_eq] at h
            exact ⟨.inr h.1.2, .inl h.2⟩
          · cases h

theorem AcOK.turn {M : List TermD} {k : Nat} {l : List Int} {M' : List TermD} (h : AcOK M k l M') {m : Nat} {t : TermD} (ht : t.ok) (hm : mayD m t = true) (ha : t.a ≤ k) (hb : t.b ≤ k) (hl : M.length + k < 1048576) :
    mayD M'.length (turnT l t) = true ∧ (turnT l t).ok := by
  obtain ⟨z1, z2⟩ := may_zero hm
  have y1 := h.at z1 ha
  have y2 := h.at z2 hb
  have hs := h.size
  refine ⟨turn_may hm y1 y2, ht.1, ht.2.1, ?_, ?_⟩
  · show i64ok (l.getD t.a.toNat 0)
    rcases y1 with y | y
    · rw [y.2]; simp [i64ok]
    · exact there_i64 y.2 (by omega)
  · show i64ok (l.getD t.b.toNat 0)
    rcases y2 with y | y
    · rw [y.2]; simp [i64ok]
    · exact there_i64 y.2 (by omega)

theorem AcOK.step {M : List TermD} {k : Nat} {l : List Int} {M' : List TermD} (h : AcOK M k l M') {m : Nat} {t : TermD} (ht : t.ok) (hm : mayD m t = true) (ha : t.a ≤ k) (hb : t.b ≤ k) (hl : M.length + k < 1048576) :
    AcOK M (k + 1) (l ++ [makeN M' (turnT l t)]) (makeL M' (turnT l t)) := by
  obtain ⟨h1, h2⟩ := h.turn ht hm ha hb hl
  have hs := h.size
  have hlen := makeL_len M' (turnT l t)
  have hmk := make_ok h1 (by omega)
  refine ⟨by rw [List.length_append, h.len]; rfl, h.good.make h2, h.may.make _, by omega, ?_, fun i h3 h4 => ?_, h.pre.trans (makeL_pre _ _)⟩
  · have h0 := h.zero
    have := h.len
    rw [List.getD_eq_getElem?_getD] at h0 ⊢
    rw [List.getElem?_append_left (by omega)]
    exact h0
  · by_cases hi : i ≤ k
    · have := h.vals i h3 hi
      rw [List.getD_eq_getElem?_getD] at this ⊢
      rw [List.getElem?_append_left (by rw [h.len]; omega)]
      exact there_mono this hlen.1
    · obtain rfl : i = k + 1 := by omega
      rw [List.getD_eq_getElem?_getD, List.getElem?_append_right (by rw [h.len]; omega), h.len]
      simpa using hmk.2

theorem acS_ok {L M : List TermD} (hG : Good L) (hM : AllMay L) (hG' : Good M) (hM' : AllMay M) (hl : M.length + L.length < 1048576) : ∀ k, k ≤ L.length → AcOK M k (acS L M k).1 (acS L M k).2
  | 0, _ => by
    rw [acS_zero]
    exact ⟨rfl, hG', hM', by simp, rfl, fun i h1 h2 => by omega, List.prefix_refl _⟩
  | k + 1, hk => by
    have ih := acS_ok hG hM hG' hM' hl k (by omega)
    have hLk : L[k]? = some (L[k]'(by omega)) := List.getElem?_eq_getElem (by omega)
    rw [acS_succ hLk]
    have hp := hG.parts k _ hLk
    exact ih.step (hG.ok _ (List.mem_of_getElem? hLk)) (hM _ (List.mem_of_getElem? hLk)) hp.1.2 hp.2.2 (by omega)

/-- What the map says of a term. -/
theorem acS_get {L M : List TermD} {t : TermD} : ∀ (n k : Nat), L[k]? = some t → (acS L M k).1.length = k + 1 → (∀ j, j ≤ n → (acS L M (k + 1 + j)).1.length = k + 1 + j + 1 ∧ k + 1 + j ≤ L.length) →
    (acS L M (k + 1 + n)).1.getD (k + 1) 0 = makeN (acS L M k).2 (turnT (acS L M k).1 t)
  | 0, k, h, hlen, _ => by
    rw [Nat.add_zero, acS_succ h]
    unfold acF
    rw [List.getD_eq_getElem?_getD, List.getElem?_append_right (by omega), hlen]
    simp
  | n + 1, k, h, hlen, hall => by
    have ih := acS_get n k h hlen (fun j hj => hall j (by omega))
    obtain ⟨h1, h2⟩ := hall (n + 1) (Nat.le_refl _)
    obtain ⟨h3, _⟩ := hall n (by omega)
    have hL : L[k + 1 + n]? = some (L[k + 1 + n]'(by omega)) := List.getElem?_eq_getElem (by omega)
    rw [show k + 1 + (n + 1) = k + 1 + n + 1 by omega, acS_succ hL]
    unfold acF
    rw [List.getD_eq_getElem?_getD, List.getElem?_append_left (by omega), ← List.getD_eq_getElem?_getD]
    exact ih

/-- Under way. -/
structure AcIn (s r : Nat) (L : List TermD) (F G : Nat → Prop) (w : World) (mp : Nat) (l : List Int) (M : List TermD) (wr : World) (v : Value) (G' : Nat → Prop) : Prop where
  row : wr.heap[mp]? = some (.cells #[v] 127 (0, 0))
  own : OwnI v l wr
  ps : ProgStore wr s F L
  rs : RefStore wr r G' M
  ext : Ext G G' w wr
  turned : Turned G w wr
  new : w.heap.size ≤ mp ∧ ¬ F mp ∧ ¬ G' mp
  far : ∀ g, v.ownBlock = some g → w.heap.size ≤ g ∧ g ≠ mp ∧ ¬ G' g
  ap : ∀ x, F x → ¬ G' x

def AcRel (s r : Nat) (L M0 : List TermD) (F G : Nat → Prop) (w : World) (mp : Nat) (i : Value) (wr : World) : Prop :=
  ∃ k v G', k ≤ L.length ∧ i = .int .i64 ((k : Int) + 1) ∧ AcIn s r L F G w mp (acS L M0 k).1 (acS L M0 k).2 wr v G'

/-- A map in memory. -/
def MapOf (w : World) (mp : Nat) (l : List Int) (F : Nat → Prop) : Prop := ∃ v, w.heap[mp]? = some (.cells #[v] 127 (0, 0)) ∧ OwnI v l w ∧ (∀ g, v.ownBlock = some g → g ≠ mp ∧ F g) ∧ F mp

def AcPost (L M0 : List TermD) (G : Nat → Prop) (w : World) (e : Ending) (w' : World) : Prop :=
  ∃ mp, e = .returned (.tuple #[.pointer (some ⟨mp, 0, none⟩), .bool true]) ∧ MapOf w' mp (acS L M0 L.length).1 (fun k => w.heap.size ≤ k ∧ k < w'.heap.size) ∧ Turned G w w'

/-- What a round reads of the map. -/
theorem ac_read {s r : Nat} {L : List TermD} {F G : Nat → Prop} {w wr : World} {mp k : Nat} {l : List Int} {M : List TermD} {v : Value} {G' : Nat → Prop} (h : AcIn s r L F G w mp l M wr v G') (hl : l.length = k + 1) :
    ∃ g c, v = .slice (some ⟨g, 0, none⟩) (k + 1) c ∧ g < wr.heap.size ∧ wr.cell? ⟨mp, 0, none⟩ = some v ∧ ∀ i : Nat, i < k + 1 → wr.cell? ⟨g, i, none⟩ = some (.int .i64 (l.getD i 0)) := by
  rcases h.own.2 with ⟨_, h2⟩ | ⟨g, cap, cur, h1, _, hg, h4, _⟩
  · omega
  · rw [hl] at h1
    refine ⟨g, cap, h1, (Array.getElem?_eq_some_iff.1 hg).1, (cell_row h.row 0).trans rfl, fun i hi => ?_⟩
    have hown := h.own
    rw [h1] at hown
    obtain ⟨b, o, e, hc⟩ := ownI_at hown i (by omega)
    obtain ⟨rfl, rfl⟩ : g = b ∧ 0 = o := by simpa using e
    rw [Nat.zero_add] at hc
    exact hc

theorem AcIn.new' {s r : Nat} {L : List TermD} {F G : Nat → Prop} {w wr w1 : World} {mp : Nat} {l : List Int} {M : List TermD} {v : Value} {G' : Nat → Prop} (h : AcIn s r L F G w mp l M wr v G') (hb : Below wr.heap.size wr w1) : AcIn s r L F G w mp l M w1 v G' := by
  have hT : Turned (fun _ => False) wr w1 := Turned.new _ hb
  obtain ⟨e1, e2⟩ := foot_trans h.ext h.turned (Ext.refl G' wr w1) (Turned.new G' hb)
  exact ⟨(hb.block mp (Array.getElem?_eq_some_iff.1 h.row).1).trans h.row, ownI_kept h.own hT (fun _ _ h => h), h.ps.new hb, h.rs.new hb, e1, e2, h.new, h.far, h.ap⟩

theorem AcIn.ref {s r : Nat} {L : List TermD} {F G : Nat → Prop} {w wr w1 : World} {mp : Nat} {l : List Int} {M M2 : List TermD} {v : Value} {G' G'' : Nat → Prop} (h : AcIn s r L F G w mp l M wr v G') (hx : Ext G' G'' wr w1) (hs : RefStore w1 r G'' M2) (hT : Turned G' wr w1) : AcIn s r L F G w mp l M2 w1 v G'' := by
  obtain ⟨e1, e2⟩ := foot_trans h.ext h.turned hx hT
  have hmp := (Array.getElem?_eq_some_iff.1 h.row).1
  have hnot : ∀ x, x < wr.heap.size → ¬ G' x → ¬ G'' x := fun x hlt hn hg => by
    rcases hx x hg with h1 | h1
    · exact hn h1
    · omega
  exact ⟨(hT.block mp hmp h.new.2.2).trans h.row, ownI_kept h.own hT (fun g hg => (h.far g hg).2.2), h.ps.kept hT (fun k hk hg => h.ap k hk hg), hs, e1, e2, ⟨h.new.1, h.new.2.1, hnot mp hmp h.new.2.2⟩,
    fun g hg => ⟨(h.far g hg).1, (h.far g hg).2.1, hnot g (ownI_lt h.own hg) (h.far g hg).2.2⟩, fun x hx' => hnot x (h.ps.lt x hx') (h.ap x hx')⟩

/-- One number more. -/
theorem ac_step {s r : Nat} {L : List TermD} {F G : Nat → Prop} {w wr w3 w5 : World} {mp k g c : Nat} {l l2 : List Int} {M : List TermD} {v : Value} {G' : Nat → Prop} (h : AcIn s r L F G w mp l M wr v G') (hFw : ∀ x, F x → x < w.heap.size) (hb : Below wr.heap.size wr w3)
    (hown : OwnI (.slice (some ⟨g, 0, none⟩) (k + 1 + 1) c) l2 w5) (hgrow : w3.grownBy w5 v.ownBlock) (hat : v.ownBlock = some g ∨ g = w3.heap.size) :
    AcIn s r L F G w mp l2 M (w5.setCell ⟨mp, 0, none⟩ (.slice (some ⟨g, 0, none⟩) (k + 1 + 1) c)) (.slice (some ⟨g, 0, none⟩) (k + 1 + 1) c) G' := by
  have h3 := h.new' hb
  have hmp := (Array.getElem?_eq_some_iff.1 h3.row).1
  have hvl : ∀ x, v.ownBlock = some x → x < w3.heap.size := fun x hx => ownI_lt h3.own hx
  have hgmp : g ≠ mp := by
    rcases hat with e | e
    · exact (h.far g e).2.1
    · omega
  have hgw : w.heap.size ≤ g := by
    rcases hat with e | e
    · exact (h.far g e).1
    · have := h3.turned.size; omega
  have hgG : ¬ G' g := by
    rcases hat with e | e
    · exact (h.far g e).2.2
    · intro hg; have := h3.rs.lt g hg; omega
  have hT : Turned (fun x => v.ownBlock = some x ∨ x = mp) w3 (w5.setCell ⟨mp, 0, none⟩ (.slice (some ⟨g, 0, none⟩) (k + 1 + 1) c)) :=
    (((Turned.refl _ w3).grown hgrow (fun _ _ e => .inl e)).setCell (fun _ => .inr rfl) _)
  have hr5 := (hgrow.block mp hmp (fun e => (h.far mp e.symm).2.1 rfl)).trans h3.row
  refine ⟨row_setCell hr5 0 _, ownsRow_setCell_other hown (by simp [Value.ownBlock, hgmp]) _, h3.ps.kept hT (fun x hx e => ?_), h3.rs.kept hT (fun x hx e => ?_), h3.ext.wide hT.size, h3.turned.trans hT (fun x hlt e => ?_), h.new, fun g' hg' => ?_, h.ap⟩
  · rcases e with e | e
    · have := (h.far x e).1; have := hFw x hx; omega
    · subst e; exact h.new.2.1 hx
  · rcases e with e | e
    · exact (h.far x e).2.2 hx
    · subst e; exact h.new.2.2 hx
  · rcases e with e | e
    · have := (h.far x e).1; omega
    · subst e; have := h.new.1; omega
  · obtain rfl : g = g' := by simpa [Value.ownBlock] using hg'
    exact ⟨hgw, hgmp, hgG⟩
set_option maxRecDepth 100000 in
set_option maxHeartbeats 3200000 in
theorem across_gen (s r : Nat) (L M0 : List TermD) (F G : Nat → Prop) (hG : Good L) (hM : AllMay L) (hG0 : Good M0) (hM0 : AllMay M0) (hl : L.length ≤ 10000) (hl0 : M0.length ≤ 10000) (w : World) (hs : ProgStore w s F L) (hr : RefStore w r G M0) (hap : ∀ x, F x → ¬ G x) :
    Calls Tryz.prog 17 #[.pointer (some ⟨s, 0, none⟩), .pointer (some ⟨r, 0, none⟩)] w (AcPost L M0 G w) := by
  obtain ⟨i0, hi0, hz0, hz1, hz2⟩ := info_parts infoI
  have hFw := hs.lt
  have hGw := hr.lt
  have hst : AcIn s r L F G w (w.heap.size + 1) [0] M0 ((w.alloc (.cells #[.int .i64 0] 3)).alloc (.cells #[.slice (some ⟨w.heap.size, 0, none⟩) 1 1] 127)) (.slice (some ⟨w.heap.size, 0, none⟩) 1 1) G := by
    have hb2 := ((Below.refl w.heap.size w).alloc (Nat.le_refl _) (.cells #[.int .i64 0] 3)).alloc (by simp) (.cells #[.slice (some ⟨w.heap.size, 0, none⟩) 1 1] 127)
    have h := row_alloc (w := w.alloc (.cells #[.int .i64 0] 3)) #[.slice (some ⟨w.heap.size, 0, none⟩) 1 1] 127 (0, 0)
    refine ⟨by simpa using h, ?_, hs.new hb2, hr.new hb2, Ext.refl _ _ _, Turned.new G hb2, ⟨by omega, fun hf => ?_, fun hf => ?_⟩, fun g hg => ?_, hap⟩
    · exact ownI_kept (ownI_one w 0) (Turned.new (fun _ => False) ((Below.refl _ _).alloc (Nat.le_refl _) _)) (fun _ _ h => h)
    · have := hFw _ hf; omega
    · have := hGw _ hf; omega
    · obtain rfl : w.heap.size = g := by simpa [Value.ownBlock] using hg
      exact ⟨Nat.le_refl _, by omega, fun hf => by have := hGw _ hf; omega⟩
  have Hst := Lib.hid hst; clear hst
  have HFw := Lib.hid hFw; clear hFw
  have HG := Lib.hid hG; clear hG
  have HM := Lib.hid hM; clear hM
  have Hok := Lib.hid (acS_ok HG.out HM.out hG0 hM0 (by omega)); clear hG0 hM0
  have hlI : (L.length : Int) ≤ 10000 := by omega
  clear hs hr hap hGw
  go_enter Tryz.func17, Tryz.ntmps17
  go_wp2_with (go_at_call 10; refine (slen_any s F L _ Hst.out.ps).mono ?_; rintro e wx ⟨rfl, hwx⟩; subst wx)
  obtain ⟨mp, hmp⟩ : ∃ mp, mp = w.heap.size + 1 := ⟨_, rfl⟩
  rw [← hmp] at Hst ⊢
  have Hmp := Lib.hid hmp; clear hmp
  go_loopw [7] (fun i wr => AcRel s r L M0 F G w mp i wr) (fun i _ => L.length + 1 - (intOf i).toNat)
  case atStart => exact ⟨0, _, G, Nat.zero_le _, rfl, Hst.out⟩
  case round =>
    obtain ⟨k, v, G', hk, rfl, hin⟩ := hrel
    have Hin := Lib.hid hin; clear hin
    by_cases hlt : k < L.length
    · have hget := sget_any s F L ((k : Int) + 1) wr Hin.out.ps (by omega)
      have hth : thereD L.length ((k : Int) + 1) = true := by unfold thereD; simp; omega
      have hgt : getT L ((k : Int) + 1) = L.getD k zeroT := by unfold getT; rw [hth]; simp
      rw [hgt, hth] at hget
      have hLk := getD_get hlt
      have hparts := HG.out.parts k _ hLk
      have hok := HG.out.ok _ (List.mem_of_getElem? hLk)
      have hmay : mayD L.length (L.getD k zeroT) = true := HM.out _ (List.mem_of_getElem? hLk)
      have hac := Hok.out k hk
      have htu := hac.turn hok hmay hparts.1.2 hparts.2.2 (by omega)
      have hsu := Lib.hid (acS_succ (M := M0) hLk)
      have hlen := hac.len
      have hgood := hac.good
      have hmsz := hac.size
      clear hac
      generalize L.getD k zeroT = t at hget hLk hparts hok hmay htu hsu
      generalize acS L M0 k = st at Hin htu hsu hlen hgood hmsz
      obtain ⟨ml, M⟩ := st
      dsimp only at hlen hgood hmsz htu Hin
      obtain ⟨kd, tn, ta, tb⟩ := t
      simp only at hparts
      obtain ⟨an, rfl⟩ : ∃ an : Nat, ta = an := ⟨ta.toNat, by omega⟩
      obtain ⟨bn, rfl⟩ : ∃ bn : Nat, tb = bn := ⟨tb.toNat, by omega⟩
      have han : an ≤ k := by omega
      have hbn : bn ≤ k := by omega
      have m2 := (make_ok htu.1 (by omega)).1
      have hmk : ∀ W, RefStore W r G' M → _ := fun W hW => rmake_any r G' M _ htu.2 hgood (by omega) W hW
      unfold RMakePost at hmk
      rw [m2] at hmk
      obtain ⟨la, hla⟩ : ∃ la, la = ml.getD an 0 := ⟨_, rfl⟩
      obtain ⟨lb, hlb⟩ : ∃ lb, lb = ml.getD bn 0 := ⟨_, rfl⟩
      have hsu1 : (acS L M0 (k + 1)).1 = ml ++ [makeN M ⟨kd, tn, ml.getD an 0, ml.getD bn 0⟩] := congrArg Prod.fst hsu.out
      have hsu2 : (acS L M0 (k + 1)).2 = makeL M ⟨kd, tn, ml.getD an 0, ml.getD bn 0⟩ := congrArg Prod.snd hsu.out
      have hte : turnT ml ⟨kd, tn, an, bn⟩ = ⟨kd, tn, ml.getD an 0, ml.getD bn 0⟩ := rfl
      rw [hte] at hmk
      rw [← hla, ← hlb] at hmk hsu1 hsu2
      generalize makeN M ⟨kd, tn, la, lb⟩ = N at hmk hsu1
      generalize makeL M ⟨kd, tn, la, lb⟩ = M2 at hmk hsu2
      have Hsu1 := Lib.hid hsu1
      have Hsu2 := Lib.hid hsu2
      have Hla := Lib.hid hla
      have Hlb := Lib.hid hlb
      have Hlen := Lib.hid hlen
      have Hmk := Lib.hid hmk; clear hmk m2 hmay hok hLk hparts hth hgt htu hsu hgood hmsz hsu1 hsu2 hla hlb hte hlen
      unfold TermD.arr at hget
      have Hget := Lib.hid hget; clear hget
      have hkL : (k : Int) + 1 ≤ L.length := by omega
      have hanI : (an : Int) < (k : Int) + 1 := by omega
      have hbnI : (bn : Int) < (k : Int) + 1 := by omega
      have hkB : (k : Int) ≤ 10000 := by omega
      go_wp2_with (first
        | (go_at_call 10; refine (slen_any s F L _ Hin.out.ps).mono ?_; rintro e wx ⟨rfl, hwx⟩; subst wx)
        | (go_at_call 52; refine Hget.out.mono ?_; rintro e w1 ⟨rfl, hb1⟩; have Hb1 := Lib.hid hb1; clear hb1))
      have hba := Hb1.out.alloc Hb1.out.size (.cells #[.int .u8 kd, .int .i64 tn, .int .i64 an, .int .i64 bn] 95)
      have hrow := row_alloc (w := w1) #[.int .u8 kd, .int .i64 tn, .int .i64 an, .int .i64 bn] 95 (0, 0)
      obtain ⟨g, c, rfl, hgl, cm, cg⟩ := ac_read (Hin.out.new' hba) Hlen.out
      obtain ⟨g0, c0, e0, hgl0, _⟩ := ac_read Hin.out Hlen.out
      obtain ⟨rfl, rfl⟩ : g = g0 ∧ c = c0 := by simpa using e0
      have hmq : mp ≠ w1.heap.size := fun e => by
        have := (Array.getElem?_eq_some_iff.1 Hin.out.row).1
        have := Hb1.out.size
        omega
      have hgq : g ≠ w1.heap.size := fun e => by
        have := Hb1.out.size
        omega
      have ca := cg an (by omega)
      have cb := cg bn (by omega)
      rw [← Hla.out] at ca
      rw [← Hlb.out] at cb
      have Hqs := Lib.hid (show wr.heap.size ≤ w1.heap.size from Hb1.out.size)
      have Hba := Lib.hid hba; clear hba
      have Hrow := Lib.hid hrow; clear hrow
      have hqs : w1.heap.size < (w1.alloc (.cells #[.int .u8 kd, .int .i64 tn, .int .i64 an, .int .i64 bn] 95)).heap.size := by simp
      obtain ⟨q, hq⟩ : ∃ q, q = w1.heap.size := ⟨_, rfl⟩
      rw [← hq] at hmq hgq Hqs Hrow hqs ⊢
      clear hq cg e0 hgl0 hgl Hb1
      generalize w1.alloc (.cells #[.int .u8 kd, .int .i64 tn, .int .i64 an, .int .i64 bn] 95) = wa at cm ca cb Hba Hrow hqs ⊢
      have y0 : wa.cell? ⟨q, 0, none⟩ = some (.int .u8 kd) := (cell_row Hrow.out 0).trans rfl
      have y1 : wa.cell? ⟨q, 1, none⟩ = some (.int .i64 tn) := (cell_row Hrow.out 1).trans rfl
      have y2 : wa.cell? ⟨q, 2, none⟩ = some (.int .i64 an) := (cell_row Hrow.out 2).trans rfl
      have y3 : wa.cell? ⟨q, 3, none⟩ = some (.int .i64 bn) := (cell_row Hrow.out 3).trans rfl
      have z2 := free_row Hrow.out 2
      have z3 := free_row Hrow.out 3
      go_wp2_with fail
      go_region
      all_goals
        go_wp2_with fail
        go_region
      all_goals
        clear ca cb z2 z3
        go_wp2_with fail
        have hbx := ((Hba.out.setCell (p := ⟨q, 2, none⟩) Hqs.out (.int .i64 la)).setCell (p := ⟨q, 3, none⟩) Hqs.out (.int .i64 lb)).drew.drew
        have hin2 := Hin.out.new' hbx
        clear hbx y0 y1 y2 y3 cm Hba Hrow Hqs hqs hgq hmq
        generalize ((wa.setCell ⟨q, 2, none⟩ (.int .i64 la)).setCell ⟨q, 3, none⟩ (.int .i64 lb)).drew.drew = wb at hin2 ⊢
        refine (Hmk.out _ hin2.rs).mono ?_
        rintro e w2 ⟨rfl, G2, hx2, hs2, hT2⟩
        have hin3 := hin2.ref hx2 hs2 hT2
        clear hin2 hx2 hs2 hT2 Hmk Hin Hget
        have cm : w2.cell? ⟨mp, 0, none⟩ = some (.slice (some ⟨g, 0, none⟩) (k + 1) c) := (cell_row hin3.row 0).trans rfl
        have zm := free_row hin3.row 0
        have hml : mp < w2.heap.size := (Array.getElem?_eq_some_iff.1 hin3.row).1
        have hown3 : w2.ownsRow 0 3 1 (.slice (some ⟨g, 0, none⟩) (k + 1) c) (k + 1) (ml.map intV) := by
          have h3 := hin3.own
          unfold OwnI at h3
          rw [Hlen.out] at h3
          exact h3
        have Hin3 := Lib.hid hin3; clear hin3
        have Hown3 := Lib.hid hown3; clear hown3
        have Hmne := Lib.hid (show some mp ≠ (Value.slice (some ⟨g, 0, none⟩) (k + 1) c).ownBlock from fun e => (Hin3.out.far mp e.symm).2.1 rfl)
        go_wp2_with (at_builtin; refine wpList_append_lies _ rfl (.tmp 84) (.tmp 86) 36 rfl 0 3 i0 (.int .i64 0) 1 8 Tryz.underlying36 hi0 hz0 hz1 hz2 rfl (by decide) (.slice (some ⟨g, 0, none⟩) (k + 1) c) (k + 1) (ml.map intV) rfl (Hown3.out.alloc _) ⟨w2.heap.size, 0, none⟩ 1 1 [intV N] rfl rfl (cell_one_new _ _ _) (by intro u hu; simp [intV] at hu; rw [hu]; rfl) (by omega) (by unfold maxLen; omega) (by omega) (Nat.zero_le _) (w2.heap.size + 1) (by simp) ?_; intro g5 c5 w5 hown5 hgrow5 hat5 hlt5; have hr5 : w5.heap[mp]? = some (.cells #[.slice (some ⟨g, 0, none⟩) (k + 1) c] 127 (0, 0)) := (hgrow5.block mp (Nat.lt_of_lt_of_le hml (by simp)) Hmne.out).trans ((heap_alloc_old _ _ hml).trans Hin3.out.row); have z5 := free_row hr5 0; have d5 : w5.cell? ⟨mp, 0, none⟩ = some (.slice (some ⟨g, 0, none⟩) (k + 1) c) := (cell_row hr5 _).trans rfl; clear hr5 hlt5; have Hown5 := Lib.hid hown5; clear hown5; have Hgrow5 := Lib.hid hgrow5; clear hgrow5; have Hat5 := Lib.hid hat5; clear hat5)
        clear cm
        have hown6 : OwnI (.slice (some ⟨g5, 0, none⟩) (k + 1 + 1) c5) (ml ++ [N]) w5 := by
          unfold OwnI
          rw [List.length_append, List.map_append, Hlen.out]
          exact Hown5.out
        have hstep := ac_step (w3 := w2.alloc (.cells #[.int .i64 N] 3)) (g := g5) (c := c5) Hin3.out HFw.out ((Below.refl _ _).alloc (Nat.le_refl _) _) hown6 Hgrow5.out (by simpa using Hat5.out)
        rw [← Hsu1.out, ← Hsu2.out] at hstep
        refine ⟨⟨k + 1, _, G2, by omega, by go_num, hstep⟩, by simp [intOf]; omega⟩
    · obtain rfl : k = L.length := by omega
      have hkB : (L.length : Int) < (L.length : Int) + 1 := by omega
      go_wp2_with (go_at_call 10; refine (slen_any s F L _ Hin.out.ps).mono ?_; rintro e wx ⟨rfl, hwx⟩; subst wx)
      go_ret2
      exact ⟨mp, rfl, ⟨v, Hin.out.row, Hin.out.own, fun g hg => ⟨(Hin.out.far g hg).2.1, (Hin.out.far g hg).1, ownI_lt Hin.out.own hg⟩, Hin.out.new.1, (Array.getElem?_eq_some_iff.1 Hin.out.row).1⟩, Hin.out.turned⟩
end Go.Proofs.YtagccbpjpcnmeaaGreatDoor
