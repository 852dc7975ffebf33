/-
  phratrylaw01's Book over two held lists: one mark put behind a list (plain laws).
-/
import Derived.Test.YtbdcgdjhkcnekaaGreatDoorBookG
namespace Go.Proofs.YtbdcgdjhkcnekaaGreatDoor
open Go Go.RowKit

structure Far2 (B b g : Nat) (V : Nat → Value) : Prop where
  far : ∀ i, i < 2 → ∀ x, (V i).ownBlock = some x → B ≤ x ∧ x ≠ b ∧ x ≠ g
  apart : ∀ x, (V 0).ownBlock = some x → (V 1).ownBlock ≠ some x
  book : B ≤ b
  row : B ≤ g
  ne : b ≠ g

def upd {α : Type} (f : Nat → α) (k : Nat) (v : α) : Nat → α := fun i => if i = k then v else f i
theorem upd_same {α : Type} (f : Nat → α) (k : Nat) (v : α) : upd f k v k = v := if_pos rfl
theorem upd_other {α : Type} (f : Nat → α) {k i : Nat} (v : α) (h : i ≠ k) : upd f k v i = f i := if_neg h

theorem grow_round {B b g cap k g' c' : Nat} {V : Nat → Value} {L : Nat → List StepD} {wr w3 w5 : World} (H : Held2 wr b g cap V L) (F : Far2 B b g V) (hk : k < 2) (h3 : Below wr.heap.size wr w3) (hB : B ≤ wr.heap.size)
    (hown : OwnSteps 0 (.slice (some ⟨g', 0, none⟩) ((L k).length + 1) c') (L k ++ [mark k]) w5) (hgrow : w3.grownBy w5 (V k).ownBlock) (hat : (V k).ownBlock = some g' ∨ g' = w3.heap.size) :
    Held2 (w5.setCell ⟨g, k * 2, none⟩ (.slice (some ⟨g', 0, none⟩) ((L k).length + 1) c')) b g cap (upd V k (.slice (some ⟨g', 0, none⟩) ((L k).length + 1) c')) (upd L k (L k ++ [mark k])) ∧
    Far2 B b g (upd V k (.slice (some ⟨g', 0, none⟩) ((L k).length + 1) c')) ∧ Below B wr (w5.setCell ⟨g, k * 2, none⟩ (.slice (some ⟨g', 0, none⟩) ((L k).length + 1) c')) := by
  generalize hnv : (Value.slice (some ⟨g', 0, none⟩) ((L k).length + 1) c') = nv at *
  have hnb : nv.ownBlock = some g' := by rw [← hnv]; rfl
  obtain ⟨hc, hrow, hcs⟩ := H.row
  have hgl : g < wr.heap.size := (Array.getElem?_eq_some_iff.1 hrow).1
  have hbl : b < wr.heap.size := (Array.getElem?_eq_some_iff.1 H.book).1
  have hgall : wr.grownBy w5 (V k).ownBlock := (grown_below h3 _).trans hgrow
  have hbne : some b ≠ (V k).ownBlock := fun e => (F.far k hk b e.symm).2.1 rfl
  have hgne : some g ≠ (V k).ownBlock := fun e => (F.far k hk g e.symm).2.2 rfl
  have hb5 := (hgall.block b hbl hbne).trans H.book
  have hg5 := (hgall.block g hgl hgne).trans hrow
  have hg'g : g' ≠ g := by
    rcases hat with h | h
    · exact (F.far k hk g' h).2.2
    · have := h3.size; omega
  have hg'b : g' ≠ b := by
    rcases hat with h | h
    · exact (F.far k hk g' h).2.1
    · have := h3.size; omega
  have hg'B : B ≤ g' := by
    rcases hat with h | h
    · exact (F.far k hk g' h).1
    · have := h3.size; omega
  have hkl : k * 2 < hc.size := by
    have := (hcs k hk).1
    exact (Array.getElem?_eq_some_iff.1 this).1
  have hothers : ∀ i, i < 2 → i ≠ k → ∀ x, (V i).ownBlock = some x → some x ≠ (V k).ownBlock := fun i hi hne x hx e => by
    have : (i = 0 ∧ k = 1) ∨ (i = 1 ∧ k = 0) := by omega
    rcases this with ⟨rfl, rfl⟩ | ⟨rfl, rfl⟩
    · exact F.apart x hx e.symm
    · exact F.apart x e.symm hx
  have hlt : ∀ i, i < 2 → ∀ x, (V i).ownBlock = some x → x < wr.heap.size := fun i hi x hx => by
    rcases (H.own i hi).2 with ⟨e, _⟩ | ⟨r, cap', cur, e, _, hr, _⟩
    · rw [e] at hx; simp [Value.ownBlock] at hx
    · rw [e] at hx
      have : r = x := by simpa [Value.ownBlock] using hx
      subst this
      exact (Array.getElem?_eq_some_iff.1 hr).1
  refine ⟨⟨?_, ⟨hc.setIfInBounds (k * 2) nv, row_setCell hg5 _ _, fun i hi => ?_⟩, fun i hi => ?_⟩, ⟨fun i hi x hx => ?_, fun x hx hx1 => ?_, F.book, F.row, F.ne⟩, ?_⟩
  · show (w5.setCell ⟨g, k * 2, none⟩ nv).heap[b]? = _
    rw [setCell_other _ _ (show b ≠ (⟨g, k * 2, none⟩ : Addr).block from F.ne)]
    exact hb5
  · obtain ⟨e0, e1⟩ := hcs i hi
    by_cases e : i = k
    · subst e
      rw [upd_same]
      refine ⟨by simp [hkl], ?_⟩
      rw [Array.getElem?_setIfInBounds_ne (by omega)]
      exact e1
    · rw [upd_other _ _ e]
      refine ⟨?_, ?_⟩
      · rw [Array.getElem?_setIfInBounds_ne (by omega)]; exact e0
      · rw [Array.getElem?_setIfInBounds_ne (by omega)]; exact e1
  · by_cases e : i = k
    · subst e
      rw [upd_same, upd_same]
      exact ownsRow_setCell_other hown (by rw [hnb]; intro h; exact hg'g (by injection h)) _
    · rw [upd_other _ _ e, upd_other _ _ e]
      refine ownsRow_setCell_other (World.ownsRow.kept (H.own i hi) hgall ?_) ?_ _
      · cases hvb : (V i).ownBlock with
        | none => exact .inl rfl
        | some x => exact .inr (hothers i hi e x hvb)
      · intro h
        exact (F.far i hi g h).2.2 rfl
  · by_cases e : i = k
    · subst e
      rw [upd_same, hnb] at hx
      obtain rfl : g' = x := by injection hx
      exact ⟨hg'B, hg'b, hg'g⟩
    · rw [upd_other _ _ e] at hx
      exact F.far i hi x hx
  · have hcase : ∀ i, i < 2 → i ≠ k → (V i).ownBlock = some x → g' = x → False := fun i hi hne hv hx' => by
      rcases hat with h | h
      · exact hothers i hi hne x hv (by rw [h, hx'])
      · have := hlt i hi x hv
        have := h3.size
        omega
    have : k = 0 ∨ k = 1 := by omega
    rcases this with rfl | rfl
    · rw [upd_same, hnb] at hx
      rw [upd_other _ _ (by omega)] at hx1
      exact hcase 1 (by omega) (by omega) hx1 (by injection hx)
    · rw [upd_other _ _ (by omega)] at hx
      rw [upd_same, hnb] at hx1
      exact hcase 0 (by omega) (by omega) hx (by injection hx1)
  · exact ((h3.mono hB).grown hgrow (Nat.le_trans hB h3.size) (fun x hx => (F.far k hk x hx).1)).setCell F.row _

def GrowAt (w0 : World) (B b g cap : Nat) (L' : Nat → List StepD) (wr : World) : Prop :=
  ∃ V, Held2 wr b g cap V L' ∧ Far2 B b g V ∧ Below B w0 wr ∧ B ≤ wr.heap.size

def growL (L : Nat → List StepD) (k j : Nat) : Nat → List StepD := fun t => if t < k then L t ++ List.replicate 3 (mark t) else if t = k then L t ++ List.replicate j (mark t) else L t
theorem growL_zero (L : Nat → List StepD) : growL L 0 0 = L := by funext t; unfold growL; simp
theorem growL_three (L : Nat → List StepD) (k : Nat) : growL L k 3 = growL L (k + 1) 0 := by
  funext t
  unfold growL
  by_cases h : t < k
  · rw [if_pos h, if_pos (by omega)]
  · rw [if_neg h]
    by_cases e : t = k
    · rw [if_pos e, if_pos (by omega)]
    · rw [if_neg e, if_neg (by omega)]
      split <;> simp
theorem growL_next (L : Nat → List StepD) (k j : Nat) : upd (growL L k j) k (growL L k j k ++ [mark k]) = growL L k (j + 1) := by
  funext t
  by_cases e : t = k
  · subst e
    rw [upd_same]
    unfold growL
    simp [List.replicate_succ']
  · rw [upd_other _ _ e]
    unfold growL
    simp [e]
theorem growL_end (L : Nat → List StepD) (t : Nat) (h : t < 2) : growL L 2 0 t = L t ++ List.replicate 3 (mark t) := by unfold growL; simp [h]
theorem growL_len (L : Nat → List StepD) (k j t : Nat) (hj : j ≤ 3) (h : (L t).length ≤ 4096) : (growL L k j t).length ≤ 4099 := by
  unfold growL
  split
  · simp; omega
  · split
    · simp; omega
    · omega

theorem Held2.congr {w : World} {b g cap : Nat} {V : Nat → Value} {L L' : Nat → List StepD} (h : Held2 w b g cap V L) (e : ∀ i, i < 2 → L i = L' i) : Held2 w b g cap V L' :=
  ⟨h.book, h.row, fun i hi => by rw [← e i hi]; exact h.own i hi⟩
end Go.Proofs.YtbdcgdjhkcnekaaGreatDoor
