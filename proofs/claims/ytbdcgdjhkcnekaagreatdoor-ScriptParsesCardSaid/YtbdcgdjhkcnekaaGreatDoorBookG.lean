/-
  phratrylaw01's Book over two held lists: fillStep.
-/
import Derived.Test.YtbdcgdjhkcnekaaGreatDoorBookF
namespace Go.Proofs.YtbdcgdjhkcnekaaGreatDoor
open Go Go.RowKit

/-- A list of which the first j are marks. -/
def filled (l : List StepD) (j : Nat) (m : StepD) : List StepD := List.replicate j m ++ l.drop j
theorem filled_zero (l : List StepD) (m : StepD) : filled l 0 m = l := by simp [filled]
theorem filled_len {l : List StepD} {j : Nat} (m : StepD) (h : j ≤ l.length) : (filled l j m).length = l.length := by simp [filled]; omega
theorem filled_set {l : List StepD} {j : Nat} (m : StepD) (h : j < l.length) : (filled l j m).set j m = filled l (j + 1) m := by
  apply List.ext_getElem?
  intro i
  unfold filled
  rw [List.getElem?_set]
  by_cases e : j = i
  · subst e
    rw [if_pos rfl, if_pos (by simp; omega), List.getElem?_append_left (by simp)]
    simp
  · rw [if_neg e]
    by_cases hi : i < j
    · rw [List.getElem?_append_left (by simpa using hi), List.getElem?_append_left (by simp; omega)]
      simp [hi, Nat.lt_succ_of_lt hi]
    · rw [List.getElem?_append_right (by simp; omega), List.getElem?_append_right (by simp; omega)]
      simp only [List.length_replicate, List.getElem?_drop]
      congr 1
      omega
theorem filled_all (l : List StepD) (m : StepD) : filled l l.length m = List.replicate l.length m := by simp [filled]

/-- Held lists, the first k of them filled, j steps of the next one. -/
def FillAt (w0 : World) (B b g cap : Nat) (V : Nat → Value) (L : Nat → List StepD) (L' : Nat → List StepD) (wr : World) : Prop :=
  Held2 wr b g cap V L' ∧ Below B w0 wr ∧ ∀ i, i < 2 → (L' i).length = (L i).length

theorem grown_below {w w' : World} (h : Below w.heap.size w w') (row : Option Nat) : w.grownBy w' row := ⟨h.os, h.tape, h.output, h.size, fun k hk _ => h.block k hk⟩
theorem grown_set {w w' : World} {r : Nat} {a : Addr} (v : Value) (h : w.grownBy w' (some r)) (ha : a.block = r) : w.grownBy (w'.setCell a v) (some r) := by
  refine ⟨h.os, h.tape, h.output, by simpa [World.setCell] using h.size, fun k hk hne => ?_⟩
  rw [setCell_other _ _ (by intro e; exact hne (by rw [e, ha]))]
  exact h.block k hk hne

def FillIn (wr : World) (v : Value) (l : List StepD) (m : StepD) (i : Value) (wq : World) : Prop :=
  ∃ j : Nat, j ≤ l.length ∧ i = .int .i64 j ∧ OwnSteps 0 v (filled l j m) wq ∧ wr.grownBy wq v.ownBlock

def FillOut (w0 : World) (B b g cap : Nat) (V : Nat → Value) (L : Nat → List StepD) (i : Value) (wr : World) : Prop :=
  ∃ k : Nat, k ≤ 2 ∧ i = .int .i64 k ∧ FillAt w0 B b g cap V L (fun t => if t < k then List.replicate (L t).length (mark t) else L t) wr

set_option maxRecDepth 100000 in
set_option maxHeartbeats 1600000 in
theorem fillStep_any (B b g cap : Nat) (V : Nat → Value) (L : Nat → List StepD) (w : World) (h : Held2 w b g cap V L) (hB : ∀ i, i < 2 → ∀ k, (V i).ownBlock = some k → B ≤ k) (hap : ∀ k, (V 0).ownBlock = some k → (V 1).ownBlock ≠ some k)
    (hbg : ∀ i, i < 2 → ∀ k, (V i).ownBlock = some k → k ≠ b ∧ k ≠ g) (hBw : B ≤ w.heap.size) (hlen : ∀ i, i < 2 → (L i).length ≤ 4096) :
    Calls Tryz.prog 30 #[.pointer (some ⟨b, 0, none⟩)] w fun e w' => e = .returned (.tuple #[]) ∧ Held2 w' b g cap V (fun t => List.replicate (L t).length (mark t)) ∧ Below B w w' := by
  have c17 : w.cell? ⟨b, 17, none⟩ = some (.slice (some ⟨g, 0, none⟩) 2 cap) := by rw [cell_row h.book]; rfl
  have H := Lib.hid h; clear h
  have HB := Lib.hid hB; clear hB
  have Hap := Lib.hid hap; clear hap
  have Hbg := Lib.hid hbg; clear hbg
  have Hlen := Lib.hid hlen; clear hlen
  go_enter Tryz.func30, Tryz.ntmps30
  go_wp2
  go_loopw [10] (fun i wr => FillOut w B b g cap V L i wr) (fun i _ => 2 - (intOf i).toNat)
  case atStart => exact ⟨0, by omega, rfl, by simpa using H.out, Below.refl _ _, fun i hi => by simp⟩
  case round =>
    obtain ⟨k, hk, rfl, hh, hb, hll⟩ := hrel
    have Hb := Lib.hid hb; clear hb
    by_cases hlt : k < 2
    · obtain ⟨hc, hrow, hcs⟩ := hh.row
      obtain ⟨e0, e1⟩ := hcs k hlt
      have d0 : wr.cell? ⟨g, k * 2, none⟩ = some (V k) := by rw [cell_row hrow, e0]
      have d1 : wr.cell? ⟨g, k * 2 + 1, none⟩ = some (.int .i64 k) := by rw [cell_row hrow, e1]
      have b17 : wr.cell? ⟨b, 17, none⟩ = some (.slice (some ⟨g, 0, none⟩) 2 cap) := by rw [cell_row hh.book]; rfl
      have hown := hh.own k hlt
      simp only [Nat.lt_irrefl, if_false] at hown
      have hl := Hlen.out k hlt
      obtain ⟨a, c, hv, _⟩ := own_len hown
      have hfar := Hbg.out k hlt
      rw [hv] at d0 hown hfar
      have Hv := Lib.hid hv; clear hv
      have Hfar := Lib.hid hfar; clear hfar
      have Hown := Lib.hid hown; clear hown
      have Hh := Lib.hid hh; clear hh
      have Hll := Lib.hid hll; clear hll
      have hgl : g < wr.heap.size := (Array.getElem?_eq_some_iff.1 hrow).1
      obtain ⟨l, hlk⟩ : ∃ l, l = L k := ⟨_, rfl⟩
      rw [← hlk] at d0 hl Hown Hv Hfar
      have Hlk := Lib.hid hlk; clear hlk hrow hcs e0 e1
      go_wp2
      go_loopw [24] (fun i wq => FillIn wr (.slice a l.length c) l (mark k) i wq) (fun i _ => l.length - (intOf i).toNat)
      case atStart => exact ⟨0, by omega, rfl, by rw [filled_zero]; exact Hown.out, World.grownBy.refl _ _⟩
      case round =>
        obtain ⟨j, hj, rfl, ho, hg⟩ := hrel
        have Hg := Lib.hid hg; clear hg
        by_cases hjl : j < l.length
        · have hfl := filled_len (l := l) (mark k) hj
          obtain ⟨r, rfl⟩ : ∃ r, a = some ⟨r, 0, none⟩ := by
            rcases ho.2 with ⟨_, h0⟩ | ⟨r, cap', cur, hv', _⟩
            · omega
            · exact ⟨r, by injection hv'⟩
          obtain ⟨-, cur, hrow, -, hcl, -, hcs, -⟩ := own_arr ⟨0, 0, 0, 0, 0⟩ ho
          have Ho := Lib.hid ho; clear ho
          obtain ⟨hrb, hrg⟩ := Hfar.out r rfl
          have q0 := Hg.out.cell d0 (by simpa [Value.ownBlock] using Ne.symm hrg)
          have q1 := Hg.out.cell d1 (by simpa [Value.ownBlock] using Ne.symm hrg)
          have hj5 : j * 5 + 5 ≤ cur.size := by
            have : (j + 1) * 5 ≤ c * 5 := Nat.mul_le_mul_right 5 (by omega)
            omega
          have hcx : ∀ t, t < 5 → ∃ v, wr.cell? ⟨r, j * 5 + t, none⟩ = some v := fun t ht => by
            rw [cell_row hrow]
            exact ⟨_, Array.getElem?_eq_getElem (by omega)⟩
          obtain ⟨v0, s0⟩ := hcx 0 (by omega)
          obtain ⟨v1, s1⟩ := hcx 1 (by omega)
          obtain ⟨v2, s2⟩ := hcx 2 (by omega)
          obtain ⟨v3, s3⟩ := hcx 3 (by omega)
          obtain ⟨v4, s4⟩ := hcx 4 (by omega)
          rw [Nat.add_zero] at s0
          clear hcx
          have hrl : r < wr.heap.size := (Array.getElem?_eq_some_iff.1 hrow).1
          have hgl2 : g < wr.heap.size := Nat.lt_of_lt_of_le hgl Hg.out.size
          have Hrow := Lib.hid hrow; clear hrow
          clear d0 d1 b17
          have hji : (j : Int) < l.length := by omega
          have hj0 : (0 : Int) ≤ (j : Int) := by omega
          have Hfl := Lib.hid hfl; clear hfl
          have Hcs := Lib.hid hcs; clear hcs
          have Hcl := Lib.hid hcl; clear hcl
          clear hj5
          go_wp2_with fail
          go_region_with (go_at_call 139; refine (markStep_any k (by omega) (by omega) _).mono ?_; rintro e w3 ⟨rfl, hb3⟩; have q0' := (hb3.cell (p := ⟨g, k * 2, none⟩) hgl2).trans q0; have q1' := (hb3.cell (p := ⟨g, k * 2 + 1, none⟩) hgl2).trans q1; have Hrow3 := Lib.hid ((hb3.block r hrl).trans Hrow.out); have s0' := (hb3.cell (p := ⟨r, j * 5, none⟩) hrl).trans s0; have s1' := (hb3.cell (p := ⟨r, j * 5 + 1, none⟩) hrl).trans s1; have s2' := (hb3.cell (p := ⟨r, j * 5 + 2, none⟩) hrl).trans s2; have s3' := (hb3.cell (p := ⟨r, j * 5 + 3, none⟩) hrl).trans s3; have s4' := (hb3.cell (p := ⟨r, j * 5 + 4, none⟩) hrl).trans s4; have f0 := free_row Hrow3.out (j * 5); have f1 := free_row Hrow3.out (j * 5 + 1); have f2 := free_row Hrow3.out (j * 5 + 2); have f3 := free_row Hrow3.out (j * 5 + 3); have f4 := free_row Hrow3.out (j * 5 + 4); have Hb3 := Lib.hid hb3; clear hb3)
          all_goals
            clear q0' q1' s0' s1' s2' s3' s4' f0 f1 f2 f3 f4
            have hb3' : Below wr.heap.size wr w3 := ⟨Hb3.out.os, Hb3.out.tape, Hb3.out.output, Hb3.out.size, Hb3.out.block⟩
            have Hb3' := Lib.hid hb3'; clear hb3' Hb3
            go_wp2
            go_roundw
            case rel =>
              refine ⟨j + 1, by omega, by go_num, ?_, ?_⟩
              · have h := own_store (i := j) (mark k) (Ho.out.keep Hb3'.out) (by have := Hfl.out; omega)
                rw [filled_set _ hjl] at h
                exact h
              · exact grown_set _ (grown_set _ (grown_set _ (grown_set _ (grown_set _ (Hg.out.trans (grown_below Hb3'.out _)) rfl) rfl) rfl) rfl) rfl
            case measure => simp [intOf]; omega
        · obtain rfl : j = l.length := by omega
          rw [filled_all] at ho
          have Ho := Lib.hid ho; clear ho
          have hfarb : ∀ x, (x = b ∨ x = g) → some x ≠ (Value.slice a l.length c).ownBlock := fun x hx e => by
            obtain ⟨h1, h2⟩ := Hfar.out x e.symm
            rcases hx with rfl | rfl
            · exact h1 rfl
            · exact h2 rfl
          have Hfarb := Lib.hid hfarb; clear hfarb
          clear d0 d1 b17
          go_wp2
          refine ⟨⟨k + 1, by omega, by go_num, ⟨?_, ?_, fun i hi => ?_⟩, ?_, fun i hi => ?_⟩, by simp [intOf]; omega⟩
          · exact (Hg.out.block b (Array.getElem?_eq_some_iff.1 Hh.out.book).1 (Hfarb.out b (.inl rfl))).trans Hh.out.book
          · obtain ⟨hc, h1, h2⟩ := Hh.out.row
            exact ⟨hc, (Hg.out.block g hgl (Hfarb.out g (.inr rfl))).trans h1, h2⟩
          · by_cases hik : i = k
            · subst hik
              rw [if_pos (Nat.lt_succ_self _), Hv.out, ← Hlk.out]
              exact Ho.out
            · have e : (if i < k + 1 then List.replicate (L i).length (mark (i : Int)) else L i) = (if i < k then List.replicate (L i).length (mark (i : Int)) else L i) := by
                by_cases h : i < k
                · rw [if_pos h, if_pos (by omega)]
                · rw [if_neg h, if_neg (by omega)]
              rw [e]
              refine World.ownsRow.kept (Hh.out.own i hi) Hg.out ?_
              rw [← Hv.out]
              cases hvb : (V i).ownBlock with
              | none => exact .inl rfl
              | some x =>
                refine .inr ?_
                rw [← hvb]
                intro hx
                have : (i = 0 ∧ k = 1) ∨ (i = 1 ∧ k = 0) := by omega
                rcases this with ⟨rfl, rfl⟩ | ⟨rfl, rfl⟩
                · exact Hap.out x hvb (by rw [← hx, hvb])
                · exact Hap.out x (by rw [← hx, hvb]) hvb
          · exact Hb.out.grown Hg.out (Nat.le_trans hBw Hb.out.size) (fun x hx => HB.out k hlt x (by rw [Hv.out]; exact hx))
          · show (if i < k + 1 then List.replicate (L i).length (mark (i : Int)) else L i).length = (L i).length
            by_cases h : i < k + 1
            · rw [if_pos h]; simp
            · rw [if_neg h]
    · obtain rfl : k = 2 := by omega
      have Hh := Lib.hid hh; clear hh
      have Hll := Lib.hid hll; clear hll
      go_wp2
      go_end0
      refine ⟨rfl, ⟨Hh.out.book, Hh.out.row, fun i hi => ?_⟩, Hb.out⟩
      have := Hh.out.own i hi
      simpa [hi] using this
end Go.Proofs.YtbdcgdjhkcnekaaGreatDoor
