/-
  The reference's Text comes to the chapter's answer.
-/
import Derived.Test.YtmfecoejechdmaaDoorRefT
namespace Go.Proofs.YtmfecoejechdmaaDoor
open Go.RowKit

theorem lineD_len (s : StepD) (hs : s.ok) (h1 : 1 ≤ s.kind) (h20 : s.kind ≤ 20) : (lineD s).length ≤ 120 := by
  have h0 := word_len (s.kind.toNat - 1) (by omega)
  rw [show s.kind.toNat - 1 + 1 = s.kind.toNat by omega] at h0
  have ha := itoa_len hs.2.1.1 hs.2.1.2
  have hb := itoa_len hs.2.2.1.1 hs.2.2.1.2
  have hc := itoa_len hs.2.2.2.1.1 hs.2.2.2.1.2
  have hd := itoa_len hs.2.2.2.2.1 hs.2.2.2.2.2
  unfold lineD
  simp only [List.length_append, List.length_cons, List.length_nil]
  omega

def stepsL (n : Nat) (f : Nat → StepD) : List StepD := (List.range n).map f

theorem stepsL_len (n : Nat) (f : Nat → StepD) : (stepsL n f).length = n := by simp [stepsL]
theorem stepsL_drop {n k : Nat} (f : Nat → StepD) (h : k < n) : (stepsL n f).drop k = f k :: (stepsL n f).drop (k + 1) := by
  rw [List.drop_eq_getElem_cons (by rw [stepsL_len]; exact h)]
  simp [stepsL]
theorem stepsL_end (n : Nat) (f : Nat → StepD) : (stepsL n f).drop n = [] := List.drop_of_length_le (by rw [stepsL_len]; exact Nat.le_refl _)

def TxtRel (n : Nat) (f : Nat → StepD) (w : World) (s i : Value) (wr : World) : Prop :=
  ∃ (k : Nat) (acc : List UInt8), k ≤ n ∧ s = .string ⟨acc.toArray⟩ ∧ i = .int .i64 k ∧ acc.length ≤ 65536 ∧ textGo [] (stepsL n f) = textGo acc ((stepsL n f).drop k) ∧ Below w.heap.size w wr

theorem ba_append (x y : List UInt8) : ((⟨x.toArray⟩ : ByteArray) ++ ⟨y.toArray⟩) = ⟨(x ++ y).toArray⟩ := by
  apply ByteArray.ext
  rw [ByteArray.data_append]
  simp

theorem textGo_bad {acc : List UInt8} {s : StepD} {r : List StepD} (h : s.kind < 1 ∨ 20 < s.kind) : textGo acc (s :: r) = ([], 1) := by rw [textGo, if_pos h]
theorem textGo_long {acc : List UInt8} {s : StepD} {r : List StepD} (h : ¬ (s.kind < 1 ∨ 20 < s.kind)) (hl : 65536 < (acc ++ lineD s).length) : textGo acc (s :: r) = ([], 3) := by rw [textGo, if_neg h, if_pos hl]
theorem textGo_next {acc : List UInt8} {s : StepD} {r : List StepD} (h : ¬ (s.kind < 1 ∨ 20 < s.kind)) (hl : ¬ 65536 < (acc ++ lineD s).length) : textGo acc (s :: r) = textGo (acc ++ lineD s) r := by rw [textGo, if_neg h, if_neg hl]

theorem tuple_eq {a : ByteArray} {e : Int} {r : List UInt8 × Int} (h : r = (a.data.toList, e)) : Ending.returned (.tuple #[.string a, .int .i64 e]) = Ending.returned (.tuple #[.string ⟨r.1.toArray⟩, .int .i64 r.2]) := by
  subst h
  rfl

theorem refText_many (a : Option Addr) (n c : Nat) (f : Nat → StepD) (hn : n ≤ 9223372036854775807) (h : 2048 < n) (w : World) :
    Calls Tryd.prog 9 #[.slice a n c] w fun e w' => e = .returned (.tuple #[.string ⟨(textD (stepsL n f)).1.toArray⟩, .int .i64 (textD (stepsL n f)).2]) ∧ Below w.heap.size w w' := by
  have hfin : textD (stepsL n f) = ([], 3) := by unfold textD; rw [if_pos (by rw [stepsL_len]; exact h)]
  have Hfin := Lib.hid hfin; clear hfin
  go_enter Tryd.func9, Tryd.ntmps9
  go_wp2
  go_ret2
  exact ⟨tuple_eq Hfin.out, Below.refl _ _⟩

set_option maxRecDepth 100000 in
set_option maxHeartbeats 400000 in
theorem refText_few (a : Option Addr) (n c : Nat) (f : Nat → StepD) (hn : n ≤ 2048) (hok : ∀ i, i < n → (f i).ok) (w : World) (hs : Steps w a n f) :
    Calls Tryd.prog 9 #[.slice a n c] w fun e w' => e = .returned (.tuple #[.string ⟨(textD (stepsL n f)).1.toArray⟩, .int .i64 (textD (stepsL n f)).2]) ∧ Below w.heap.size w w' := by
  have hfin : textD (stepsL n f) = textGo [] (stepsL n f) := by unfold textD; rw [if_neg (by rw [stepsL_len]; omega)]
  have Hfin := Lib.hid hfin; clear hfin
  have Hs := Lib.hid hs; clear hs
  have Hok := Lib.hid hok; clear hok
  go_enter Tryd.func9, Tryd.ntmps9
  go_wp2
  go_loopw [4, 5] (fun s i wr => TxtRel n f w s i wr) (fun _ i _ => n - (intOf i).toNat)
  case atStart => exact ⟨0, [], Nat.zero_le _, rfl, rfl, by simp, rfl, Below.refl _ _⟩
  case round =>
    obtain ⟨k, acc, hk, rfl, rfl, hal, hgo, hb⟩ := hrel
    have Hgo := Lib.hid hgo; clear hgo
    have Hb := Lib.hid hb; clear hb
    by_cases hlt : k < n
    · have hdr := stepsL_drop f hlt
      have Hdr := Lib.hid hdr; clear hdr
      obtain ⟨b, o, rfl, hs⟩ := Hs.out.below Hb.out (Nat.le_refl _) k hlt
      have hokk := Hok.out k hlt
      have Hokk := Lib.hid hokk; clear hokk
      obtain ⟨c0, c1, c2, c3, c4⟩ := hs
      by_cases h1 : (f k).kind < 1
      · go_wp2
        go_ret2
        exact ⟨tuple_eq (by rw [Hfin.out, Hgo.out, Hdr.out, textGo_bad (.inl h1)]), Hb.out⟩
      · by_cases h20 : 20 < (f k).kind
        · go_wp2
          go_ret2
          exact ⟨tuple_eq (by rw [Hfin.out, Hgo.out, Hdr.out, textGo_bad (.inr h20)]), Hb.out⟩
        · have hll := lineD_len (f k) Hokk.out (by omega) (by omega)
          have hg : ¬ ((f k).kind < 1 ∨ 20 < (f k).kind) := by omega
          have Hg := Lib.hid hg; clear hg
          go_wp2_with (go_at_call 20; refine (line_any (f k) Hokk.out (by omega) (by omega) _).mono ?_; rintro e w1 ⟨rfl, hb1⟩; have Hb1 := Lib.hid hb1; clear hb1)
          · have hlong : 65536 < (acc.length : Int) + (lineD (f k)).length := by assumption
            go_ret2
            exact ⟨tuple_eq (by rw [Hfin.out, Hgo.out, Hdr.out, textGo_long Hg.out (by rw [List.length_append]; omega)]), Hb.out.trans (Hb1.out.mono Hb.out.size)⟩
          · have hshort : (acc.length : Int) + (lineD (f k)).length ≤ 65536 := by assumption
            have hsh : (acc ++ lineD (f k)).length ≤ 65536 := by rw [List.length_append]; omega
            exact ⟨⟨k + 1, acc ++ lineD (f k), by omega, by simp [ba_append], by go_num, hsh, by rw [Hgo.out, Hdr.out, textGo_next Hg.out (by omega)], Hb.out.trans (Hb1.out.mono Hb.out.size)⟩, by simp [intOf]; omega⟩
    · go_wp2
      go_ret2
      obtain rfl : k = n := by omega
      exact ⟨tuple_eq (by rw [Hfin.out, Hgo.out, stepsL_end, textGo]), Hb.out⟩

theorem refText_any (a : Option Addr) (n c : Nat) (f : Nat → StepD) (hn : n ≤ 9223372036854775807) (hok : ∀ i, i < n → (f i).ok) (w : World) (hs : Steps w a n f) :
    Calls Tryd.prog 9 #[.slice a n c] w fun e w' => e = .returned (.tuple #[.string ⟨(textD (stepsL n f)).1.toArray⟩, .int .i64 (textD (stepsL n f)).2]) ∧ Below w.heap.size w w' := by
  by_cases h : 2048 < n
  · exact refText_many a n c f hn h w
  · exact refText_few a n c f (by omega) hok w hs
end Go.Proofs.YtmfecoejechdmaaDoor
