/-
  script.Text comes to the chapter's answer.
-/
import Derived.Test.YtbdcgdjhkcnekaaGreatDoorEnv
import Derived.Test.YtbdcgdjhkcnekaaGreatDoorStepsL
namespace Go.Proofs.YtbdcgdjhkcnekaaGreatDoor
open Go.RowKit

theorem ba_size (l : List UInt8) : ByteArray.size ⟨l.toArray⟩ = l.length := by
  show l.toArray.size = _
  simp

theorem text_many (a : Option Addr) (n c : Nat) (f : Nat → StepD) (hn : n ≤ 9223372036854775807) (h : 2048 < n) (w : World) :
    Calls Tryz.prog 115 #[.slice a n c] w fun e w' => e = .returned (.tuple #[.string ⟨(textD (stepsL n f)).1.toArray⟩, .int .i64 (textD (stepsL n f)).2]) ∧ Below w.heap.size w w' := by
  have hfin : textD (stepsL n f) = ([], 3) := by unfold textD; rw [if_pos (by rw [stepsL_len]; exact h)]
  have Hfin := Lib.hid hfin; clear hfin
  go_enter Tryz.func115, Tryz.ntmps115
  go_wp2
  go_ret2
  exact ⟨tuple_eq Hfin.out, Below.refl _ _⟩

def PTextRel (n : Nat) (f : Nat → StepD) (w : World) (i : Value) (wr : World) : Prop :=
  ∃ (k : Nat) (acc : List UInt8), k ≤ n ∧ i = .int .i64 k ∧ acc.length ≤ 65536 ∧ textGo [] (stepsL n f) = textGo acc ((stepsL n f).drop k) ∧ Bld (w.heap.size + 1) acc wr ∧
    wr.heap[w.heap.size]? = some (.cells wordVals.toArray 9 (0, 0)) ∧ Below w.heap.size w wr

set_option maxRecDepth 100000 in
set_option maxHeartbeats 800000 in
theorem text_few (a : Option Addr) (n c : Nat) (f : Nat → StepD) (hn : n ≤ 2048) (hok : ∀ i, i < n → (f i).ok) (w : World) (he : Env w) (hs : Steps w a n f) :
    Calls Tryz.prog 115 #[.slice a n c] w fun e w' => e = .returned (.tuple #[.string ⟨(textD (stepsL n f)).1.toArray⟩, .int .i64 (textD (stepsL n f)).2]) ∧ Below w.heap.size w w' := by
  have hfin : textD (stepsL n f) = textGo [] (stepsL n f) := by unfold textD; rw [if_neg (by rw [stepsL_len]; omega)]
  have Hfin := Lib.hid hfin; clear hfin
  have Hs := Lib.hid hs; clear hs
  have Hok := Lib.hid hok; clear hok
  have Henv := Lib.hid he; clear he
  go_enter Tryz.func115, Tryz.ntmps115
  go_wp2_with (go_at_call 116; refine (fields_any _ Henv.out _ (by decide +kernel)).mono ?_; rintro e w1 ⟨rfl, rfl⟩)
  go_loopw [16] (fun i wr => PTextRel n f w i wr) (fun i _ => n - (intOf i).toNat)
  case atStart =>
    refine ⟨0, [], Nat.zero_le _, rfl, by simp, rfl, ?_, ?_, ?_⟩
    · have h := Lib.IsBuilderF.of (Lib.fresh_isBuilder 354 5 (w.alloc (.cells wordVals.toArray 9)))
      show Lib.IsBuilderF _ _ _ _ [] _
      simpa using h
    · rw [heap_alloc_old _ _ (by simp)]; exact row_alloc _ _ _
    · exact ((Below.refl _ _).alloc (Nat.le_refl _) _).alloc (by simp) _
  case round =>
    obtain ⟨k, acc, hk, rfl, hal, hgo, hbld, hrow, hb⟩ := hrel
    have Hgo := Lib.hid hgo; clear hgo
    have Hb := Lib.hid hb; clear hb
    have Hrow := Lib.hid hrow; clear hrow
    have Hbld := Lib.hid hbld; clear hbld
    by_cases hlt : k < n
    · have hdr := stepsL_drop f hlt
      have Hdr := Lib.hid hdr; clear hdr
      obtain ⟨b, o, rfl, hs⟩ := Hs.out.below Hb.out (Nat.le_refl _) k hlt
      have Hokk := Lib.hid (Hok.out k hlt)
      generalize f k = s at hs Hokk Hdr
      obtain ⟨kd, nd, sa, sb, sl⟩ := s
      obtain ⟨c0, c1, c2, c3, c4⟩ := hs
      simp only at c0 c1 c2 c3 c4
      have hkd0 : 0 ≤ kd := Hokk.out.1.1
      have hkd1 : kd ≤ 255 := Hokk.out.1.2
      by_cases h1 : kd < 1
      · go_wp2
        go_ret2
        exact ⟨tuple_eq (by rw [Hfin.out, Hgo.out, Hdr.out, textGo_bad (.inl h1)]), Hb.out.alloc Hb.out.size _⟩
      · by_cases h20 : 20 < kd
        · go_wp2
          go_ret2
          exact ⟨tuple_eq (by rw [Hfin.out, Hgo.out, Hdr.out, textGo_bad (.inr h20)]), Hb.out.alloc Hb.out.size _⟩
        · obtain ⟨kk, rfl⟩ : ∃ kk : Nat, kd = (kk : Int) + 1 := ⟨(kd - 1).toNat, by omega⟩
          have hkk : kk < 20 := by omega
          have hll := lineD_len _ Hokk.out (by simp only; omega) (by simp only; omega)
          have Hll := Lib.hid hll; clear hll
          have hg : ¬ ((⟨(kk : Int) + 1, nd, sa, sb, sl⟩ : StepD).kind < 1 ∨ 20 < (⟨(kk : Int) + 1, nd, sa, sb, sl⟩ : StepD).kind) := by simp only; omega
          have Hg := Lib.hid hg; clear hg
          have hwl := word_len kk hkk
          have hln := itoa_len Hokk.out.2.1.1 Hokk.out.2.1.2
          have hla := itoa_len Hokk.out.2.2.1.1 Hokk.out.2.2.1.2
          have hlb := itoa_len Hokk.out.2.2.2.1.1 Hokk.out.2.2.2.1.2
          have hlc := itoa_len Hokk.out.2.2.2.2.1 Hokk.out.2.2.2.2.2
          simp only at hln hla hlb hlc
          have hwr : w.heap.size < wr.heap.size := (Array.getElem?_eq_some_iff.1 Hrow.out).1
          have hbl : w.heap.size + 1 < wr.heap.size := Bld.lt Hbld.out
          have hcw : (wr.alloc (.cells #[.int .u8 ((kk : Int) + 1), .int .i64 nd, .int .i64 sa, .int .i64 sb, .int .i64 sl] 72)).cell? ⟨w.heap.size, kk, none⟩ = some (.string ⟨(word (kk + 1)).toArray⟩) := by
            rw [World.cell?_alloc_past _ _ _ hwr]
            exact word_cell hkk Hrow.out
          go_wp2_with fail
          refine (ws_any (w.heap.size + 1) acc _ _ (bld_grows Hbld.out ((Below.refl _ _).alloc (Nat.le_refl _) _)) ?_).mono ?_
          · rw [ba_size]; omega
          rintro e w1 ⟨rfl, hbld1, hkept1⟩
          have hbox1 : w1.heap[wr.heap.size]? = some (.cells #[.int .u8 ((kk : Int) + 1), .int .i64 nd, .int .i64 sa, .int .i64 sb, .int .i64 sl] 72 (0, 0)) := hkept1.row (row_alloc _ _ _) (by decide) (by omega)
          have hrow1 : w1.heap[w.heap.size]? = some (.cells wordVals.toArray 9 (0, 0)) := hkept1.row ((heap_alloc_old _ _ hwr).trans Hrow.out) (by decide) (by omega)
          have hb1 : Below w.heap.size w w1 := (Hb.out.alloc Hb.out.size _).trans (hkept1.1.mono (by omega))
          have d1 : w1.cell? ⟨wr.heap.size, 1, none⟩ = some (.int .i64 nd) := by rw [cell_row hbox1]; rfl
          have d2 : w1.cell? ⟨wr.heap.size, 2, none⟩ = some (.int .i64 sa) := by rw [cell_row hbox1]; rfl
          have d3 : w1.cell? ⟨wr.heap.size, 3, none⟩ = some (.int .i64 sb) := by rw [cell_row hbox1]; rfl
          have d4 : w1.cell? ⟨wr.heap.size, 4, none⟩ = some (.int .i64 sl) := by rw [cell_row hbox1]; rfl
          have Hbld1 := Lib.hid hbld1; clear hbld1
          have Hkept1 := Lib.hid hkept1; clear hkept1
          have Hrow1 := Lib.hid hrow1; clear hrow1
          have Hb1 := Lib.hid hb1; clear hb1
          clear hbox1 hcw
          have i0 : ∀ W, (Instr.index 84 (.agg #[.int .i64 nd, .int .i64 sa, .int .i64 sb, .int .i64 sl]) (.int .i64 0)).run Tryz.prog W = .ok (.int .i64 nd) W := fun _ => by kernel_rfl
          have i1 : ∀ W, (Instr.index 84 (.agg #[.int .i64 nd, .int .i64 sa, .int .i64 sb, .int .i64 sl]) (.int .i64 1)).run Tryz.prog W = .ok (.int .i64 sa) W := fun _ => by kernel_rfl
          have i2 : ∀ W, (Instr.index 84 (.agg #[.int .i64 nd, .int .i64 sa, .int .i64 sb, .int .i64 sl]) (.int .i64 2)).run Tryz.prog W = .ok (.int .i64 sb) W := fun _ => by kernel_rfl
          have i3 : ∀ W, (Instr.index 84 (.agg #[.int .i64 nd, .int .i64 sa, .int .i64 sb, .int .i64 sl]) (.int .i64 3)).run Tryz.prog W = .ok (.int .i64 sl) W := fun _ => by kernel_rfl
          go_wp2
          refine wp_loop_rounds 5 ?_
          obtain ⟨acc1, hacc1⟩ : ∃ a1, a1 = acc ++ word (kk + 1) := ⟨_, rfl⟩
          have Hbl1 : Hid (Bld (w.heap.size + 1) acc1 w1) := Lib.hid (by have h := Hbld1.out; rw [hacc1]; exact h)
          have hlen1 : acc1.length ≤ 65536 + 8 := by rw [hacc1, List.length_append]; omega
          have Hacc1 := Lib.hid hacc1; clear hacc1
          clear Hbld1
          rw [rounds_succ]
          go_wp2_with fail
          have Henv1 := Lib.hid (Henv.out.below Hb1.out Henv.out.size)
          refine (fmt_any nd Hokk.out.2.1.1 Hokk.out.2.1.2 _ Henv1.out).mono ?_
          rintro e w2 ⟨rfl, hg2⟩
          have Hb2 := Lib.hid (Hb1.out.trans (hg2.mono Hb1.out.size))
          have Hbl2 := Lib.hid (bld_grows Hbl1.out hg2)
          have Hrow2 := Lib.hid (row_grows hg2 Hrow1.out)
          clear hg2
          go_wp2_with fail
          refine (ws_any (w.heap.size + 1) _ _ _ Hbl2.out ?_).mono ?_
          · rw [ByteArray.size_append, ba_size (Lib.itoa nd)]; show _ + (1 + _) ≤ _; omega
          rintro e w3 ⟨rfl, hbld3, hkept3⟩
          have Hb3 := Lib.hid (Hb2.out.trans (hkept3.1.mono (by omega)))
          have Hrow3 := Lib.hid (hkept3.row Hrow2.out (by decide) (by omega))
          obtain ⟨acc3, hacc3⟩ : ∃ a1, a1 = acc1 ++ (32 :: Lib.itoa nd) := ⟨_, rfl⟩
          have Hbl3 : Hid (Bld (w.heap.size + 1) acc3 w3) := Lib.hid (by rw [hacc3]; have h := hbld3; rw [ByteArray.data_append] at h; simpa using h)
          have hlen3 : acc3.length ≤ 65536 + 8 + 22 := by rw [hacc3, List.length_append, List.length_cons]; omega
          have Hacc3 := Lib.hid hacc3; clear hacc3 hbld3 hkept3 Hbl1 Hbl2 Hrow1 Hrow2 Hb1 Hb2
          go_wp2
          rw [rounds_succ]
          go_wp2_with fail
          have Henv3 := Lib.hid (Henv.out.below Hb3.out Henv.out.size)
          refine (fmt_any sa Hokk.out.2.2.1.1 Hokk.out.2.2.1.2 _ Henv3.out).mono ?_
          rintro e w4 ⟨rfl, hg4⟩
          have Hb4 := Lib.hid (Hb3.out.trans (hg4.mono Hb3.out.size))
          have Hbl4 := Lib.hid (bld_grows Hbl3.out hg4)
          have Hrow4 := Lib.hid (row_grows hg4 Hrow3.out)
          clear hg4
          go_wp2_with fail
          refine (ws_any (w.heap.size + 1) _ _ _ Hbl4.out ?_).mono ?_
          · rw [ByteArray.size_append, ba_size (Lib.itoa sa)]; show _ + (1 + _) ≤ _; omega
          rintro e w5 ⟨rfl, hbld5, hkept5⟩
          have Hb5 := Lib.hid (Hb4.out.trans (hkept5.1.mono (by omega)))
          have Hrow5 := Lib.hid (hkept5.row Hrow4.out (by decide) (by omega))
          obtain ⟨acc5, hacc5⟩ : ∃ a1, a1 = acc3 ++ (32 :: Lib.itoa sa) := ⟨_, rfl⟩
          have Hbl5 : Hid (Bld (w.heap.size + 1) acc5 w5) := Lib.hid (by rw [hacc5]; have h := hbld5; rw [ByteArray.data_append] at h; simpa using h)
          have hlen5 : acc5.length ≤ 65536 + 8 + 44 := by rw [hacc5, List.length_append, List.length_cons]; omega
          have Hacc5 := Lib.hid hacc5; clear hacc5 hbld5 hkept5 Hbl3 Hbl4 Hrow3 Hrow4 Hb3 Hb4
          go_wp2
          rw [rounds_succ]
          go_wp2_with fail
          have Henv5 := Lib.hid (Henv.out.below Hb5.out Henv.out.size)
          refine (fmt_any sb Hokk.out.2.2.2.1.1 Hokk.out.2.2.2.1.2 _ Henv5.out).mono ?_
          rintro e w6 ⟨rfl, hg6⟩
          have Hb6 := Lib.hid (Hb5.out.trans (hg6.mono Hb5.out.size))
          have Hbl6 := Lib.hid (bld_grows Hbl5.out hg6)
          have Hrow6 := Lib.hid (row_grows hg6 Hrow5.out)
          clear hg6
          go_wp2_with fail
          refine (ws_any (w.heap.size + 1) _ _ _ Hbl6.out ?_).mono ?_
          · rw [ByteArray.size_append, ba_size (Lib.itoa sb)]; show _ + (1 + _) ≤ _; omega
          rintro e w7 ⟨rfl, hbld7, hkept7⟩
          have Hb7 := Lib.hid (Hb6.out.trans (hkept7.1.mono (by omega)))
          have Hrow7 := Lib.hid (hkept7.row Hrow6.out (by decide) (by omega))
          obtain ⟨acc7, hacc7⟩ : ∃ a1, a1 = acc5 ++ (32 :: Lib.itoa sb) := ⟨_, rfl⟩
          have Hbl7 : Hid (Bld (w.heap.size + 1) acc7 w7) := Lib.hid (by rw [hacc7]; have h := hbld7; rw [ByteArray.data_append] at h; simpa using h)
          have hlen7 : acc7.length ≤ 65536 + 8 + 66 := by rw [hacc7, List.length_append, List.length_cons]; omega
          have Hacc7 := Lib.hid hacc7; clear hacc7 hbld7 hkept7 Hbl5 Hbl6 Hrow5 Hrow6 Hb5 Hb6
          go_wp2
          rw [rounds_succ]
          go_wp2_with fail
          have Henv7 := Lib.hid (Henv.out.below Hb7.out Henv.out.size)
          refine (fmt_any sl Hokk.out.2.2.2.2.1 Hokk.out.2.2.2.2.2 _ Henv7.out).mono ?_
          rintro e w8 ⟨rfl, hg8⟩
          have Hb8 := Lib.hid (Hb7.out.trans (hg8.mono Hb7.out.size))
          have Hbl8 := Lib.hid (bld_grows Hbl7.out hg8)
          have Hrow8 := Lib.hid (row_grows hg8 Hrow7.out)
          clear hg8
          go_wp2_with fail
          refine (ws_any (w.heap.size + 1) _ _ _ Hbl8.out ?_).mono ?_
          · rw [ByteArray.size_append, ba_size (Lib.itoa sl)]; show _ + (1 + _) ≤ _; omega
          rintro e w9 ⟨rfl, hbld9, hkept9⟩
          have Hb9 := Lib.hid (Hb8.out.trans (hkept9.1.mono (by omega)))
          have Hrow9 := Lib.hid (hkept9.row Hrow8.out (by decide) (by omega))
          obtain ⟨acc9, hacc9⟩ : ∃ a1, a1 = acc7 ++ (32 :: Lib.itoa sl) := ⟨_, rfl⟩
          have Hbl9 : Hid (Bld (w.heap.size + 1) acc9 w9) := Lib.hid (by rw [hacc9]; have h := hbld9; rw [ByteArray.data_append] at h; simpa using h)
          have hlen9 : acc9.length ≤ 65536 + 8 + 88 := by rw [hacc9, List.length_append, List.length_cons]; omega
          have Hacc9 := Lib.hid hacc9; clear hacc9 hbld9 hkept9 Hbl7 Hbl8 Hrow7 Hrow8 Hb7 Hb8
          go_wp2
          rw [rounds_succ]
          go_wp2_with fail
          refine (ws_any (w.heap.size + 1) _ _ _ Hbl9.out ?_).mono ?_
          · show _ + 1 ≤ _; omega
          rintro e w10 ⟨rfl, hbld10, hkept10⟩
          have Hb10 := Lib.hid (Hb9.out.trans (hkept10.1.mono (by omega)))
          have Hrow10 := Lib.hid (hkept10.row Hrow9.out (by decide) (by omega))
          obtain ⟨acc10, hacc10⟩ : ∃ a1, a1 = acc9 ++ [10] := ⟨_, rfl⟩
          have Hbl10 : Hid (Bld (w.heap.size + 1) acc10 w10) := Lib.hid (by rw [hacc10]; exact hbld10)
          have hall : acc10 = acc ++ lineD ⟨(kk : Int) + 1, nd, sa, sb, sl⟩ := by
            rw [hacc10, Hacc9.out, Hacc7.out, Hacc5.out, Hacc3.out, Hacc1.out]
            simp [lineD]
          have Hall := Lib.hid hall; clear hall hacc10 hbld10 hkept10
          go_wp2_with fail
          refine (len_any (w.heap.size + 1) _ _ Hbl10.out).mono ?_
          rintro e w11 ⟨rfl, rfl⟩
          go_wp2
          · have hlong : 65536 < (acc10.length : Int) := by assumption
            go_ret2
            exact ⟨tuple_eq (by rw [Hfin.out, Hgo.out, Hdr.out, textGo_long Hg.out (by rw [← Hall.out]; omega)]), Hb10.out⟩
          · have hshort : (acc10.length : Int) ≤ 65536 := by assumption
            exact ⟨⟨k + 1, acc10, by omega, by go_num, by omega, by rw [Hgo.out, Hdr.out, textGo_next Hg.out (by rw [← Hall.out]; omega), Hall.out], Hbl10.out, Hrow10.out, Hb10.out⟩, by simp [intOf]; omega⟩
    · go_wp2_with fail
      refine (str_any (w.heap.size + 1) acc _ Hbld.out).mono ?_
      rintro e w1 ⟨rfl, hb1⟩
      have Hb1 := Lib.hid (Hb.out.trans (hb1.mono (by omega))); clear hb1
      go_wp2
      go_ret2
      obtain rfl : k = n := by omega
      exact ⟨tuple_eq (by rw [Hfin.out, Hgo.out, stepsL_end, textGo]), Hb1.out⟩

theorem text_any (a : Option Addr) (n c : Nat) (f : Nat → StepD) (hn : n ≤ 9223372036854775807) (hok : ∀ i, i < n → (f i).ok) (w : World) (he : Env w) (hs : Steps w a n f) :
    Calls Tryz.prog 115 #[.slice a n c] w fun e w' => e = .returned (.tuple #[.string ⟨(textD (stepsL n f)).1.toArray⟩, .int .i64 (textD (stepsL n f)).2]) ∧ Below w.heap.size w w' := by
  by_cases h : 2048 < n
  · exact text_many a n c f hn h w
  · exact text_few a n c f (by omega) hok w he hs
end Go.Proofs.YtbdcgdjhkcnekaaGreatDoor
