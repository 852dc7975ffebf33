/-
  The reference's Parse comes to parseD.
-/
import Derived.Test.YtbdcgdjhkcnekaaGreatDoorRStep
import Derived.Test.YtbdcgdjhkcnekaaGreatDoorBackB
namespace Go.Proofs.YtbdcgdjhkcnekaaGreatDoor
open Go Go.RowKit

/-- No newline: such a rest is refused. -/
theorem cut_none {x : List UInt8} (h : ∀ y ∈ x, y ≠ 10) : Lib.cut x [10] = (x, [], false) := by
  unfold Lib.cut
  rw [index_none h, if_neg (by omega)]

theorem parse_rest {x : List UInt8} (acc : List StepD) (h0 : x ≠ []) (h : ∀ y ∈ x, y ≠ 10) : parseGo (x.length + 1) acc x = ([], (acc.length : Int), 4) := by
  rw [parse_next acc h0 (cut_none h)]
  cases stepD x <;> simp

def RpRel (l : List UInt8) (w : World) (lv fv av iv : Value) (wr : World) : Prop :=
  ∃ (i fr : Nat) (acc : List StepD), i ≤ l.length ∧ fr ≤ i ∧ iv = .int .i64 i ∧ fv = .int .i64 fr ∧ av = .int .i64 acc.length ∧ acc.length ≤ 2048 ∧ OwnSteps w.heap.size lv acc wr ∧ (lv = .slice none 0 0 ↔ acc = []) ∧ Below w.heap.size w wr ∧
    parseGo (l.length + 1) [] l = parseGo ((l.drop fr).length + 1) acc (l.drop fr) ∧ (∀ c ∈ (l.drop fr).take (i - fr), c ≠ 10)

set_option maxRecDepth 100000 in
set_option maxHeartbeats 800000 in
theorem rparse_long (S : ByteArray) (l : List UInt8) (hS : Bytes S l) (hl : l.length ≤ 9223372036854775807) (h : 65536 < l.length) (w : World) : Calls Tryz.prog 5 #[.string S] w (ParsePost w l) := by
  have hfin : parseD l = ([], 0, 3) := if_pos h
  have Hfin := Lib.hid hfin; clear hfin
  have hlen : 65536 < (S.size : Int) := by rw [hS.size]; omega
  have hlen2 : (S.size : Int) ≤ 9223372036854775807 := by rw [hS.size]; omega
  clear hS
  go_enter Tryz.func5, Tryz.ntmps5
  go_wp2
  go_ret3
  exact parse_post Hfin.out (own_nil _ _) (by simp) (Below.refl _ _)

set_option maxRecDepth 100000 in
set_option maxHeartbeats 1600000 in
theorem rparse_short (S : ByteArray) (l : List UInt8) (hS : Bytes S l) (h : l.length ≤ 65536) (w : World) : Calls Tryz.prog 5 #[.string S] w (ParsePost w l) := by
  have hfin : parseD l = parseGo (l.length + 1) [] l := if_neg (by omega)
  have Hfin := Lib.hid hfin; clear hfin
  have hn' : l.length = S.size := hS.size.symm
  have hm' : (S.size : Int) ≤ 65536 := by omega
  have HS := Lib.hid hS; clear hS
  obtain ⟨i0, hi0, hz0, hz1, hz2⟩ := info_parts info38
  go_enter Tryz.func5, Tryz.ntmps5
  go_wp2
  go_loopw [5, 6, 7, 8] (fun lv fv av iv wr => RpRel l w lv fv av iv wr) (fun _ _ _ iv _ => S.size - (intOf iv).toNat)
  case atStart => exact ⟨0, 0, [], by omega, Nat.le_refl _, rfl, rfl, rfl, by simp, own_nil _ _, by simp, Below.refl _ _, by simp, by simp⟩
  case round =>
    obtain ⟨i, fr, acc, hi, hf, rfl, rfl, rfl, hal, hown, hnil, hb, hgo, hno⟩ := hrel
    have Hown := Lib.hid hown; clear hown
    have Hnil := Lib.hid hnil; clear hnil
    have Hb := Lib.hid hb; clear hb
    have Hgo := Lib.hid hgo; clear hgo
    have Hno := Lib.hid hno; clear hno
    obtain ⟨a, c, rfl, hac⟩ := own_len Hown.out
    by_cases hlt : i < S.size
    · obtain ⟨c0, hc0⟩ : ∃ c0, l[i]? = some c0 := ⟨_, List.getElem?_eq_getElem (by omega)⟩
      have hc : S[i] = c0 := HS.out.get hc0 hlt
      have hlti : (i : Int) < S.size := by omega
      have hd : l.drop fr = (l.drop fr).take (i - fr) ++ c0 :: l.drop (i + 1) := drop_cut hf hc0
      have Hd := Lib.hid hd; clear hd
      have Hc0 := Lib.hid hc0; clear hc0
      by_cases h10 : c0 = 10
      · subst h10
        have hcut : Lib.cut (l.drop fr) [10] = ((l.drop fr).take (i - fr), l.drop (i + 1), true) := by
          have hh := cut_app (x := (l.drop fr).take (i - fr)) (r := l.drop (i + 1)) Hno.out
          rw [← Hd.out] at hh
          exact hh
        have hne : l.drop fr ≠ [] := fun e => by have := congrArg List.length e; rw [List.length_drop] at this; simp at this; omega
        have hnext := parse_next acc hne hcut
        rw [← Hgo.out, ← Hfin.out] at hnext
        have Hnext := Lib.hid hnext; clear hnext hcut hne
        have hex : Bytes (S.extract fr i) ((l.drop fr).take (i - fr)) := HS.out.extract fr i
        have hexl : ((l.drop fr).take (i - fr)).length ≤ 65536 := by simp; omega
        have Hex := Lib.hid hex; clear hex
        generalize hseg : (l.drop fr).take (i - fr) = seg at hexl Hex Hnext
        clear hseg
        go_wp2_with fail
        refine (rstep_any (S.extract fr i) seg Hex.out hexl _).mono ?_
        rintro e w3 ⟨⟨st, rfl, hst⟩, hb3⟩
        have hsz3 := hb3.size
        have Hown3 := Lib.hid (Hown.out.keep hb3)
        have Hb3 := Lib.hid (Hb.out.trans (hb3.mono Hb.out.size))
        have hw3 := Hb3.out.size
        clear hb3
        obtain ⟨kd, nd, sa, sb, sl⟩ := st
        simp only [StepD.arr]
        cases hsd : stepD seg with
        | none =>
          have hn := Hnext.out
          rw [hsd] at hn
          have Hn := Lib.hid hn; clear hn hst hsd
          simp only [Option.isSome_none]
          go_wp2
          go_ret3
          exact parse_post Hn.out (own_nil _ _) (by simp) (Hb3.out.alloc hw3 _)
        | some x =>
          have hxe := hst x hsd
          subst hxe
          have hn := Hnext.out
          rw [hsd] at hn
          simp only [Bool.true_eq_false, if_false] at hn
          have Hn := Lib.hid hn; clear hn hst hsd
          simp only [Option.isSome_some]
          by_cases hfull : acc.length = 2048
          · have hfull' : (2048 : Int) ≤ acc.length := by omega
            have Hn2 := Lib.hid (Hn.out.trans (if_pos hfull))
            go_wp2
            go_ret3
            exact parse_post Hn2.out (own_nil _ _) (by simp) (Hb3.out.alloc hw3 _)
          · have hfull' : (acc.length : Int) < 2048 := by omega
            have Hn2 := Lib.hid (Hn.out.trans (if_neg hfull))
            go_wp2_with (at_builtin; refine wpList_append_own_at _ rfl _ _ 22 rfl w.heap.size 72 i0 (.agg #[.int .u8 0, .int .i64 0, .int .i64 0, .int .i64 0, .int .i64 0]) 5 40 Tryz.underlying22 hi0 hz0 hz1 hz2 rfl (by decide) _ acc.length (acc.flatMap StepD.vals) rfl ((Hown3.out.alloc _).alloc _) ⟨w3.heap.size + 1, 0, none⟩ 1 1 (StepD.vals ⟨kd, nd, sa, sb, sl⟩) rfl rfl (five_new _ _ _) (five_one _) (by unfold maxLen; omega) (by omega) (by simp; omega) ?_; intro v' w5 hown' hgrow hniff hblk)
            have hB5 : Below w.heap.size w w5 := ((Hb3.out.alloc hw3 _).alloc (by simp; omega) _).grown hgrow (by simp; omega) (fun k hk => own_block Hown3.out k hk)
            refine ⟨⟨i + 1, i + 1, acc ++ [⟨kd, nd, sa, sb, sl⟩], by omega, Nat.le_refl _, by go_num, by go_num, by simp, by simp; omega, ?_, ?_, hB5, by rw [← Hfin.out]; exact Hn2.out, by simp⟩, by simp [intOf]; omega⟩
            · unfold OwnSteps
              simpa using hown'
            · rw [hniff]; simp
      · have hcn : ((c0.toNat : Int) == 10) = false := by
          simp only [beq_eq_false_iff_ne, ne_eq]
          intro e
          have e10 : (10 : UInt8).toNat = 10 := rfl
          exact h10 (UInt8.toNat_inj.1 (by omega))
        have hcn2 : ((c0.toNat : Int) != 10) = true := by rw [bne, hcn]; rfl
        go_wp2
        refine ⟨⟨i + 1, fr, acc, by omega, by omega, by go_num, rfl, rfl, hal, Hown.out, Hnil.out, Hb.out, Hgo.out, fun x hx => ?_⟩, by simp [intOf]; omega⟩
        rw [Hd.out, List.take_append] at hx
        rcases List.mem_append.1 hx with hx | hx
        · exact Hno.out x (List.mem_of_mem_take hx)
        · have e1 : i + 1 - fr - ((l.drop fr).take (i - fr)).length = 1 := by simp; omega
          rw [e1] at hx
          simp at hx
          subst hx
          exact h10
    · obtain rfl : i = l.length := by omega
      have hrest : ∀ c ∈ l.drop fr, c ≠ 10 := fun c hc => Hno.out c (by rw [List.take_of_length_le (by simp)]; exact hc)
      have hie : ((l.length : Nat) : Int) = S.size := by omega
      by_cases hfe : fr = l.length
      · have hfi : (fr : Int) = S.size := by omega
        have hfinal : parseD l = (acc, 0, 0) := by
          rw [Hfin.out, Hgo.out, hfe, List.drop_of_length_le (Nat.le_refl _)]
          rfl
        have Hfinal := Lib.hid hfinal; clear hfinal hrest
        go_wp2
        go_ret3
        exact parse_post Hfinal.out Hown.out Hnil.out Hb.out
      · have hfi : (fr : Int) < S.size := by omega
        have hne : l.drop fr ≠ [] := fun e => by have := congrArg List.length e; rw [List.length_drop] at this; simp at this; omega
        have hfinal : parseD l = ([], (acc.length : Int), 4) := by
          rw [Hfin.out, Hgo.out, parse_rest acc hne hrest]
        have Hfinal := Lib.hid hfinal; clear hfinal hrest hne
        go_wp2
        go_ret3
        exact parse_post Hfinal.out (own_nil _ _) (by simp) Hb.out

theorem rparse_any (l : List UInt8) (hl : l.length ≤ 9223372036854775807) (w : World) : Calls Tryz.prog 5 #[.string ⟨l.toArray⟩] w (ParsePost w l) := by
  by_cases h : 65536 < l.length
  · exact rparse_long _ l rfl hl h w
  · exact rparse_short _ l rfl (by omega) w
end Go.Proofs.YtbdcgdjhkcnekaaGreatDoor
