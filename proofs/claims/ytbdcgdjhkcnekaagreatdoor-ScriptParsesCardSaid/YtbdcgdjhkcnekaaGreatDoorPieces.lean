/-
  The reference's pieces: the split at single blanks.
-/
import Derived.Test.YtbdcgdjhkcnekaaGreatDoorNum
import Derived.Test.YtbdcgdjhkcnekaaGreatDoorParse
namespace Go.Proofs.YtbdcgdjhkcnekaaGreatDoor
open Go Go.RowKit

def strV (l : List (List UInt8)) : List Value := l.map fun x => Value.string ⟨x.toArray⟩
abbrev OwnStrs (B : Nat) (v : Value) (l : List (List UInt8)) (w : World) : Prop := w.ownsRow B 9 1 v l.length (strV l)

theorem info9 : (Tryz.prog.info? 9).map (fun i => (i.zero, i.size, i.bytes)) = some (some (.string ByteArray.empty), 1, 16) := by kernel_rfl

def PcRel (l : List UInt8) (w : World) (lv fv iv : Value) (wr : World) : Prop :=
  ∃ (i from' : Nat) (done : List (List UInt8)), i ≤ l.length + 1 ∧ from' ≤ i ∧ iv = .int .i64 i ∧ fv = .int .i64 from' ∧ done.length ≤ i ∧ OwnStrs w.heap.size lv done wr ∧ Below w.heap.size w wr ∧
    (i ≤ l.length → Lib.split l [32] = done ++ Lib.split (l.drop from') [32] ∧ (∀ c ∈ (l.drop from').take (i - from'), c ≠ 32)) ∧ (i = l.length + 1 → Lib.split l [32] = done)

theorem own_slen {B : Nat} {v : Value} {acc : List (List UInt8)} {w : World} (h : OwnStrs B v acc w) : ∃ a c, v = .slice a acc.length c ∧ acc.length ≤ c := by
  rcases h.2 with ⟨h1, h2⟩ | ⟨g, cap, cur, h1, _, _, h4, _⟩
  · exact ⟨none, 0, by rw [h1, h2], by omega⟩
  · exact ⟨_, cap, h1, h4⟩

theorem own_sblock {B : Nat} {v : Value} {acc : List (List UInt8)} {w : World} (h : OwnStrs B v acc w) : ∀ k, v.ownBlock = some k → B ≤ k := by
  intro k hk
  rcases h.2 with ⟨rfl, _⟩ | ⟨g, cap, cur, rfl, h2, _⟩
  · cases hk
  · obtain rfl : g = k := by simpa [Value.ownBlock] using hk
    exact h2
theorem Bytes.extract {S : ByteArray} {l : List UInt8} (h : Bytes S l) (a b : Nat) : S.extract a b = ⟨((l.drop a).take (b - a)).toArray⟩ := by
  rw [h]
  apply ByteArray.ext
  have e := Lib.extract_data (⟨l.toArray⟩ : ByteArray) a b
  apply Array.toList_inj.1
  rw [e]
theorem drop_cut {l : List UInt8} {i fr : Nat} {c : UInt8} (hf : fr ≤ i) (hc : l[i]? = some c) : l.drop fr = (l.drop fr).take (i - fr) ++ c :: l.drop (i + 1) := by
  obtain ⟨h1, h2⟩ := List.getElem?_eq_some_iff.1 hc
  have e : l.drop i = c :: l.drop (i + 1) := by rw [List.drop_eq_getElem_cons h1, h2]
  rw [← e]
  have := List.take_append_drop (i - fr) (l.drop fr)
  rw [List.drop_drop, show fr + (i - fr) = i by omega] at this
  exact this.symm

set_option maxRecDepth 100000 in
set_option maxHeartbeats 1600000 in
theorem pieces_any (S : ByteArray) (l : List UInt8) (hS : Bytes S l) (hm : l.length ≤ 65536) (w : World) :
    Calls Tryz.prog 121 #[.string S] w fun e w' => ∃ v, e = .returned v ∧ OwnStrs w.heap.size v (Lib.split l [32]) w' ∧ Below w.heap.size w w' := by
  have hn := hS.size
  have hn' : l.length = S.size := hn.symm
  clear hn
  obtain ⟨i0, hi0, hz0, hz1, hz2⟩ := info_parts info9
  have hm' : (S.size : Int) ≤ 65536 := by omega
  have HS := Lib.hid hS; clear hS
  go_enter Tryz.func121, Tryz.ntmps121
  go_wp2
  go_loopw [3, 4, 5] (fun lv fv iv wr => PcRel l w lv fv iv wr) (fun _ _ iv _ => S.size + 1 - (intOf iv).toNat)
  case atStart =>
    exact ⟨0, 0, [], by omega, Nat.le_refl _, rfl, rfl, by simp, ⟨rfl, .inl ⟨rfl, rfl⟩⟩, Below.refl _ _, fun _ => ⟨by simp, by simp⟩, fun h => by omega⟩
  case round =>
    obtain ⟨i, fr, don, hi, hf, rfl, rfl, hdl, hown, hb, h1, h2⟩ := hrel
    have Hown := Lib.hid hown; clear hown
    have Hb := Lib.hid hb; clear hb
    obtain ⟨a, c, rfl, hac⟩ := own_slen Hown.out
    by_cases hend : i = l.length + 1
    · have hs := h2 hend
      have Hs := Lib.hid hs
      clear h1 h2 hs
      have hie : (i : Int) = S.size + 1 := by omega
      go_wp2
      go_ret
      exact ⟨_, rfl, by rw [Hs.out]; exact Hown.out, Hb.out⟩
    · obtain ⟨h3, h4⟩ := h1 (by omega)
      clear h1 h2
      have H3 := Lib.hid h3; clear h3
      have H4 := Lib.hid h4; clear h4
      by_cases hl : i = l.length
      · have hie : (i : Int) = S.size := by omega
        have hex : S.extract fr S.size = ⟨(l.drop fr).toArray⟩ := by
          rw [HS.out.extract, ← hn', List.take_of_length_le (by simp)]
        have Hex := Lib.hid hex; clear hex
        go_wp2_with (at_builtin; refine wpList_append_own_at _ rfl _ _ 81 rfl w.heap.size 9 i0 (.string ByteArray.empty) 1 16 Tryz.underlying81 hi0 hz0 hz1 hz2 rfl (by decide) _ _ _ rfl (Hown.out.alloc _) ⟨wr.heap.size, 0, none⟩ 1 1 [.string (S.extract fr S.size)] rfl rfl (cell_one_new _ _ _) (by intro u hu; simp at hu; subst hu; rfl) (by unfold maxLen; omega) (by omega) (by simp; have := Hb.out.size; omega) ?_; intro v' w5 hown' hgrow hniff hblk)
        have hsp : Lib.split (l.drop fr) [32] = [l.drop fr] := split_none (fun y hy => H4.out y (by rw [List.take_of_length_le (by simp; omega)]; exact hy))
        refine ⟨⟨i + 1, i + 1, don ++ [l.drop fr], by omega, Nat.le_refl _, by simp; omega, by simp; omega, by simp; omega, ?_, ?_, fun h => by omega, fun _ => by rw [H3.out, hsp]⟩, by simp [intOf]; omega⟩
        · rw [Hex.out] at hown'
          unfold OwnStrs
          simpa [strV] using hown'
        · exact (Hb.out.alloc Hb.out.size _).grown hgrow (by simp; have := Hb.out.size; omega) (fun k hk => own_sblock Hown.out k hk)
      · obtain ⟨c0, hc0⟩ : ∃ c0, l[i]? = some c0 := ⟨_, List.getElem?_eq_getElem (by omega)⟩
        have hlt : i < S.size := by omega
        have hc : S[i] = c0 := HS.out.get hc0 hlt
        have hne : ((i : Int) == S.size) = false := beq_eq_false_iff_ne.2 (by omega)
        have hle : (i : Int) < S.size := by omega
        have hd : l.drop fr = (l.drop fr).take (i - fr) ++ c0 :: l.drop (i + 1) := drop_cut hf hc0
        have Hd := Lib.hid hd; clear hd
        have Hc0 := Lib.hid hc0; clear hc0
        by_cases h32 : c0 = 32
        · subst h32
          go_wp2_with (at_builtin; refine wpList_append_own_at _ rfl _ _ 81 rfl w.heap.size 9 i0 (.string ByteArray.empty) 1 16 Tryz.underlying81 hi0 hz0 hz1 hz2 rfl (by decide) _ _ _ rfl (Hown.out.alloc _) ⟨wr.heap.size, 0, none⟩ 1 1 [.string (S.extract fr i)] rfl rfl (cell_one_new _ _ _) (by intro u hu; simp at hu; subst hu; rfl) (by unfold maxLen; omega) (by omega) (by simp; have := Hb.out.size; omega) ?_; intro v' w5 hown' hgrow hniff hblk)
          have hsp : Lib.split (l.drop fr) [32] = (l.drop fr).take (i - fr) :: Lib.split (l.drop (i + 1)) [32] := by
            have h := split_app (c := 32) (x := (l.drop fr).take (i - fr)) (r := l.drop (i + 1)) (H4.out)
            rw [← Hd.out] at h
            exact h
          refine ⟨⟨i + 1, i + 1, don ++ [(l.drop fr).take (i - fr)], by omega, Nat.le_refl _, by go_num, by go_num, by simp; omega, ?_, ?_, fun _ => ⟨by rw [H3.out, hsp]; simp, by simp⟩, fun h => ?_⟩, by simp [intOf]; omega⟩
          · rw [HS.out.extract] at hown'
            unfold OwnStrs
            simpa [strV] using hown'
          · exact (Hb.out.alloc Hb.out.size _).grown hgrow (by simp; have := Hb.out.size; omega) (fun k hk => own_sblock Hown.out k hk)
          · omega
        · have hcn : ((c0.toNat : Int) == 32) = false := by
            simp only [beq_eq_false_iff_ne, ne_eq]
            intro e
            have e32 : (32 : UInt8).toNat = 32 := rfl
            exact h32 (UInt8.toNat_inj.1 (by omega))
          go_wp2
          refine ⟨⟨i + 1, fr, don, by omega, by omega, by go_num, rfl, by omega, Hown.out, Hb.out, fun _ => ⟨H3.out, fun x hx => ?_⟩, fun h => by omega⟩, by simp [intOf]; omega⟩
          rw [Hd.out, List.take_append] at hx
          rcases List.mem_append.1 hx with hx | hx
          · exact H4.out x (List.mem_of_mem_take hx)
          · have e1 : i + 1 - fr - ((l.drop fr).take (i - fr)).length = 1 := by simp; omega
            rw [e1] at hx
            simp at hx
            subst hx
            exact h32
end Go.Proofs.YtbdcgdjhkcnekaaGreatDoor
