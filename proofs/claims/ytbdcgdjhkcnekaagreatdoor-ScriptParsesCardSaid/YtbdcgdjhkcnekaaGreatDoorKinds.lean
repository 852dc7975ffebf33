/-
  script.kinds makes the map from the words to their kinds.
-/
import Derived.Test.YtbdcgdjhkcnekaaGreatDoorEnv
import Derived.Test.YtbdcgdjhkcnekaaGreatDoorMem
import Derived.Test.YtbdcgdjhkcnekaaGreatDoorKindsD
import Derived.Maps.OwnOps
import Derived.Maps.OwnSet
import Derived.Maps.Views
import Derived.ProofKit
namespace Go.Proofs.YtbdcgdjhkcnekaaGreatDoor
open Go Go.RowKit Go.WideMaps Go.Maps

def kindsD : Nat → DataW Unit
  | 0 => .map []
  | k + 1 => (kindsD k).put (.string (wordTab.getD k [])) (.lit (.int .u8 (1 + (k : Int))))

theorem kindsD_isMap : ∀ k, IsMap (kindsD k)
  | 0 => ⟨[], rfl⟩
  | k + 1 => by
    obtain ⟨es, h⟩ := kindsD_isMap k
    unfold kindsD
    rw [h]
    exact ⟨_, rfl⟩

theorem kindsD_word (i : Nat) (hi : i < 20) : ∀ k, k ≤ 20 → (kindsD k).atKey (.string (wordTab.getD i [])) (.lit (.int .u8 0)) = .lit (.int .u8 (if i < k then 1 + (i : Int) else 0)) ∧ has (kindsD k) (.string (wordTab.getD i [])) = decide (i < k)
  | 0, _ => ⟨rfl, rfl⟩
  | k + 1, hk => by
    obtain ⟨h1, h2⟩ := kindsD_word i hi k (by omega)
    unfold kindsD
    by_cases h : i = k
    · subst h
      rw [atKey_put_same (kindsD_isMap i) (show WideAt.IsKeyLit (.string _) from by trivial), has_put_same (kindsD_isMap i) (show WideAt.IsKeyLit (.string _) from by trivial), if_pos (Nat.lt_succ_self i)]
      exact ⟨rfl, by simp⟩
    · have hne : Lit.string (wordTab.getD i []) ≠ Lit.string (wordTab.getD k []) := fun e => h (congrArg Fin.val (words_apart ⟨i, hi⟩ ⟨k, by omega⟩ (by injection e)))
      rw [atKey_put_other hne, has_put_other hne, h1, h2]
      refine ⟨?_, ?_⟩
      · congr 2
        by_cases h' : i < k
        · rw [if_pos h', if_pos (by omega)]
        · rw [if_neg h', if_neg (by omega)]
      · rw [Bool.eq_iff_iff]; simp; omega

theorem kindsD_none (l : List UInt8) (hl : l ∉ wordTab) : ∀ k, k ≤ 20 → (kindsD k).atKey (.string l) (.lit (.int .u8 0)) = .lit (.int .u8 0) ∧ has (kindsD k) (.string l) = false
  | 0, _ => ⟨rfl, rfl⟩
  | k + 1, hk => by
    obtain ⟨h1, h2⟩ := kindsD_none l hl k (by omega)
    have hne : Lit.string l ≠ Lit.string (wordTab.getD k []) := fun e => hl (by
      injection e with e
      rw [e, List.getD_eq_getElem?_getD, List.getElem?_eq_getElem (show k < wordTab.length by rw [show wordTab.length = 20 from rfl]; omega)]
      exact List.getElem_mem _)
    unfold kindsD
    rw [atKey_put_other hne, has_put_other hne]
    exact ⟨h1, h2⟩

/-- What a look-up in the whole map answers. -/
theorem kindsD_at (l : List UInt8) : (kindsD 20).atKey (.string l) (.lit (.int .u8 0)) = .lit (.int .u8 (wordIdx l)) ∧ has (kindsD 20) (.string l) = decide (wordIdx l ≠ 0) := by
  by_cases h : l ∈ wordTab
  · obtain ⟨i, hi, e'⟩ := List.mem_iff_getElem.1 h
    have hi' : i < 20 := hi
    have e : l = wordTab.getD i [] := by rw [List.getD_eq_getElem?_getD, List.getElem?_eq_getElem hi, e']; rfl
    rw [e, wordIdx_word ⟨i, hi'⟩]
    obtain ⟨h1, h2⟩ := kindsD_word i hi' 20 (by omega)
    rw [h1, h2, if_pos hi']
    exact ⟨by simp only; rw [show (1 + (i : Int)) = ((i + 1 : Nat) : Int) by omega], by simp [hi']⟩
  · have h0 : wordIdx l = 0 := by
      unfold wordIdx
      rw [List.findIdx?_eq_none_iff.2 (fun x hx => by simp; exact fun e => h (e ▸ hx))]
    rw [h0]
    exact kindsD_none l h 20 (by omega)

theorem law9 : Keyed Tryz.prog 9 := string_keyed Tryz.underlying9

abbrev KindsAt (b : Nat) (k : Nat) (w : World) : Prop := w.ownsMap Tryz.prog 9 (plainElem Tryz.prog 70) b k (kindsD k)

def KRel (w : World) (i : Value) (wr : World) : Prop :=
  ∃ k : Nat, k ≤ 20 ∧ i = .int .i64 k ∧ KindsAt w.heap.size k wr ∧ wr.heap[w.heap.size + 1]? = some (.cells wordVals.toArray 9 (0, 0)) ∧ Below w.heap.size w wr

theorem word_val' (k : Nat) (hk : k < 20) : wordVals.toArray[k]? = some (.string ⟨(wordTab.getD k []).toArray⟩) := word_val (k + 1) (by omega) (by omega)

set_option maxRecDepth 100000 in
set_option maxHeartbeats 800000 in
theorem kinds_any (w : World) (he : Env w) :
    Calls Tryz.prog 10 #[] w fun e w' => e = .returned (.map (some w.heap.size)) ∧ KindsAt w.heap.size 20 w' ∧ Below w.heap.size w w' := by
  have hmm := @run_makeMap Tryz.prog
  have Henv := Lib.hid he; clear he
  go_enter Tryz.func10, Tryz.ntmps10
  go_wp2_with (go_at_call 116; refine (fields_any _ (Henv.out.below ((Below.refl _ _).alloc (Nat.le_refl _) _) Henv.out.size) _ (by decide +kernel)).mono ?_; rintro e w1 ⟨rfl, rfl⟩)
  go_loopw [7] (fun i wr => KRel w i wr) (fun i _ => 20 - (intOf i).toNat)
  case atStart =>
    refine ⟨0, Nat.zero_le _, rfl, (World.ownsMap_made _ _ _ _).alloc _, ?_, ((Below.refl _ _).alloc (Nat.le_refl _) _).alloc (by simp) _⟩
    have h := row_alloc (w := w.alloc (.map #[] 0)) wordVals.toArray 9 (0, 0)
    simpa using h
  case round =>
    obtain ⟨k, hk, rfl, hown, hrow, hb⟩ := hrel
    have Hrow := Lib.hid hrow; clear hrow
    have Hb := Lib.hid hb; clear hb
    have Hown := Lib.hid hown; clear hown
    by_cases hlt : k < 20
    · have hcw : wr.cell? ⟨w.heap.size + 1, k, none⟩ = some (.string ⟨(wordTab.getD k []).toArray⟩) := by rw [cell_row Hrow.out]; exact word_val' k hlt
      have hkey : keyOf Tryz.prog 9 (.string ⟨(wordTab.getD k []).toArray⟩) = some (.string (wordTab.getD k [])) := by
        refine keyOf_string_mk Tryz.underlying9 ?_
        rw [ba_size']
        have h : ∀ i : Fin 20, (wordTab.getD i.val []).length ≤ 8 := by decide
        have := h ⟨k, hlt⟩
        unfold maxLen
        simp only at this
        omega
      have Hkey := Lib.hid hkey; clear hkey
      generalize hwd : wordTab.getD k [] = wd at hcw Hkey
      have Hwd := Lib.hid hwd; clear hwd
      go_wp2_with (at_mapUpdate; refine wpList_mapUpdate_own _ rfl _ _ _ 66 rfl 9 70 law9 Tryz.underlying66 _ w.heap.size k _ rfl Hown.out (by unfold maxLen; omega) _ _ _ rfl rfl Hkey.out _ [] (plainElem_int Tryz.underlying70 ?_) ?_)
      · simp [Lit.wf, IntKind.min, IntKind.max, IntKind.bits, IntKind.signed]; omega
      intro w1 hown1 hgrow1
      have Hown1 := Lib.hid hown1; clear hown1
      have Hb1 := Lib.hid (Hb.out.grown hgrow1 Hb.out.size (fun j hj => by cases hj; exact Nat.le_refl _))
      have Hrow1 := Lib.hid ((hgrow1.block _ (Array.getElem?_eq_some_iff.1 Hrow.out).1 (by simp)).trans Hrow.out)
      clear hgrow1
      go_wp2
      exact ⟨⟨k + 1, by omega, by go_num, by unfold KindsAt kindsD; rw [Hwd.out]; exact Hown1.out, Hrow1.out, Hb1.out⟩, by simp [intOf]; omega⟩
    · obtain rfl : k = 20 := by omega
      go_wp2
      go_ret
      exact ⟨rfl, Hown.out, Hb.out⟩
end Go.Proofs.YtbdcgdjhkcnekaaGreatDoor
