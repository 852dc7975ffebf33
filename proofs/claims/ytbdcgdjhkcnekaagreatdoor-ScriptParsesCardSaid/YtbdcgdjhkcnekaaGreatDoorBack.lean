/-
  Telling and reading are each other's back, in plain Lean.
-/
import Derived.Test.YtbdcgdjhkcnekaaGreatDoorPar
import Derived.Lib.ItoaNum
namespace Go.Proofs.YtbdcgdjhkcnekaaGreatDoor
open Go

theorem digit_chars : ∀ u : Nat, ∀ c ∈ Lib.decDigits u, 48 ≤ c.toNat ∧ c.toNat ≤ 57 := by
  intro u
  induction u using Nat.strongRecOn with
  | _ u ih =>
    intro c hc
    rw [Lib.decDigits] at hc
    by_cases h10 : u < 10
    · rw [dif_pos h10] at hc
      obtain rfl := List.mem_singleton.1 hc
      rw [UInt8.toNat_ofNat']; omega
    · rw [dif_neg h10] at hc
      rcases List.mem_append.1 hc with h | h
      · exact ih (u / 10) (by omega) c h
      · obtain rfl := List.mem_singleton.1 h
        rw [UInt8.toNat_ofNat']; omega

theorem digits_ne (u : Nat) : Lib.decDigits u ≠ [] := by
  intro h
  have h1 := Lib.decDigits_length u
  have h2 := Lib.nDigits_pos u
  rw [h] at h1
  simp at h1
  omega

theorem parseM_snoc (M : Nat) (c : UInt8) : ∀ (l : List UInt8) (acc v : Nat), Lib.parseUintM M acc l = .ok v → Lib.parseUintM M acc (l ++ [c]) = Lib.parseUintM M v [c]
  | [], acc, v, h => by
    simp only [Lib.parseUintM] at h
    injection h with h
    rw [h]; rfl
  | x :: r, acc, v, h => by
    rw [Lib.parseUintM] at h
    rw [List.cons_append, Lib.parseUintM]
    split at h
    · rename_i h1
      rw [if_pos h1]
      split at h
      · cases h
      · rename_i h2
        rw [if_neg h2]
        split at h
        · cases h
        · rename_i h3
          rw [if_neg h3]
          exact parseM_snoc M c r _ v h
    · cases h

theorem parseM_digits (M : Nat) (hM : M ≤ 18446744073709551615) : ∀ u : Nat, u ≤ M → Lib.parseUintM M 0 (Lib.decDigits u) = .ok u := by
  intro u
  induction u using Nat.strongRecOn with
  | _ u ih =>
    intro hu
    rw [Lib.decDigits]
    by_cases h10 : u < 10
    · rw [dif_pos h10]
      have e : (UInt8.ofNat (48 + u)).toNat = 48 + u := by rw [UInt8.toNat_ofNat']; omega
      simp only [Lib.parseUintM, e]
      rw [if_pos (by omega), if_neg (by omega), if_neg (by omega)]
      congr 1; omega
    · rw [dif_neg h10, parseM_snoc M _ _ 0 (u / 10) (ih (u / 10) (by omega) (by omega))]
      have e : (UInt8.ofNat (48 + u % 10)).toNat = 48 + u % 10 := by rw [UInt8.toNat_ofNat']; omega
      simp only [Lib.parseUintM, e]
      rw [if_pos (by omega), if_neg (by omega), if_neg (by omega)]
      congr 1; omega

theorem parseU_digits (u : Nat) (h : u ≤ 18446744073709551615) : Lib.parseUintB 64 (Lib.decDigits u) = .ok u := by
  unfold Lib.parseUintB
  rw [if_neg (digits_ne u)]
  exact parseM_digits _ (by decide) u (by simpa using h)

theorem parse_itoa {n : Int} (h0 : -9223372036854775808 ≤ n) (h1 : n ≤ 9223372036854775807) : Lib.parseIntB 64 (Lib.itoa n) = .ok n := by
  unfold Lib.itoa
  by_cases hn : n < 0
  · rw [if_pos hn, Lib.parseIntB_minus, parseU_digits _ (by omega)]
    simp only [Lib.signedC]
    rw [if_neg (by have : (2 : Nat) ^ (64 - 1) = 9223372036854775808 := by decide
                   omega)]
    congr 1; omega
  · rw [if_neg hn]
    have hu := parseU_digits n.toNat (by omega)
    have hc := digit_chars n.toNat
    have hne := digits_ne n.toNat
    generalize Lib.decDigits n.toNat = l at hu hc hne
    match l, hne with
    | c :: r, _ =>
      have := hc c (List.mem_cons_self ..)
      rw [Lib.parseIntB_plain 64 c r (by omega) (by omega), hu]
      simp only [Lib.signlessC]
      rw [if_neg (by have : (2 : Nat) ^ (64 - 1) = 9223372036854775808 := by decide
                     omega)]
      congr 1; omega

theorem numD_itoa {n : Int} (h0 : -9223372036854775808 ≤ n) (h1 : n ≤ 9223372036854775807) : numD (Lib.itoa n) = some n := by
  unfold numD
  rw [parse_itoa h0 h1]
  simp

theorem itoa_chars (n : Int) : ∀ c ∈ Lib.itoa n, c ≠ 32 ∧ c ≠ 10 := by
  intro c hc
  unfold Lib.itoa at hc
  have hd : ∀ u, c ∈ Lib.decDigits u → c ≠ 32 ∧ c ≠ 10 := fun u h => by
    have := digit_chars u c h
    exact ⟨fun e => by subst e; simp at this, fun e => by subst e; simp at this⟩
  split at hc
  · rcases List.mem_cons.1 hc with rfl | h
    · decide
    · exact hd _ h
  · exact hd _ hc

theorem index_cons (x c : UInt8) (l : List UInt8) : Lib.index (x :: l) [c] = if x = c then 0 else if Lib.index l [c] = -1 then -1 else Lib.index l [c] + 1 := by
  rw [Lib.index]
  by_cases h : x = c
  · subst h; simp [List.isPrefixOf]
  · have hp : ([c] : List UInt8).isPrefixOf (x :: l) = false := by simp [List.isPrefixOf, Ne.symm h]
    rw [hp, if_neg h]; simp
theorem index_nil (c : UInt8) : Lib.index [] [c] = -1 := by simp [Lib.index]

theorem index_none {c : UInt8} : ∀ {x : List UInt8}, (∀ y ∈ x, y ≠ c) → Lib.index x [c] = -1
  | [], _ => index_nil c
  | y :: r, h => by
    rw [index_cons, if_neg (h y (List.mem_cons_self ..)), index_none (fun z hz => h z (List.mem_cons_of_mem _ hz)), if_pos rfl]
theorem index_app {c : UInt8} {r : List UInt8} : ∀ {x : List UInt8}, (∀ y ∈ x, y ≠ c) → Lib.index (x ++ c :: r) [c] = x.length
  | [], _ => by rw [List.nil_append, index_cons, if_pos rfl]; rfl
  | y :: x, h => by
    rw [List.cons_append, index_cons, if_neg (h y (List.mem_cons_self ..)), index_app (fun z hz => h z (List.mem_cons_of_mem _ hz)), if_neg (by omega)]
    simp
theorem index_hit {c : UInt8} : ∀ {s : List UInt8} {i : Nat}, Lib.index s [c] = i → s = s.take i ++ c :: s.drop (i + 1)
  | [], i, h => by rw [index_nil] at h; omega
  | x :: l, i, h => by
    rw [index_cons] at h
    split at h
    · rename_i e
      obtain rfl : i = 0 := by omega
      simp [e]
    · split at h
      · omega
      · obtain ⟨j, rfl⟩ : ∃ j, i = j + 1 := ⟨i - 1, by
          have := Lib.index_ge l [c]; omega⟩
        have ih := index_hit (c := c) (s := l) (i := j) (by omega)
        rw [List.take_succ_cons, List.drop_succ_cons, List.cons_append, ← ih]

theorem split_app {c : UInt8} {x r : List UInt8} (h : ∀ y ∈ x, y ≠ c) : Lib.split (x ++ c :: r) [c] = x :: Lib.split r [c] := by
  unfold Lib.split
  have hc : Lib.count (x ++ c :: r) [c] = Lib.count r [c] + 1 := by
    rw [Lib.count_one, Lib.count_one, List.count_append, List.count_cons_self]
    have : x.count c = 0 := List.count_eq_zero.2 (fun hm => h c hm rfl)
    omega
  have hi := index_app (r := r) h
  rw [hc, Lib.splitK, hi, if_neg (by simp)]
  simp
theorem split_none {c : UInt8} {x : List UInt8} (h : ∀ y ∈ x, y ≠ c) : Lib.split x [c] = [x] := by
  unfold Lib.split
  have : Lib.count x [c] = 0 := by rw [Lib.count_one]; exact List.count_eq_zero.2 (fun hm => h c hm rfl)
  rw [this]; rfl

def joinC (c : UInt8) : List (List UInt8) → List UInt8
  | [] => []
  | [x] => x
  | x :: y :: r => x ++ c :: joinC c (y :: r)

theorem splitK_join (c : UInt8) : ∀ (k : Nat) (s : List UInt8), joinC c (Lib.splitK [c] 0 k s) = s ∧ Lib.splitK [c] 0 k s ≠ []
  | 0, s => ⟨rfl, by simp [Lib.splitK]⟩
  | k + 1, s => by
    rw [Lib.splitK]
    split
    · exact ⟨rfl, by simp⟩
    · rename_i h
      refine ⟨?_, by simp⟩
      have hge := Lib.index_ge s [c]
      have hne : Lib.index s [c] ≠ -1 := by simpa using h
      obtain ⟨i, hi⟩ : ∃ i : Nat, Lib.index s [c] = i := ⟨(Lib.index s [c]).toNat, by omega⟩
      obtain ⟨h1, h2⟩ := splitK_join c k (s.drop (i + 1))
      rw [hi]
      simp only [Int.toNat_natCast, Nat.add_zero, List.length_cons, List.length_nil, Nat.zero_add]
      match hs : Lib.splitK [c] 0 k (s.drop (i + 1)), h2 with
      | y :: r, _ =>
        rw [joinC, ← hs, h1]
        exact (index_hit hi).symm
theorem split_join (c : UInt8) (s : List UInt8) : joinC c (Lib.split s [c]) = s := (splitK_join c _ s).1

theorem cut_app {x r : List UInt8} (h : ∀ y ∈ x, y ≠ 10) : Lib.cut (x ++ 10 :: r) [10] = (x, r, true) := by
  unfold Lib.cut
  rw [index_app h, if_pos (by omega)]
  simp
theorem cut_join {l a b : List UInt8} (h : Lib.cut l [10] = (a, b, true)) : l = a ++ 10 :: b := by
  unfold Lib.cut at h
  split at h
  · rename_i h0
    obtain ⟨i, hi⟩ : ∃ i : Nat, Lib.index l [10] = i := ⟨(Lib.index l [10]).toNat, by omega⟩
    rw [hi] at h
    simp only [Prod.mk.injEq, Int.toNat_natCast, List.length_cons, List.length_nil, Nat.zero_add] at h
    rw [← h.1, ← h.2.1]
    exact index_hit hi
  · simp at h

/-- A line ahead of its newline. -/
def bodyD (s : StepD) : List UInt8 := word s.kind.toNat ++ (32 :: (Lib.itoa s.node ++ (32 :: (Lib.itoa s.a ++ (32 :: (Lib.itoa s.b ++ (32 :: Lib.itoa s.l)))))))

theorem line_body (s : StepD) : lineD s = bodyD s ++ [10] := by simp [lineD, bodyD]

/-- A step that can be told. -/
def Told (s : StepD) : Prop := s.ok ∧ 1 ≤ s.kind ∧ s.kind ≤ 20

theorem word_chars : ∀ i : Fin 20, ∀ c ∈ wordTab.getD i.val [], c ≠ 32 ∧ c ≠ 10 := by decide +kernel

theorem told_word {s : StepD} (h : Told s) : (∀ c ∈ word s.kind.toNat, c ≠ 32 ∧ c ≠ 10) ∧ wordIdx (word s.kind.toNat) = s.kind.toNat ∧ ((s.kind.toNat : Nat) : Int) = s.kind ∧ s.kind.toNat ≠ 0 := by
  obtain ⟨_, h1, h2⟩ := h
  have hk : s.kind.toNat - 1 < 20 := by omega
  have e := wordIdx_word ⟨s.kind.toNat - 1, hk⟩
  have e2 := word_chars ⟨s.kind.toNat - 1, hk⟩
  refine ⟨e2, ?_, by omega, by omega⟩
  unfold word
  simp only at e
  omega

theorem body_line {s : StepD} (h : Told s) : ∀ c ∈ bodyD s, c ≠ 10 := by
  intro c hc
  have hw := (told_word h).1
  simp only [bodyD, List.mem_append, List.mem_cons] at hc
  rcases hc with h | rfl | h | rfl | h | rfl | h | rfl | h
  · exact (hw c h).2
  · decide
  · exact (itoa_chars _ c h).2
  · decide
  · exact (itoa_chars _ c h).2
  · decide
  · exact (itoa_chars _ c h).2
  · decide
  · exact (itoa_chars _ c h).2

theorem step_body {s : StepD} (h : Told s) : stepD (bodyD s) = some s := by
  obtain ⟨hw, hi, hk, hz⟩ := told_word h
  have hs : Lib.split (bodyD s) [32] = [word s.kind.toNat, Lib.itoa s.node, Lib.itoa s.a, Lib.itoa s.b, Lib.itoa s.l] := by
    unfold bodyD
    rw [split_app (fun y hy => (hw y hy).1), split_app (fun y hy => (itoa_chars _ y hy).1), split_app (fun y hy => (itoa_chars _ y hy).1), split_app (fun y hy => (itoa_chars _ y hy).1), split_none (fun y hy => (itoa_chars _ y hy).1)]
  unfold stepD
  rw [hs]
  simp only
  rw [numD_itoa h.1.2.1.1 h.1.2.1.2, numD_itoa h.1.2.2.1.1 h.1.2.2.1.2, numD_itoa h.1.2.2.2.1.1 h.1.2.2.2.1.2, numD_itoa h.1.2.2.2.2.1 h.1.2.2.2.2.2]
  simp only [stepN, hi]
  rw [if_neg hz, hk]

theorem body_step {l : List UInt8} {t : StepD} (h : stepD l = some t) : Told t ∧ bodyD t = l := by
  have hj := split_join 32 l
  unfold stepD at h
  split at h
  · rename_i k n a b c hs
    rw [hs] at hj
    unfold stepN at h
    split at h
    · rename_i n' a' b' c' e1 e2 e3 e4
      split at h
      · cases h
      · rename_i h0
        injection h with h
        subst h
        have hle := wordIdx_le k
        have hk : word (wordIdx k) = k := by
          unfold wordIdx at h0 ⊢
          cases hf : wordTab.findIdx? (fun x => x == k) with
          | none => rw [hf] at h0; simp at h0
          | some i =>
            obtain ⟨h1, h2, _⟩ := List.findIdx?_eq_some_iff_getElem.1 hf
            have h3 : wordTab[i] = k := by simpa using h2
            simp only [word, Nat.add_sub_cancel]
            rw [List.getD_eq_getElem?_getD, List.getElem?_eq_getElem h1]
            exact h3
        refine ⟨⟨⟨⟨by simp only; omega, by simp only; omega⟩, numD_bound e1, numD_bound e2, numD_bound e3, numD_bound e4⟩, by simp only; omega, by simp only; omega⟩, ?_⟩
        unfold bodyD
        simp only [Int.toNat_natCast, hk, (numD_some e1).2, (numD_some e2).2, (numD_some e3).2, (numD_some e4).2]
        rw [← hj]
        rfl
    · cases h
  · cases h
end Go.Proofs.YtbdcgdjhkcnekaaGreatDoor
