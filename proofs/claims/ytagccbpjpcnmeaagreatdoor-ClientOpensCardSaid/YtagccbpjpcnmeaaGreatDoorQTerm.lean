/-
  Terms and stores as data: what Make does to a list of terms.
-/
import Derived.Test.YtagccbpjpcnmeaaGreatDoorRows
import Derived.Test.YtagccbpjpcnmeaaGreatDoorMem
import Derived.WalkKit
import Derived.WalkSpells
import Derived.WalkLawsBesides
import Derived.Lib.Hide
import Derived.Laws.StructEq
set_option linter.unusedVariables false
set_option linter.unusedSimpArgs false
namespace Go.Proofs.YtagccbpjpcnmeaaGreatDoor
open Go.RowKit

/-- A term, as data. -/
structure TermD where
  kind : Int
  n : Int
  a : Int
  b : Int
deriving DecidableEq

def i64ok (x : Int) : Prop := -9223372036854775808 ≤ x ∧ x ≤ 9223372036854775807
def TermD.ok (t : TermD) : Prop := (0 ≤ t.kind ∧ t.kind ≤ 255) ∧ i64ok t.n ∧ i64ok t.a ∧ i64ok t.b
def TermD.arr (t : TermD) : Array Value := #[.int .u8 t.kind, .int .i64 t.n, .int .i64 t.a, .int .i64 t.b]
def TermD.vals (t : TermD) : List Value := [.int .u8 t.kind, .int .i64 t.n, .int .i64 t.a, .int .i64 t.b]
def zeroT : TermD := ⟨0, 0, 0, 0⟩

/-- What four cells hold. -/
def TermAt (w : World) (b o : Nat) (t : TermD) : Prop :=
  w.cell? ⟨b, o, none⟩ = some (.int .u8 t.kind) ∧ w.cell? ⟨b, o + 1, none⟩ = some (.int .i64 t.n) ∧ w.cell? ⟨b, o + 2, none⟩ = some (.int .i64 t.a) ∧ w.cell? ⟨b, o + 3, none⟩ = some (.int .i64 t.b)

/-- The terms of a slice, nil or not. -/
def Terms (w : World) (a : Option Addr) (n : Nat) (f : Nat → TermD) : Prop := ∀ i, i < n → ∃ b o, a = some ⟨b, o, none⟩ ∧ TermAt w b (o + i * 4) (f i)

def thereD (m : Nat) (x : Int) : Bool := decide (1 ≤ x) && decide (x ≤ m)

def mayD (m : Nat) (t : TermD) : Bool :=
  if t.kind = 1 then decide (0 ≤ t.n) && decide (t.a = 0) && decide (t.b = 0)
  else if t.kind = 2 then decide (t.a = 0) && decide (t.b = 0)
  else if t.kind = 3 ∨ t.kind = 6 then decide (t.n = 0) && thereD m t.a && thereD m t.b
  else if t.kind = 4 then decide (0 ≤ t.n) && thereD m t.a && (thereD m t.b || decide (t.b = 0))
  else if t.kind = 5 ∨ t.kind = 7 then decide (t.n = 0) && thereD m t.a && decide (t.b = 0)
  else false

def makeN (L : List TermD) (t : TermD) : Int :=
  if mayD L.length t = false then 0 else if t ∈ L then (L.idxOf t : Int) + 1 else if 1048576 ≤ L.length then 0 else (L.length : Int) + 1
def makeE (L : List TermD) (t : TermD) : Int :=
  if mayD L.length t = false then 1 else if t ∈ L then 0 else if 1048576 ≤ L.length then 3 else 0
def makeL (L : List TermD) (t : TermD) : List TermD :=
  if mayD L.length t = false then L else if t ∈ L then L else if 1048576 ≤ L.length then L else L ++ [t]

/-- What is so of a store's terms. -/
structure Good (L : List TermD) : Prop where
  nodup : L.Nodup
  ok : ∀ t ∈ L, t.ok
  parts : ∀ (i : Nat) (t : TermD), L[i]? = some t → (0 ≤ t.a ∧ t.a ≤ i) ∧ (0 ≤ t.b ∧ t.b ≤ i)

theorem good_nil : Good [] := ⟨List.nodup_nil, fun _ h => by simp at h, fun i t h => by simp at h⟩

theorem there_bounds {m : Nat} {x : Int} (h : thereD m x = true) : 1 ≤ x ∧ x ≤ m := by
  unfold thereD at h
  simpa using h

theorem may_parts {m : Nat} {t : TermD} (h : mayD m t = true) : (0 ≤ t.a ∧ t.a ≤ m) ∧ (0 ≤ t.b ∧ t.b ≤ m) := by
  unfold mayD at h
  have hb := fun x => @there_bounds m x
  split at h
  · simp only [Bool.and_eq_true, decide_eq_true_eq] at h; omega
  · split at h
    · simp only [Bool.and_eq_true, decide_eq_true_eq] at h; omega
    · split at h
      · simp only [Bool.and_eq_true, decide_eq_true_eq] at h
        have h1 := hb _ h.1.2
        have h2 := hb _ h.2
        omega
      · split at h
        · simp only [Bool.and_eq_true, Bool.or_eq_true, decide_eq_true_eq] at h
          have h1 := hb _ h.1.2
          rcases h.2 with h2 | h2
          · have := hb _ h2; omega
          · omega
        · split at h
          · simp only [Bool.and_eq_true, decide_eq_true_eq] at h
            have h1 := hb _ h.1.2
            omega
          · cases h

theorem makeL_cases (L : List TermD) (t : TermD) : makeL L t = L ∨ (mayD L.length t = true ∧ t ∉ L ∧ L.length < 1048576 ∧ makeL L t = L ++ [t]) := by
  unfold makeL
  split
  · exact .inl rfl
  · rename_i hm
    split
    · exact .inl rfl
    · rename_i ht
      split
      · exact .inl rfl
      · rename_i hl
        exact .inr ⟨by simpa using hm, ht, by omega, rfl⟩

theorem Good.make {L : List TermD} {t : TermD} (h : Good L) (ht : t.ok) : Good (makeL L t) := by
  rcases makeL_cases L t with e | ⟨hm, hn, _, e⟩
  · rw [e]; exact h
  · rw [e]
    refine ⟨?_, fun s hs => ?_, fun i s hs => ?_⟩
    · rw [List.nodup_append]
      refine ⟨h.nodup, by simp, fun x hx y hy exy => ?_⟩
      have hyt : y = t := by simpa using hy
      rw [exy, hyt] at hx
      exact hn hx
    · rcases List.mem_append.1 hs with hs | hs
      · exact h.ok s hs
      · have : s = t := by simpa using hs
        rw [this]; exact ht
    · by_cases hi : i < L.length
      · rw [List.getElem?_append_left hi] at hs
        exact h.parts i s hs
      · rw [List.getElem?_append_right (by omega)] at hs
        have h0 : i - L.length = 0 := by
          have := (List.getElem?_eq_some_iff.1 hs).1
          simp at this
          omega
        rw [h0] at hs
        have : t = s := by simpa using hs
        subst this
        have := may_parts hm
        omega

theorem makeL_len (L : List TermD) (t : TermD) : L.length ≤ (makeL L t).length ∧ (makeL L t).length ≤ L.length + 1 := by
  rcases makeL_cases L t with e | ⟨_, _, _, e⟩ <;> rw [e] <;> simp

theorem makeL_pre (L : List TermD) (t : TermD) : L <+: makeL L t := by
  rcases makeL_cases L t with e | ⟨_, _, _, e⟩ <;> rw [e]
  · exact List.prefix_refl _
  · exact List.prefix_append _ _

theorem makeN_bounds (L : List TermD) (t : TermD) : 0 ≤ makeN L t ∧ makeN L t ≤ (makeL L t).length := by
  unfold makeN makeL
  split
  · simp
  · split
    · rename_i h
      have := List.idxOf_lt_length_of_mem h
      omega
    · split
      · simp
      · simp; omega

/-- A term that is there already is found at its place. -/
theorem make_there {L : List TermD} (h : Good L) {i : Nat} {t : TermD} (hi : L[i]? = some t) (hm : mayD L.length t = true) : makeN L t = (i : Int) + 1 ∧ makeE L t = 0 ∧ makeL L t = L := by
  have hmem : t ∈ L := List.mem_of_getElem? hi
  have hidx : L.idxOf t = i := by
    have hlt := (List.getElem?_eq_some_iff.1 hi).1
    have hj := List.idxOf_lt_length_of_mem hmem
    have e1 : L[L.idxOf t]'hj = t := List.getElem_idxOf hj
    have e2 : L[i]'hlt = t := (List.getElem?_eq_some_iff.1 hi).2
    have hp := List.pairwise_iff_getElem.1 h.nodup
    rcases Nat.lt_trichotomy (L.idxOf t) i with h1 | h1 | h1
    · exact absurd (e1.trans e2.symm) (hp _ _ hj hlt h1)
    · exact h1
    · exact absurd (e2.trans e1.symm) (hp _ _ hlt hj h1)
  have hm' : ¬ mayD L.length t = false := by rw [hm]; simp
  unfold makeN makeE makeL
  rw [if_neg hm', if_pos hmem, if_neg hm', if_pos hmem, if_neg hm', if_pos hmem, hidx]
  exact ⟨rfl, rfl, rfl⟩

theorem flat4 (d : TermD) (l : List TermD) (i j : Nat) (hi : i < l.length) (hj : j < 4) : (l.flatMap TermD.vals)[i * 4 + j]? = (l.getD i d).vals[j]? := by
  induction l generalizing i with
  | nil => simp at hi
  | cons x r ih =>
    cases i with
    | zero => rw [List.flatMap_cons, List.getElem?_append_left (by simp [TermD.vals]; omega)]; simp
    | succ i =>
      rw [List.flatMap_cons, List.getElem?_append_right (by simp [TermD.vals]; omega), show (i + 1) * 4 + j - x.vals.length = i * 4 + j by simp [TermD.vals]; omega, ih i (by simpa using hi)]
      simp

theorem flat4_len (l : List TermD) : (l.flatMap TermD.vals).length = l.length * 4 := by
  induction l with
  | nil => rfl
  | cons x r ih => rw [List.flatMap_cons, List.length_append, ih]; simp [TermD.vals]; omega

theorem four_one (t : TermD) : ∀ u ∈ t.vals, u.oneCell' = true := by
  intro u hu
  simp only [TermD.vals, List.mem_cons, List.not_mem_nil, or_false] at hu
  rcases hu with rfl | rfl | rfl | rfl <;> rfl

theorem eq_term (k n a b k' n' a' b' : Int) (w : World) : (Op.equalIn 10000 95 (.agg #[.int .u8 k, .int .i64 n, .int .i64 a, .int .i64 b]) (.agg #[.int .u8 k', .int .i64 n', .int .i64 a', .int .i64 b'])).run Tryz.prog w =
    .ok (decide ((⟨k, n, a, b⟩ : TermD) = ⟨k', n', a', b'⟩)) w := by
  rw [run_equalIn_struct (P := Tryz.prog) w 9999 _ _ _ (by kernel_rfl) (by kernel_rfl)]
  simp only [Program.fieldsOf, Tryz.underlying95, TermD.mk.injEq]
  simp [Op.eqFields, go_sem]
  by_cases h0 : k = k' <;> by_cases h1 : n = n' <;> by_cases h2 : a = a' <;> by_cases h3 : b = b' <;> simp [h0, h1, h2, h3]

theorem binop_eql_term (s t : TermD) (w : World) : (binOp .eql 95 (.agg #[.int .u8 s.kind, .int .i64 s.n, .int .i64 s.a, .int .i64 s.b]) (.agg #[.int .u8 t.kind, .int .i64 t.n, .int .i64 t.a, .int .i64 t.b])).run Tryz.prog w = .ok (.bool (decide (s = t))) w := by
  rw [run_eql_struct, eq_term]; rfl
end Go.Proofs.YtagccbpjpcnmeaaGreatDoor
