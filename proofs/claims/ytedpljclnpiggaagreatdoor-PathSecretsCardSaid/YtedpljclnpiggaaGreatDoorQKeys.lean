/-
  Keys by their nodes, as data: what path.rising answers.
-/
import Derived.Test.YtedpljclnpiggaaGreatDoorQPure
set_option linter.unusedVariables false
set_option linter.unusedSimpArgs false
namespace Go.Proofs.YtedpljclnpiggaaGreatDoor

/-- A key: its node, its secret. -/
abbrev KeyP := Int × Int

/-- A key into a rising list, in place of its node's. -/
def putD : List KeyP → KeyP → List KeyP
  | [], k => [k]
  | x :: r, k => if k.1 < x.1 then k :: x :: r else if k.1 = x.1 then k :: r else x :: putD r k

def risingD (l : List KeyP) : List KeyP := l.foldl putD []

def RisingK (l : List KeyP) : Prop := l.Pairwise (fun a b => a.1 < b.1)

theorem mem_putD : ∀ (l : List KeyP) (k : KeyP), RisingK l → ∀ p, p ∈ putD l k ↔ p = k ∨ (p ∈ l ∧ p.1 ≠ k.1)
  | [], k, _, p => by simp [putD]
  | x :: r, k, h, p => by
    have hx := (List.pairwise_cons.1 h).1
    have hr := (List.pairwise_cons.1 h).2
    unfold putD
    split
    · rename_i h1
      constructor
      · intro hp
        rcases List.mem_cons.1 hp with rfl | hp
        · exact .inl rfl
        · refine .inr ⟨hp, ?_⟩
          rcases List.mem_cons.1 hp with rfl | hp
          · omega
          · have := hx p hp; omega
      · rintro (rfl | ⟨hp, _⟩)
        · simp
        · exact List.mem_cons_of_mem _ hp
    · rename_i h1
      split
      · rename_i h2
        constructor
        · intro hp
          rcases List.mem_cons.1 hp with rfl | hp
          · exact .inl rfl
          · have := hx p hp
            exact .inr ⟨List.mem_cons_of_mem _ hp, by omega⟩
        · rintro (rfl | ⟨hp, hne⟩)
          · simp
          · rcases List.mem_cons.1 hp with rfl | hp
            · exact absurd h2.symm hne
            · exact List.mem_cons_of_mem _ hp
      · rename_i h2
        rw [List.mem_cons, mem_putD r k hr p, List.mem_cons]
        constructor
        · rintro (rfl | rfl | ⟨hp, hne⟩)
          · exact .inr ⟨.inl rfl, by omega⟩
          · exact .inl rfl
          · exact .inr ⟨.inr hp, hne⟩
        · rintro (rfl | ⟨rfl | hp, hne⟩)
          · exact .inr (.inl rfl)
          · exact .inl rfl
          · exact .inr (.inr ⟨hp, hne⟩)

theorem rising_putD : ∀ (l : List KeyP) (k : KeyP), RisingK l → RisingK (putD l k)
  | [], k, _ => by simp [putD, RisingK]
  | x :: r, k, h => by
    have hx := (List.pairwise_cons.1 h).1
    have hr := (List.pairwise_cons.1 h).2
    unfold putD
    split
    · rename_i h1
      refine List.pairwise_cons.2 ⟨fun p hp => ?_, h⟩
      rcases List.mem_cons.1 hp with rfl | hp
      · exact h1
      · have := hx p hp; omega
    · rename_i h1
      split
      · rename_i h2
        exact List.pairwise_cons.2 ⟨fun p hp => by have := hx p hp; omega, hr⟩
      · rename_i h2
        refine List.pairwise_cons.2 ⟨fun p hp => ?_, rising_putD r k hr⟩
        rcases (mem_putD r k hr p).1 hp with rfl | ⟨hp, _⟩
        · omega
        · exact hx p hp

theorem risingD_snoc (l : List KeyP) (k : KeyP) : risingD (l ++ [k]) = putD (risingD l) k := by unfold risingD; rw [List.foldl_append]; rfl

theorem fold_rising : ∀ (l m : List KeyP), RisingK m → RisingK (l.foldl putD m)
  | [], _, h => h
  | k :: l, m, h => by rw [List.foldl_cons]; exact fold_rising l _ (rising_putD m k h)
theorem rising_risingD (l : List KeyP) : RisingK (risingD l) := fold_rising l [] List.Pairwise.nil

theorem putD_len : ∀ (l : List KeyP) (k : KeyP), (putD l k).length ≤ l.length + 1
  | [], k => by simp [putD]
  | x :: r, k => by
    unfold putD
    have := putD_len r k
    split
    · simp
    · split
      · simp
      · simp; omega
theorem fold_putD_len : ∀ (l m : List KeyP), (l.foldl putD m).length ≤ m.length + l.length
  | [], m => by simp
  | k :: l, m => by
    rw [List.foldl_cons]
    have h1 := fold_putD_len l (putD m k)
    have h2 := putD_len m k
    simp
    omega
theorem risingD_len (l : List KeyP) : (risingD l).length ≤ l.length := by have := fold_putD_len l []; simpa [risingD] using this

/-- In a rising list a node has one secret. -/
theorem RisingK.one : ∀ {l : List KeyP}, RisingK l → ∀ {p q : KeyP}, p ∈ l → q ∈ l → p.1 = q.1 → p = q
  | [], _, _, _, hp, _, _ => by simp at hp
  | x :: r, h, p, q, hp, hq, e => by
    have hx := (List.pairwise_cons.1 h).1
    have hr := (List.pairwise_cons.1 h).2
    rcases List.mem_cons.1 hp with hp1 | hp1
    · rcases List.mem_cons.1 hq with hq1 | hq1
      · rw [hp1, hq1]
      · have := hx q hq1; rw [hp1] at e; omega
    · rcases List.mem_cons.1 hq with hq1 | hq1
      · have := hx p hp1; rw [hq1] at e; omega
      · exact RisingK.one hr hp1 hq1 e

/-- Two rising lists with the same members are one. -/
theorem rising_ext {l m : List KeyP} (hl : RisingK l) (hm : RisingK m) (h : ∀ p, p ∈ l ↔ p ∈ m) : l = m := by
  have nd : ∀ {l : List KeyP}, RisingK l → l.Nodup := fun h => h.imp (fun hab e => by rw [e] at hab; omega)
  have hp : l.Perm m := (List.perm_ext_iff_of_nodup (nd hl) (nd hm)).2 h
  exact List.Perm.eq_of_pairwise (le := fun a b : KeyP => a.1 < b.1) (fun a b _ _ h1 h2 => by omega) hl hm hp

/-- Has a list a node? -/
def hasNode (l : List KeyP) (n : Int) : Bool := l.any (fun p => decide (p.1 = n))
theorem hasNode_iff {l : List KeyP} {n : Int} : hasNode l n = true ↔ ∃ s, (n, s) ∈ l := by
  unfold hasNode
  rw [List.any_eq_true]
  constructor
  · rintro ⟨p, hp, e⟩
    have : p.1 = n := by simpa using e
    exact ⟨p.2, by rw [← this]; exact hp⟩
  · rintro ⟨s, hs⟩
    exact ⟨_, hs, by simp⟩
theorem hasNode_put {l : List KeyP} {k : KeyP} (h : RisingK l) (n : Int) : hasNode (putD l k) n = (decide (n = k.1) || hasNode l n) := by
  rw [Bool.eq_iff_iff, hasNode_iff, Bool.or_eq_true, hasNode_iff, decide_eq_true_eq]
  constructor
  · rintro ⟨s, hs⟩
    rcases (mem_putD l k h _).1 hs with e | ⟨hs, _⟩
    · exact .inl (congrArg Prod.fst e)
    · exact .inr ⟨s, hs⟩
  · rintro (rfl | ⟨s, hs⟩)
    · exact ⟨k.2, (mem_putD l k h _).2 (.inl rfl)⟩
    · by_cases hn : n = k.1
      · subst hn; exact ⟨k.2, (mem_putD l k h _).2 (.inl rfl)⟩
      · exact ⟨s, (mem_putD l k h _).2 (.inr ⟨hs, hn⟩)⟩
end Go.Proofs.YtedpljclnpiggaaGreatDoor
