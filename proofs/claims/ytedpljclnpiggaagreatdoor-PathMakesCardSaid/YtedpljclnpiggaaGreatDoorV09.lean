/- Trees as data, where they lie, and which may be. -/
import Derived.Test.YtedpljclnpiggaaGreatDoorV08
set_option linter.unusedVariables false
set_option linter.unusedSimpArgs false
set_option maxRecDepth 100000
set_option maxHeartbeats 12800000
namespace Go.Proofs.YtedpljclnpiggaaGreatDoor
open Go Go.RowKit
structure NodeD where
 pub : Int
 mem : Int
 ep : Int
 um : List Int
def zeroN : NodeD := ⟨0, 0, 0, []⟩
def nodeD (T : List NodeD) (x : Nat) : NodeD := T.getD x zeroN
def blankD (d : NodeD) : Bool := decide (d.pub = 0) && decide (d.mem = 0) && decide (d.ep = 0) && decide (d.um.length = 0)
def NumsAt (B : Nat) (w : World) (a : Option Addr) (l : List Int) : Prop := ∀ i, i < l.length → ∃ b o, a = some ⟨b, o, none⟩ ∧ b < B ∧ w.cell? ⟨b, o + i, none⟩ = some (.int .i64 (l.getD i 0))
theorem NumsAt.below {B : Nat} {w w' : World} {a : Option Addr} {l : List Int} (h : NumsAt B w a l) (hb : Below B w w') : NumsAt B w' a l := fun i hi => by
 obtain ⟨b, o, e, hl, hc⟩ := h i hi
 exact ⟨b, o, e, hl, (hb.cell (p := ⟨b, o + i, none⟩) hl).trans hc⟩
structure NodeAt (B : Nat) (w : World) (b o : Nat) (d : NodeD) : Prop where
 lt : b < B
 c0 : w.cell? ⟨b, o, none⟩ = some (.int .i64 d.pub)
 c1 : w.cell? ⟨b, o + 1, none⟩ = some (.int .i64 d.mem)
 c2 : w.cell? ⟨b, o + 2, none⟩ = some (.int .i64 d.ep)
 c3 : ∃ a c, w.cell? ⟨b, o + 3, none⟩ = some (.slice a d.um.length c) ∧ NumsAt B w a d.um
theorem NodeAt.below {B : Nat} {w w' : World} {b o : Nat} {d : NodeD} (h : NodeAt B w b o d) (hb : Below B w w') : NodeAt B w' b o d :=
 have hc : ∀ j, w'.cell? ⟨b, j, none⟩ = w.cell? ⟨b, j, none⟩ := fun j => hb.cell (p := ⟨b, j, none⟩) h.lt
 ⟨h.lt, (hc _).trans h.c0, (hc _).trans h.c1, (hc _).trans h.c2, let ⟨a, c, e, hn⟩ := h.c3; ⟨a, c, (hc _).trans e, hn.below hb⟩⟩
def TreeAt (B : Nat) (w : World) (a : Option Addr) (T : List NodeD) : Prop := ∀ i, i < T.length → ∃ b o, a = some ⟨b, o, none⟩ ∧ NodeAt B w b (o + i * 4) (nodeD T i)
theorem TreeAt.below {B : Nat} {w w' : World} {a : Option Addr} {T : List NodeD} (h : TreeAt B w a T) (hb : Below B w w') : TreeAt B w' a T := fun i hi => by
 obtain ⟨b, o, e, hn⟩ := h i hi
 exact ⟨b, o, e, hn.below hb⟩
def FitT (T : List NodeD) : Prop := ∀ x, x < T.length → i64ok (nodeD T x).pub ∧ i64ok (nodeD T x).mem ∧ i64ok (nodeD T x).ep ∧ (nodeD T x).um.length ≤ 9223372036854775807
def lvD (n : Nat) : Nat := if n = 1 then 1 else if n = 3 then 2 else if n = 7 then 4 else if n = 15 then 8 else 0
def unD (T : List NodeD) (last : Int) : Int → List Int → Bool
 | _, [] => true
 | first, u :: r => if u < first ∨ last < u ∨ (nodeD T (2 * u).toNat).pub = 0 then false else unD T last (u + 1) r
def parentD (T : List NodeD) (x : Nat) : Bool := if (nodeD T x).pub < 1 ∨ (nodeD T x).mem ≠ 0 ∨ (nodeD T x).ep ≠ 0 then blankD (nodeD T x) else unD T (spL x : Nat) (spF x : Nat) (nodeD T x).um
def leafD (d : NodeD) : Bool := blankD d || (decide (0 < d.pub) && decide (0 ≤ d.mem) && decide (0 ≤ d.ep) && decide (d.um.length = 0))
def memsD (T : List NodeD) : Nat → List Int
 | 0 => []
 | k + 1 => if k % 2 = 0 ∧ blankD (nodeD T k) = false then (nodeD T k).mem :: memsD T k else memsD T k
def lastD (T : List NodeD) : Nat → Int
 | 0 => -1
 | k + 1 => if k % 2 = 0 ∧ blankD (nodeD T k) = false then ((k / 2 : Nat) : Int) else lastD T k
def goodAt (T : List NodeD) (x : Nat) : Prop :=
 (x % 2 = 1 ∧ parentD T x = true) ∨ (x % 2 = 0 ∧ (blankD (nodeD T x) = true ∨ (0 < (nodeD T x).pub ∧ 0 ≤ (nodeD T x).mem ∧ 0 ≤ (nodeD T x).ep ∧ (nodeD T x).um.length = 0 ∧ (nodeD T x).mem ∉ memsD T x)))
def OkT' (T : List NodeD) : Prop := T.length = 0 ∨ (lvD T.length ≠ 0 ∧ (∀ x, x < T.length → goodAt T x) ∧ ((lvD T.length / 2 : Nat) : Int) ≤ lastD T T.length)
open Classical in
noncomputable def errD (T : List NodeD) : Int := if OkT' T then 0 else 1
theorem errD_ok {T : List NodeD} (h : OkT' T) : errD T = 0 := by unfold errD; exact if_pos h
theorem errD_bad {T : List NodeD} (h : ¬ OkT' T) : errD T = 1 := by unfold errD; exact if_neg h
theorem errD_zero {T : List NodeD} (h : errD T = 0) : OkT' T := by
 by_cases h1 : OkT' T
 · exact h1
 · rw [errD_bad h1] at h; cases h
theorem leavesD_cases (n : Nat) : lvD n = 0 ∨ (n = 1 ∧ lvD n = 1) ∨ (n = 3 ∧ lvD n = 2) ∨ (n = 7 ∧ lvD n = 4) ∨ (n = 15 ∧ lvD n = 8) := by
 unfold lvD
 split
 · exact .inr (.inl ⟨by assumption, rfl⟩)
 · split
   · exact .inr (.inr (.inl ⟨by assumption, rfl⟩))
   · split
     · exact .inr (.inr (.inr (.inl ⟨by assumption, rfl⟩)))
     · split
       · exact .inr (.inr (.inr (.inr ⟨by assumption, rfl⟩)))
       · exact .inl rfl
theorem mem_memsD {T : List NodeD} {m : Int} : ∀ k, m ∈ memsD T k ↔ ∃ i, i < k ∧ i % 2 = 0 ∧ blankD (nodeD T i) = false ∧ (nodeD T i).mem = m
 | 0 => by simp [memsD]
 | k + 1 => by
  unfold memsD
  split
  · rename_i h
    rw [List.mem_cons, mem_memsD k]
    constructor
    · rintro (e | ⟨i, h1, h2⟩)
      · exact ⟨k, by omega, h.1, h.2, e.symm⟩
      · exact ⟨i, by omega, h2⟩
    · rintro ⟨i, h1, h2, h3, h4⟩
      by_cases hi : i = k
      · subst hi; exact .inl h4.symm
      · exact .inr ⟨i, by omega, h2, h3, h4⟩
  · rename_i h
    rw [mem_memsD k]
    constructor
    · rintro ⟨i, h1, h2⟩; exact ⟨i, by omega, h2⟩
    · rintro ⟨i, h1, h2, h3, h4⟩
      by_cases hi : i = k
      · subst hi; exact absurd ⟨h2, h3⟩ h
      · exact ⟨i, by omega, h2, h3, h4⟩
theorem lastD_le : ∀ (T : List NodeD) (k : Nat), -1 ≤ lastD T k ∧ lastD T k < k
 | _, 0 => by simp [lastD]
 | T, k + 1 => by
  have := lastD_le T k
  unfold lastD
  split <;> omega
theorem le_lastD {T : List NodeD} {c : Nat} : ∀ k, (c : Int) ≤ lastD T k ↔ ∃ i, i < k ∧ i % 2 = 0 ∧ blankD (nodeD T i) = false ∧ c ≤ i / 2
 | 0 => by simp [lastD]; omega
 | k + 1 => by
  have hl := lastD_le T k
  unfold lastD
  split
  · rename_i h
    constructor
    · intro hc; exact ⟨k, by omega, h.1, h.2, by omega⟩
    · rintro ⟨i, h1, h2, h3, h4⟩; omega
  · rename_i h
    rw [le_lastD k]
    constructor
    · rintro ⟨i, h1, h2⟩; exact ⟨i, by omega, h2⟩
    · rintro ⟨i, h1, h2, h3, h4⟩
      by_cases hi : i = k
      · subst hi; exact absurd ⟨h2, h3⟩ h
      · exact ⟨i, by omega, h2, h3, h4⟩
/-! What the document asks. -/
def twiceD (T : List NodeD) : Prop := ∃ i k, k < i ∧ i < T.length ∧ i % 2 = 0 ∧ k % 2 = 0 ∧ (nodeD T i).pub ≠ 0 ∧ (nodeD T k).pub ≠ 0 ∧ (nodeD T i).mem = (nodeD T k).mem
def someD (T : List NodeD) (c : Nat) : Prop := ∃ i, i < T.length ∧ i % 2 = 0 ∧ 2 * c ≤ i ∧ (nodeD T i).pub ≠ 0
def eachD (T : List NodeD) : Prop := ∀ x, x < T.length → (x % 2 = 0 → leafD (nodeD T x) = true) ∧ (x % 2 = 1 → parentD T x = true)
theorem blank_iff {T : List NodeD} (h : eachD T) {x : Nat} (hx : x < T.length) (h2 : x % 2 = 0) : blankD (nodeD T x) = false ↔ (nodeD T x).pub ≠ 0 := by
 have hl := (h x hx).1 h2
 constructor
 · intro hb e
   unfold leafD at hl
   rw [hb, Bool.false_or] at hl
   simp only [Bool.and_eq_true, decide_eq_true_eq] at hl
   omega
 · intro hp
   unfold blankD
   simp [hp]
theorem ok_iff {T : List NodeD} (hl : lvD T.length ≠ 0) : OkT' T ↔ (eachD T ∧ ¬ twiceD T ∧ someD T 0 ∧ (1 < lvD T.length → someD T (lvD T.length / 2))) := by
 have hpos : T.length ≠ 0 := by
  intro e
  rw [e] at hl
  exact hl (by decide)
 constructor
 · rintro (h | ⟨_, hg, hlast⟩)
   · exact absurd h hpos
   have he : eachD T := by
    intro x hx
    rcases hg x hx with ⟨h1, h2⟩ | ⟨h1, h2⟩
    · exact ⟨fun h => by omega, fun _ => h2⟩
    · refine ⟨fun _ => ?_, fun h => by omega⟩
      unfold leafD
      rcases h2 with h2 | ⟨a, b, c, d, _⟩
      · rw [h2]; rfl
      · simp [a, b, c, d]
   refine ⟨he, ?_, ?_, ?_⟩
   · rintro ⟨i, k, hk, hi, h1, h2, h3, h4, h5⟩
     rcases hg i hi with ⟨h, _⟩ | ⟨_, h⟩
     · omega
     have hb := (blank_iff he hi h1).2 h3
     rcases h with h | ⟨_, _, _, _, h⟩
     · rw [h] at hb; cases hb
     · exact h ((mem_memsD i).2 ⟨k, hk, h2, (blank_iff he (by omega) h2).2 h4, h5.symm⟩)
   · obtain ⟨i, h1, h2, h3, h4⟩ := (le_lastD _).1 hlast
     exact ⟨i, h1, h2, by omega, (blank_iff he h1 h2).1 h3⟩
   · intro _
     obtain ⟨i, h1, h2, h3, h4⟩ := (le_lastD _).1 hlast
     exact ⟨i, h1, h2, by omega, (blank_iff he h1 h2).1 h3⟩
 · rintro ⟨he, ht, h0, hs⟩
   refine .inr ⟨hl, fun x hx => ?_, ?_⟩
   · by_cases h2 : x % 2 = 1
     · exact .inl ⟨h2, (he x hx).2 h2⟩
     · refine .inr ⟨by omega, ?_⟩
       have h3 := (he x hx).1 (by omega)
       cases hb : blankD (nodeD T x) with
       | true => exact .inl rfl
       | false =>
        unfold leafD at h3
        rw [hb, Bool.false_or] at h3
        simp only [Bool.and_eq_true, decide_eq_true_eq] at h3
        refine .inr ⟨h3.1.1.1, h3.1.1.2, h3.1.2, h3.2, fun hm => ht ?_⟩
        obtain ⟨k, k1, k2, k3, k4⟩ := (mem_memsD x).1 hm
        exact ⟨x, k, k1, hx, by omega, k2, (blank_iff he hx (by omega)).1 hb, (blank_iff he (by omega) k2).1 k3, k4.symm⟩
   · by_cases h1 : 1 < lvD T.length
     · obtain ⟨i, i1, i2, i3, i4⟩ := hs h1
       exact (le_lastD _).2 ⟨i, i1, i2, (blank_iff he i1 i2).2 i4, by omega⟩
     · obtain ⟨i, i1, i2, i3, i4⟩ := h0
       exact (le_lastD _).2 ⟨i, i1, i2, (blank_iff he i1 i2).2 i4, by omega⟩
theorem ok_leaves {T : List NodeD} (h : OkT' T) (hp : T.length ≠ 0) : lvD T.length ≠ 0 := by
 rcases h with h | h
 · exact absurd h hp
 · exact h.1
/-! The nodes above one. -/
def upD : Nat → Nat → Nat → List Nat
 | 0, _, _ => []
 | f + 1, x, n => x :: if x + 1 = n then [] else upD f (parX x) n
def drD (x n : Nat) : List Nat := (upD 4 x n).tail
abbrev isN (n : Nat) : Prop := n = 1 ∨ n = 2 ∨ n = 4 ∨ n = 8
theorem direct_facts : ∀ n ∈ [1, 2, 4, 8], ∀ x ∈ List.range (2 * n - 1), (drD x n).length ≤ 3 ∧ (upD 4 x n) = x :: drD x n ∧ ∀ y ∈ upD 4 x n, y < 2 * n - 1 := by decide
theorem direct_len {x n : Nat} (hn : isN n) (hx : x < 2 * n - 1) : (drD x n).length ≤ 3 := (direct_facts n (by rcases hn with rfl | rfl | rfl | rfl <;> decide) x (List.mem_range.2 hx)).1
theorem up_eq {x n : Nat} (hn : isN n) (hx : x < 2 * n - 1) : upD 4 x n = x :: drD x n := (direct_facts n (by rcases hn with rfl | rfl | rfl | rfl <;> decide) x (List.mem_range.2 hx)).2.1
theorem up_lt {x n : Nat} (hn : isN n) (hx : x < 2 * n - 1) : ∀ y ∈ upD 4 x n, y < 2 * n - 1 := (direct_facts n (by rcases hn with rfl | rfl | rfl | rfl <;> decide) x (List.mem_range.2 hx)).2.2
theorem leaves_isN {n : Nat} (h : lvD n ≠ 0) : isN (lvD n) ∧ n = 2 * lvD n - 1 := by
 rcases leavesD_cases n with h0 | ⟨h0, h1⟩ | ⟨h0, h1⟩ | ⟨h0, h1⟩ | ⟨h0, h1⟩
 · exact absurd h0 h
 all_goals
  rw [h1, h0]
  exact ⟨by decide, rfl⟩
end Go.Proofs.YtedpljclnpiggaaGreatDoor
