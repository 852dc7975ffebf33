/-
  path.rising: keys by their nodes, the last secret of each.
-/
import Derived.Maps.RangeWalk
import Derived.Maps.AppendAt
import Derived.Sort.OwnSorted
import Derived.Deep.AppendLies
import Derived.Test.YtedpljclnpiggaaGreatDoorQKeys
import Derived.Test.YtedpljclnpiggaaGreatDoorQCheck
import Derived.Test.YtedpljclnpiggaaGreatDoorQShelf
set_option linter.unusedVariables false
set_option linter.unusedSimpArgs false
namespace Go.Proofs.YtedpljclnpiggaaGreatDoor
open Go Go.RowKit Go.Lib Go.Sort

def keyV (k : KeyP) : List Value := [.int .i64 k.1, .int .i64 k.2]
abbrev OwnK (v : Value) (l : List KeyP) (w : World) : Prop := w.ownsRow 0 123 2 v l.length (l.flatMap keyV)

/-- The keys of a slice, nil or not. -/
def KeysAt (w : World) (a : Option Addr) (l : List KeyP) : Prop := ∀ i, i < l.length → ∃ b o, a = some ⟨b, o, none⟩ ∧ w.cell? ⟨b, o + i * 2, none⟩ = some (.int .i64 (l.getD i (0, 0)).1) ∧ w.cell? ⟨b, o + i * 2 + 1, none⟩ = some (.int .i64 (l.getD i (0, 0)).2)

theorem KeysAt.below {B : Nat} {w w' : World} {a : Option Addr} {l : List KeyP} (h : KeysAt w a l) (hb : Below B w w') (hB : w.heap.size ≤ B) : KeysAt w' a l := fun i hi => by
  obtain ⟨b, o, e, c0, c1⟩ := h i hi
  have hl := World.block_lt_of_cell? w _ c0
  exact ⟨b, o, e, (hb.cell (p := ⟨b, o + i * 2, none⟩) (Nat.lt_of_lt_of_le hl hB)).trans c0, (hb.cell (p := ⟨b, o + i * 2 + 1, none⟩) (Nat.lt_of_lt_of_le hl hB)).trans c1⟩

theorem infoKey : (Tryz.prog.info? 123).map (fun i => (i.zero, i.size, i.bytes)) = some (some (.agg #[.int .i64 0, .int .i64 0]), 2, 16) := by kernel_rfl

/-- What the map says. -/
structure KTab (D : DataW Unit) (l : List KeyP) : Prop where
  isMap : Maps.IsMap D
  has : ∀ n, Maps.has D (.int .i64 n) = hasNode (risingD l) n
  num : ∀ p ∈ risingD l, D.atKey (.int .i64 p.1) (.lit (.int .i64 0)) = .lit (.int .i64 p.2)

theorem ktab_nil : KTab (.map []) [] := ⟨Maps.isMap_empty, fun _ => rfl, fun p h => by simp [risingD] at h⟩

theorem lit_ne {a b : Int} (h : a ≠ b) : (Lit.int .i64 a : Lit) ≠ .int .i64 b := fun e => h (by injection e)
theorem lit_key (a : Int) : WideAt.IsKeyLit (.int .i64 a) := trivial

theorem KTab.put {D : DataW Unit} {l : List KeyP} (h : KTab D l) (k : KeyP) : KTab (D.put (.int .i64 k.1) (.lit (.int .i64 k.2))) (l ++ [k]) := by
  have hr := rising_risingD l
  refine ⟨h.isMap.put _ _, fun n => ?_, fun p hp => ?_⟩
  · rw [risingD_snoc, hasNode_put hr]
    by_cases e : n = k.1
    · subst e
      rw [Maps.has_put_same h.isMap (lit_key _)]
      simp
    · rw [Maps.has_put_other (lit_ne e), h.has n]
      simp [e]
  · rw [risingD_snoc] at hp
    rcases (mem_putD _ k hr p).1 hp with rfl | ⟨hp, hne⟩
    · rw [Maps.atKey_put_same h.isMap (lit_key _)]
    · rw [Maps.atKey_put_other (lit_ne hne), h.num p hp]

/-- The map under way: k keys have been laid. -/
def RisIn (l : List KeyP) (w : World) (mb k : Nat) (wr : World) : Prop := ∃ D, IMap wr mb k D ∧ KTab D (l.take k) ∧ Below w.heap.size w wr ∧ mb < wr.heap.size
def RisRel (l : List KeyP) (w : World) (mb : Nat) (i : Value) (wr : World) : Prop := ∃ k, k ≤ l.length ∧ i = .int .i64 k ∧ RisIn l w mb k wr

/-- What has been collected. -/
def ColK (l : List KeyP) (left : Lit → Bool) (out : List KeyP) : Prop :=
  (out.map (·.1)).Nodup ∧ ∀ p, p ∈ out ↔ (p ∈ risingD l ∧ left (.int .i64 p.1) = false)

theorem colK_start {l : List KeyP} {D : DataW Unit} (h : KTab D l) : ColK l (Maps.has D) [] := by
  refine ⟨by simp, fun p => ⟨fun hp => by simp at hp, fun ⟨hp, hl⟩ => ?_⟩⟩
  rw [h.has p.1] at hl
  have : hasNode (risingD l) p.1 = true := hasNode_iff.2 ⟨p.2, hp⟩
  rw [this] at hl
  cases hl

theorem ColK.step {l : List KeyP} {D : DataW Unit} {left : Lit → Bool} {out : List KeyP} {x c : Int} (h : ColK l left out) (hT : KTab D l) (hleft : ∀ n, left (.int .i64 n) = true → hasNode (risingD l) n = true) (hx : left (.int .i64 x) = true) (hat : ∀ zd, D.atKey (.int .i64 x) zd = .lit (.int .i64 c)) :
    ColK l (fun z => left z && !z.sameKey (.int .i64 x)) (out ++ [(x, c)]) := by
  obtain ⟨s, hs⟩ := hasNode_iff.1 (hleft x hx)
  have hsc : s = c := by
    have h1 := hT.num _ hs
    rw [hat] at h1
    simpa using h1.symm
  subst hsc
  refine ⟨?_, fun p => ?_⟩
  · rw [List.map_append, List.nodup_append]
    refine ⟨h.1, by simp, fun a ha b hb e => ?_⟩
    obtain ⟨p, hp, rfl⟩ := List.mem_map.1 ha
    have hbx : b = x := by simpa using hb
    have h2 := ((h.2 p).1 hp).2
    rw [e, hbx, hx] at h2
    cases h2
  · rw [List.mem_append, h.2 p, List.mem_singleton]
    constructor
    · rintro (⟨hp, hl⟩ | rfl)
      · exact ⟨hp, by simp [hl]⟩
      · exact ⟨hs, by simp [Lit.sameKey]⟩
    · rintro ⟨hp, hl⟩
      by_cases e : p.1 = x
      · refine .inr (RisingK.one (rising_risingD l) hp hs e)
      · refine .inl ⟨hp, ?_⟩
        have : (Lit.int .i64 p.1).sameKey (.int .i64 x) = false := by simp [Lit.sameKey, e]
        simpa [this] using hl

/-- The range under way. -/
def RngRel (l : List KeyP) (D : DataW Unit) (w : World) (mb r n B : Nat) (v : Value) (wr : World) : Prop :=
  ∃ (left : Lit → Bool) (cnt : Nat) (out : List KeyP), wr.ranges Tryz.prog 3 (plainElem Tryz.prog 3) mb r n D left cnt ∧ out.length + cnt ≤ Maps.size D ∧
    wr.ownsRow B 123 2 v out.length (out.flatMap keyV) ∧ ColK l left out ∧ (∀ z, left (.int .i64 z) = true → hasNode (risingD l) z = true) ∧ Below w.heap.size w wr

/-- A permutation of a rising list that is sorted is that list. -/
theorem sorted_is {l out d : List KeyP} (hc : ColK l (fun _ => false) out) (hp : d.Perm out) (hs : d.Pairwise (fun a b => ¬ b.1 < a.1)) : d = risingD l := by
  have hnd : (d.map (·.1)).Nodup := (hp.map _).nodup_iff.2 hc.1
  have hr : RisingK d := by
    have h2 : d.Pairwise (fun a b => a.1 ≠ b.1) := List.pairwise_map.1 hnd
    exact (hs.and h2).imp (fun ⟨h1, h3⟩ => by omega)
  refine rising_ext hr (rising_risingD l) fun p => ?_
  rw [hp.mem_iff, hc.2 p]
  simp
end Go.Proofs.YtedpljclnpiggaaGreatDoor
