/-
  Stores in memory: what a block holds; what stays as it was while other blocks are written.
-/
import Derived.Test.YtagccbpjpcnmeaaGreatDoorQTerm
import Derived.Maps.OwnSet
import Derived.Maps.Views
import Derived.DeepKeys4
import Derived.Laws.AppendOwn
import Derived.Maps.AppendAt
import Derived.OneCell
set_option linter.unusedVariables false
set_option linter.unusedSimpArgs false
namespace Go.Proofs.YtagccbpjpcnmeaaGreatDoor
open Go Go.RowKit

/-- The world w' is as w was but for the blocks F, and new ones. -/
structure Turned (F : Nat → Prop) (w w' : World) : Prop where
  os : w'.os = w.os
  tape : w'.tape = w.tape
  output : w'.output = w.output
  size : w.heap.size ≤ w'.heap.size
  block : ∀ k, k < w.heap.size → ¬ F k → w'.heap[k]? = w.heap[k]?

theorem Turned.refl (F : Nat → Prop) (w : World) : Turned F w w := ⟨rfl, rfl, rfl, Nat.le_refl _, fun _ _ _ => rfl⟩
theorem Turned.mono {F F' : Nat → Prop} {w w' : World} (h : Turned F w w') (hF : ∀ k, k < w.heap.size → F k → F' k) : Turned F' w w' :=
  ⟨h.os, h.tape, h.output, h.size, fun k hk hn => h.block k hk (fun hf => hn (hF k hk hf))⟩
theorem Turned.trans {F F' : Nat → Prop} {a b c : World} (h : Turned F a b) (k : Turned F' b c) (hF : ∀ x, x < a.heap.size → F' x → F x) : Turned F a c :=
  ⟨k.os.trans h.os, k.tape.trans h.tape, k.output.trans h.output, Nat.le_trans h.size k.size, fun i hi hn => (k.block i (Nat.lt_of_lt_of_le hi h.size) (fun hf => hn (hF i hi hf))).trans (h.block i hi hn)⟩
theorem Turned.of_below {F : Nat → Prop} {B : Nat} {w w' : World} (h : Below B w w') (hF : ∀ k, k < w.heap.size → B ≤ k → F k) : Turned F w w' :=
  ⟨h.os, h.tape, h.output, h.size, fun k hk hn => h.block k (Nat.lt_of_not_le fun hB => hn (hF k hk hB))⟩
theorem Turned.new {w w' : World} (F : Nat → Prop) (h : Below w.heap.size w w') : Turned F w w' := Turned.of_below h (fun k hk hB => absurd hB (Nat.not_le_of_lt hk))
theorem Turned.below {F : Nat → Prop} {B : Nat} {w w' : World} (h : Turned F w w') (hB : B ≤ w.heap.size) (hF : ∀ k, F k → B ≤ k) : Below B w w' :=
  ⟨h.os, h.tape, h.output, h.size, fun k hk => h.block k (Nat.lt_of_lt_of_le hk hB) (fun hf => Nat.not_le_of_lt hk (hF k hf))⟩
theorem Turned.cell {F : Nat → Prop} {w w' : World} (h : Turned F w w') {p : Addr} (hp : p.block < w.heap.size) (hn : ¬ F p.block) : w'.cell? p = w.cell? p := World.cell?_of_block (w := w) (h.block p.block hp hn)
theorem Turned.alloc {F : Nat → Prop} {a w : World} (h : Turned F a w) (o : Obj) : Turned F a (w.alloc o) :=
  h.trans (Turned.new (fun _ => False) ((Below.refl _ _).alloc (Nat.le_refl _) o)) (fun _ _ h => h.elim)
theorem Turned.setCell {F : Nat → Prop} {a w : World} (h : Turned F a w) {p : Addr} (hp : p.block < a.heap.size → F p.block) (u : Value) : Turned F a (w.setCell p u) :=
  h.trans (F' := fun k => k = p.block) ⟨rfl, rfl, rfl, by simp [World.setCell], fun k _ hn => Below.heap_setCell _ _ _ _ hn⟩ (fun k hk e => by subst e; exact hp hk)
theorem Turned.grown {F : Nat → Prop} {a w w' : World} {row : Option Nat} (h : Turned F a w) (hg : w.grownBy w' row) (hr : ∀ k, k < a.heap.size → row = some k → F k) : Turned F a w' :=
  h.trans (F' := fun k => row = some k) ⟨hg.os, hg.tape, hg.output, hg.size, fun k hk hn => hg.block k hk (fun e => hn e.symm)⟩ hr

theorem Turned.drew {F : Nat → Prop} {a w : World} (h : Turned F a w) : Turned F a w.drew := ⟨h.os, h.tape, h.output, h.size, h.block⟩
theorem Turned.drewN {F : Nat → Prop} {a w : World} (h : Turned F a w) (n : Nat) : Turned F a (w.drewN n) := ⟨h.os, h.tape, h.output, h.size, h.block⟩

/-- A footprint, and what may be of it behind a call. -/
def Ext (F F' : Nat → Prop) (w w' : World) : Prop := ∀ k, F' k → F k ∨ (w.heap.size ≤ k ∧ k < w'.heap.size)
theorem Ext.refl (F : Nat → Prop) (w w' : World) : Ext F F w w' := fun _ h => .inl h
theorem Ext.trans {F F' F'' : Nat → Prop} {a b c : World} (h : Ext F F' a b) (k : Ext F' F'' b c) (hab : a.heap.size ≤ b.heap.size) (hbc : b.heap.size ≤ c.heap.size) : Ext F F'' a c := fun x hx => by
  rcases k x hx with h1 | h1
  · rcases h x h1 with h2 | h2
    · exact .inl h2
    · exact .inr (by omega)
  · exact .inr (by omega)

abbrev OwnT (v : Value) (L : List TermD) (w : World) : Prop := w.ownsRow 0 95 4 v L.length (L.flatMap TermD.vals)

theorem ownT_lt {v : Value} {L : List TermD} {w : World} (h : OwnT v L w) {k : Nat} (hk : v.ownBlock = some k) : k < w.heap.size := by
  rcases h.2 with ⟨e, _⟩ | ⟨r, cap', cur, e, _, hr, _⟩
  · rw [e] at hk; simp [Value.ownBlock] at hk
  · rw [e] at hk
    have : r = k := by simpa [Value.ownBlock] using hk
    subst this
    exact (Array.getElem?_eq_some_iff.1 hr).1

/-- The document's store. -/
def RefStore (w : World) (r : Nat) (F : Nat → Prop) (L : List TermD) : Prop :=
  ∃ v, w.heap[r]? = some (.cells #[v] 134 (0, 0)) ∧ OwnT v L w ∧ (F r ∧ ∀ g, v.ownBlock = some g → F g ∧ g ≠ r) ∧ ∀ k, F k → k < w.heap.size

theorem RefStore.kept {w w' : World} {r : Nat} {F G : Nat → Prop} {L : List TermD} (h : RefStore w r F L) (ht : Turned G w w') (hd : ∀ k, F k → ¬ G k) : RefStore w' r F L := by
  obtain ⟨v, h1, h2, h3, h4⟩ := h
  refine ⟨v, (ht.block r (h4 r h3.1) (hd r h3.1)).trans h1, ⟨h2.1, ?_⟩, h3, fun k hk => Nat.lt_of_lt_of_le (h4 k hk) ht.size⟩
  rcases h2.2 with h0 | ⟨g, cap, cur, e, hB, hg, rest⟩
  · exact .inl h0
  · have hFg := (h3.2 g (by rw [e]; rfl)).1
    exact .inr ⟨g, cap, cur, e, hB, (ht.block g (h4 g hFg) (hd g hFg)).trans hg, rest⟩

/-- A term's key. -/
noncomputable def keyT (t : TermD) : Lit := (keyOf Tryz.prog 95 (.agg t.arr)).getD (.bool false)

def mapT : TypeId := 102

/-- What the map of a store says. -/
structure TabOf (D : DataW Unit) (L : List TermD) : Prop where
  isMap : Maps.IsMap D
  has : ∀ t : TermD, t.ok → Maps.has D (keyT t) = decide (t ∈ L)
  num : ∀ t ∈ L, D.atKey (keyT t) (.lit (.int .i64 0)) = .lit (.int .i64 ((L.idxOf t : Int) + 1))

/-- The program's store. -/
def ProgStore (w : World) (s : Nat) (F : Nat → Prop) (L : List TermD) : Prop :=
  ∃ v b D, w.heap[s]? = some (.cells #[v, .map (some b)] 104 (0, 0)) ∧ OwnT v L w ∧ w.ownsMap Tryz.prog 95 (plainElem Tryz.prog 3) b L.length D ∧ TabOf D L ∧
    (F s ∧ F b ∧ b ≠ s ∧ ∀ g, v.ownBlock = some g → F g ∧ g ≠ s ∧ g ≠ b) ∧ ∀ k, F k → k < w.heap.size

theorem ProgStore.kept {w w' : World} {s : Nat} {F G : Nat → Prop} {L : List TermD} (h : ProgStore w s F L) (ht : Turned G w w') (hd : ∀ k, F k → ¬ G k) : ProgStore w' s F L := by
  obtain ⟨v, b, D, h1, h2, h3, h4, h5, h6⟩ := h
  refine ⟨v, b, D, (ht.block s (h6 s h5.1) (hd s h5.1)).trans h1, ⟨h2.1, ?_⟩, ?_, h4, h5, fun k hk => Nat.lt_of_lt_of_le (h6 k hk) ht.size⟩
  · rcases h2.2 with h0 | ⟨g, cap, cur, e, hB, hg, rest⟩
    · exact .inl h0
    · have hFg := (h5.2.2.2 g (by rw [e]; rfl)).1
      exact .inr ⟨g, cap, cur, e, hB, (ht.block g (h6 g hFg) (hd g hFg)).trans hg, rest⟩
  · obtain ⟨es, clock, hb, rest⟩ := h3
    exact ⟨es, clock, (ht.block b (h6 b h5.2.1) (hd b h5.2.1)).trans hb, rest⟩
end Go.Proofs.YtagccbpjpcnmeaaGreatDoor
