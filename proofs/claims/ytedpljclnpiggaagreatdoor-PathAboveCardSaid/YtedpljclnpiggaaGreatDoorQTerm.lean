/-
  Terms and stores as data: what Make does to a list of terms.
-/
import Derived.WalkKit
import Derived.WalkSpells
import Derived.WalkLawsBesides
import Derived.Lib.Hide
import Derived.Laws.StructEq
import Derived.Maps.OwnSet
import Derived.Maps.Views
import Derived.DeepKeys4
import Derived.Laws.AppendOwn
import Derived.Maps.AppendAt
import Derived.OneCell
import Derived.Test.YtedpljclnpiggaaGreatDoorRows
import Derived.Test.YtedpljclnpiggaaGreatDoorMem
set_option linter.unusedVariables false
set_option linter.unusedSimpArgs false
namespace Go.Proofs.YtedpljclnpiggaaGreatDoor
open Go.RowKit

/-- A term, as data. -/
structure TermD where
  kind : Int
  n : Int
  a : Int
  b : Int
deriving DecidableEq

def i64ok (x : Int) : Prop := -9223372036854775808 ≤ x ∧ x ≤ 9223372036854775807
def TermD.ok (t : TermD) : Prop := (0 ≤ t.kind ∧ t.kind ≤ 255) ∧ i64ok t.n ∧ i64ok t.a ∧ i64ok t.b
def TermD.arr (t : TermD) : Array Value := #[.int .u8 t.kind, .int .i64 t.n, .int .i64 t.a, .int .i64 t.b]
def TermD.vals (t : TermD) : List Value := [.int .u8 t.kind, .int .i64 t.n, .int .i64 t.a, .int .i64 t.b]
def zeroT : TermD := ⟨0, 0, 0, 0⟩

/-- What four cells hold. -/
def TermAt (w : World) (b o : Nat) (t : TermD) : Prop :=
  w.cell? ⟨b, o, none⟩ = some (.int .u8 t.kind) ∧ w.cell? ⟨b, o + 1, none⟩ = some (.int .i64 t.n) ∧ w.cell? ⟨b, o + 2, none⟩ = some (.int .i64 t.a) ∧ w.cell? ⟨b, o + 3, none⟩ = some (.int .i64 t.b)

/-- The terms of a slice, nil or not. -/
def Terms (w : World) (a : Option Addr) (n : Nat) (f : Nat → TermD) : Prop := ∀ i, i < n → ∃ b o, a = some ⟨b, o, none⟩ ∧ TermAt w b (o + i * 4) (f i)

def thereD (m : Nat) (x : Int) : Bool := decide (1 ≤ x) && decide (x ≤ m)

def mayD (m : Nat) (t : TermD) : Bool :=
  if t.kind = 1 then decide (0 ≤ t.n) && decide (t.a = 0) && decide (t.b = 0)
  else if t.kind = 2 then decide (t.a = 0) && decide (t.b = 0)
  else if t.kind = 3 ∨ t.kind = 6 then decide (t.n = 0) && thereD m t.a && thereD m t.b
  else if t.kind = 4 then decide (0 ≤ t.n) && thereD m t.a && (thereD m t.b || decide (t.b = 0))
  else if t.kind = 5 ∨ t.kind = 7 then decide (t.n = 0) && thereD m t.a && decide (t.b = 0)
  else false

def makeN (L : List TermD) (t : TermD) : Int :=
  if mayD L.length t = false then 0 else if t ∈ L then (L.idxOf t : Int) + 1 else if 1048576 ≤ L.length then 0 else (L.length : Int) + 1
def makeE (L : List TermD) (t : TermD) : Int :=
  if mayD L.length t = false then 1 else if t ∈ L then 0 else if 1048576 ≤ L.length then 3 else 0
def makeL (L : List TermD) (t : TermD) : List TermD :=
  if mayD L.length t = false then L else if t ∈ L then L else if 1048576 ≤ L.length then L else L ++ [t]

/-- What is so of a store's terms. -/
structure Good (L : List TermD) : Prop where
  nodup : L.Nodup
  ok : ∀ t ∈ L, t.ok
  parts : ∀ (i : Nat) (t : TermD), L[i]? = some t → (0 ≤ t.a ∧ t.a ≤ i) ∧ (0 ≤ t.b ∧ t.b ≤ i)

theorem good_nil : Good [] := ⟨List.nodup_nil, fun _ h => by simp at h, fun i t h => by simp at h⟩

theorem there_bounds {m : Nat} {x : Int} (h : thereD m x = true) : 1 ≤ x ∧ x ≤ m := by
  unfold thereD at h
  simpa using h

theorem may_parts {m : Nat} {t : TermD} (h : mayD m t = true) : (0 ≤ t.a ∧ t.a ≤ m) ∧ (0 ≤ t.b ∧ t.b ≤ m) := by
  unfold mayD at h
  have hb := fun x => @there_bounds m x
  split at h
  · simp only [Bool.and_eq_true, decide_eq_true_eq] at h; omega
  · split at h
    · simp only [Bool.and_eq_true, decide_eq_true_eq] at h; omega
    · split at h
      · simp only [Bool.and_eq_true, decide_eq_true_eq] at h
        have h1 := hb _ h.1.2
        have h2 := hb _ h.2
        omega
      · split at h
        · simp only [Bool.and_eq_true, Bool.or_eq_true, decide_eq_true_eq] at h
          have h1 := hb _ h.1.2
          rcases h.2 with h2 | h2
          · have := hb _ h2; omega
          · omega
        · split at h
          · simp only [Bool.and_eq_true, decide_eq_true_eq] at h
            have h1 := hb _ h.1.2
            omega
          · cases h

theorem makeL_cases (L : List TermD) (t : TermD) : makeL L t = L ∨ (mayD L.length t = true ∧ t ∉ L ∧ L.length < 1048576 ∧ makeL L t = L ++ [t]) := by
  unfold makeL
  split
  · exact .inl rfl
  · rename_i hm
    split
    · exact .inl rfl
    · rename_i ht
      split
      · exact .inl rfl
      · rename_i hl
        exact .inr ⟨by simpa using hm, ht, by omega, rfl⟩

theorem Good.make {L : List TermD} {t : TermD} (h : Good L) (ht : t.ok) : Good (makeL L t) := by
  rcases makeL_cases L t with e | ⟨hm, hn, _, e⟩
  · rw [e]; exact h
  · rw [e]
    refine ⟨?_, fun s hs => ?_, fun i s hs => ?_⟩
    · rw [List.nodup_append]
      refine ⟨h.nodup, by simp, fun x hx y hy exy => ?_⟩
      have hyt : y = t := by simpa using hy
      rw [exy, hyt] at hx
      exact hn hx
    · rcases List.mem_append.1 hs with hs | hs
      · exact h.ok s hs
      · have : s = t := by simpa using hs
        rw [this]; exact ht
    · by_cases hi : i < L.length
      · rw [List.getElem?_append_left hi] at hs
        exact h.parts i s hs
      · rw [List.getElem?_append_right (by omega)] at hs
        have h0 : i - L.length = 0 := by
          have := (List.getElem?_eq_some_iff.1 hs).1
          simp at this
          omega
        rw [h0] at hs
        have : t = s := by simpa using hs
        subst this
        have := may_parts hm
        omega

theorem makeL_len (L : List TermD) (t : TermD) : L.length ≤ (makeL L t).length ∧ (makeL L t).length ≤ L.length + 1 := by
  rcases makeL_cases L t with e | ⟨_, _, _, e⟩ <;> rw [e] <;> simp

theorem makeL_pre (L : List TermD) (t : TermD) : L <+: makeL L t := by
  rcases makeL_cases L t with e | ⟨_, _, _, e⟩ <;> rw [e]
  · exact List.prefix_refl _
  · exact List.prefix_append _ _

theorem makeN_bounds (L : List TermD) (t : TermD) : 0 ≤ makeN L t ∧ makeN L t ≤ (makeL L t).length := by
  unfold makeN makeL
  split
  · simp
  · split
    · rename_i h
      have := List.idxOf_lt_length_of_mem h
      omega
    · split
      · simp
      · simp; omega

/-- A term that is there already is found at its place. -/
theorem make_there {L : List TermD} (h : Good L) {i : Nat} {t : TermD} (hi : L[i]? = some t) (hm : mayD L.length t = true) : makeN L t = (i : Int) + 1 ∧ makeE L t = 0 ∧ makeL L t = L := by
  have hmem : t ∈ L := List.mem_of_getElem? hi
  have hidx : L.idxOf t = i := by
    have hlt := (List.getElem?_eq_some_iff.1 hi).1
    have hj := List.idxOf_lt_length_of_mem hmem
    have e1 : L[L.idxOf t]'hj = t := List.getElem_idxOf hj
    have e2 : L[i]'hlt = t := (List.getElem?_eq_some_iff.1 hi).2
    have hp := List.pairwise_iff_getElem.1 h.nodup
    rcases Nat.lt_trichotomy (L.idxOf t) i with h1 | h1 | h1
    · exact absurd (e1.trans e2.symm) (hp _ _ hj hlt h1)
    · exact h1
    · exact absurd (e2.trans e1.symm) (hp _ _ hlt hj h1)
  have hm' : ¬ mayD L.length t = false := by rw [hm]; simp
  unfold makeN makeE makeL
  rw [if_neg hm', if_pos hmem, if_neg hm', if_pos hmem, if_neg hm', if_pos hmem, hidx]
  exact ⟨rfl, rfl, rfl⟩

theorem flat4 (d : TermD) (l : List TermD) (i j : Nat) (hi : i < l.length) (hj : j < 4) : (l.flatMap TermD.vals)[i * 4 + j]? = (l.getD i d).vals[j]? := by
  induction l generalizing i with
  | nil => simp at hi
  | cons x r ih =>
    cases i with
    | zero => rw [List.flatMap_cons, List.getElem?_append_left (by simp [TermD.vals]; omega)]; simp
    | succ i =>
      rw [List.flatMap_cons, List.getElem?_append_right (by simp [TermD.vals]; omega), show (i + 1) * 4 + j - x.vals.length = i * 4 + j by simp [TermD.vals]; omega, ih i (by simpa using hi)]
      simp

theorem flat4_len (l : List TermD) : (l.flatMap TermD.vals).length = l.length * 4 := by
  induction l with
  | nil => rfl
  | cons x r ih => rw [List.flatMap_cons, List.length_append, ih]; simp [TermD.vals]; omega

theorem four_one (t : TermD) : ∀ u ∈ t.vals, u.oneCell' = true := by
  intro u hu
  simp only [TermD.vals, List.mem_cons, List.not_mem_nil, or_false] at hu
  rcases hu with rfl | rfl | rfl | rfl <;> rfl

theorem eq_term (k n a b k' n' a' b' : Int) (w : World) : (Op.equalIn 10000 107 (.agg #[.int .u8 k, .int .i64 n, .int .i64 a, .int .i64 b]) (.agg #[.int .u8 k', .int .i64 n', .int .i64 a', .int .i64 b'])).run Tryz.prog w =
    .ok (decide ((⟨k, n, a, b⟩ : TermD) = ⟨k', n', a', b'⟩)) w := by
  rw [run_equalIn_struct (P := Tryz.prog) w 9999 _ _ _ (by kernel_rfl) (by kernel_rfl)]
  simp only [Program.fieldsOf, Tryz.underlying107, TermD.mk.injEq]
  simp [Op.eqFields, go_sem]
  by_cases h0 : k = k' <;> by_cases h1 : n = n' <;> by_cases h2 : a = a' <;> by_cases h3 : b = b' <;> simp [h0, h1, h2, h3]

theorem binop_eql_term (s t : TermD) (w : World) : (binOp .eql 107 (.agg #[.int .u8 s.kind, .int .i64 s.n, .int .i64 s.a, .int .i64 s.b]) (.agg #[.int .u8 t.kind, .int .i64 t.n, .int .i64 t.a, .int .i64 t.b])).run Tryz.prog w = .ok (.bool (decide (s = t))) w := by
  rw [run_eql_struct, eq_term]; rfl
end Go.Proofs.YtedpljclnpiggaaGreatDoor

/-
  Stores in memory: what a block holds; what stays as it was while other blocks are written.
-/
namespace Go.Proofs.YtedpljclnpiggaaGreatDoor
open Go Go.RowKit

/-- The world w' is as w was but for the blocks F, and new ones. -/
structure Turned (F : Nat → Prop) (w w' : World) : Prop where
  os : w'.os = w.os
  tape : w'.tape = w.tape
  output : w'.output = w.output
  size : w.heap.size ≤ w'.heap.size
  block : ∀ k, k < w.heap.size → ¬ F k → w'.heap[k]? = w.heap[k]?

theorem Turned.refl (F : Nat → Prop) (w : World) : Turned F w w := ⟨rfl, rfl, rfl, Nat.le_refl _, fun _ _ _ => rfl⟩
theorem Turned.mono {F F' : Nat → Prop} {w w' : World} (h : Turned F w w') (hF : ∀ k, k < w.heap.size → F k → F' k) : Turned F' w w' :=
  ⟨h.os, h.tape, h.output, h.size, fun k hk hn => h.block k hk (fun hf => hn (hF k hk hf))⟩
theorem Turned.trans {F F' : Nat → Prop} {a b c : World} (h : Turned F a b) (k : Turned F' b c) (hF : ∀ x, x < a.heap.size → F' x → F x) : Turned F a c :=
  ⟨k.os.trans h.os, k.tape.trans h.tape, k.output.trans h.output, Nat.le_trans h.size k.size, fun i hi hn => (k.block i (Nat.lt_of_lt_of_le hi h.size) (fun hf => hn (hF i hi hf))).trans (h.block i hi hn)⟩
theorem Turned.of_below {F : Nat → Prop} {B : Nat} {w w' : World} (h : Below B w w') (hF : ∀ k, k < w.heap.size → B ≤ k → F k) : Turned F w w' :=
  ⟨h.os, h.tape, h.output, h.size, fun k hk hn => h.block k (Nat.lt_of_not_le fun hB => hn (hF k hk hB))⟩
theorem Turned.new {w w' : World} (F : Nat → Prop) (h : Below w.heap.size w w') : Turned F w w' := Turned.of_below h (fun k hk hB => absurd hB (Nat.not_le_of_lt hk))
theorem Turned.below {F : Nat → Prop} {B : Nat} {w w' : World} (h : Turned F w w') (hB : B ≤ w.heap.size) (hF : ∀ k, F k → B ≤ k) : Below B w w' :=
  ⟨h.os, h.tape, h.output, h.size, fun k hk => h.block k (Nat.lt_of_lt_of_le hk hB) (fun hf => Nat.not_le_of_lt hk (hF k hf))⟩
theorem Turned.cell {F : Nat → Prop} {w w' : World} (h : Turned F w w') {p : Addr} (hp : p.block < w.heap.size) (hn : ¬ F p.block) : w'.cell? p = w.cell? p := World.cell?_of_block (w := w) (h.block p.block hp hn)
theorem Turned.alloc {F : Nat → Prop} {a w : World} (h : Turned F a w) (o : Obj) : Turned F a (w.alloc o) :=
  h.trans (Turned.new (fun _ => False) ((Below.refl _ _).alloc (Nat.le_refl _) o)) (fun _ _ h => h.elim)
theorem Turned.setCell {F : Nat → Prop} {a w : World} (h : Turned F a w) {p : Addr} (hp : p.block < a.heap.size → F p.block) (u : Value) : Turned F a (w.setCell p u) :=
  h.trans (F' := fun k => k = p.block) ⟨rfl, rfl, rfl, by simp [World.setCell], fun k _ hn => Below.heap_setCell _ _ _ _ hn⟩ (fun k hk e => by subst e; exact hp hk)
theorem Turned.grown {F : Nat → Prop} {a w w' : World} {row : Option Nat} (h : Turned F a w) (hg : w.grownBy w' row) (hr : ∀ k, k < a.heap.size → row = some k → F k) : Turned F a w' :=
  h.trans (F' := fun k => row = some k) ⟨hg.os, hg.tape, hg.output, hg.size, fun k hk hn => hg.block k hk (fun e => hn e.symm)⟩ hr

theorem Turned.drew {F : Nat → Prop} {a w : World} (h : Turned F a w) : Turned F a w.drew := ⟨h.os, h.tape, h.output, h.size, h.block⟩
theorem Turned.drewN {F : Nat → Prop} {a w : World} (h : Turned F a w) (n : Nat) : Turned F a (w.drewN n) := ⟨h.os, h.tape, h.output, h.size, h.block⟩

/-- A footprint, and what may be of it behind a call. -/
def Ext (F F' : Nat → Prop) (w w' : World) : Prop := ∀ k, F' k → F k ∨ (w.heap.size ≤ k ∧ k < w'.heap.size)
theorem Ext.refl (F : Nat → Prop) (w w' : World) : Ext F F w w' := fun _ h => .inl h
theorem Ext.trans {F F' F'' : Nat → Prop} {a b c : World} (h : Ext F F' a b) (k : Ext F' F'' b c) (hab : a.heap.size ≤ b.heap.size) (hbc : b.heap.size ≤ c.heap.size) : Ext F F'' a c := fun x hx => by
  rcases k x hx with h1 | h1
  · rcases h x h1 with h2 | h2
    · exact .inl h2
    · exact .inr (by omega)
  · exact .inr (by omega)

abbrev OwnT (v : Value) (L : List TermD) (w : World) : Prop := w.ownsRow 0 107 4 v L.length (L.flatMap TermD.vals)

theorem ownT_lt {v : Value} {L : List TermD} {w : World} (h : OwnT v L w) {k : Nat} (hk : v.ownBlock = some k) : k < w.heap.size := by
  rcases h.2 with ⟨e, _⟩ | ⟨r, cap', cur, e, _, hr, _⟩
  · rw [e] at hk; simp [Value.ownBlock] at hk
  · rw [e] at hk
    have : r = k := by simpa [Value.ownBlock] using hk
    subst this
    exact (Array.getElem?_eq_some_iff.1 hr).1

/-- The document's store. -/
def RefStore (w : World) (r : Nat) (F : Nat → Prop) (L : List TermD) : Prop :=
  ∃ v, w.heap[r]? = some (.cells #[v] 156 (0, 0)) ∧ OwnT v L w ∧ (F r ∧ ∀ g, v.ownBlock = some g → F g ∧ g ≠ r) ∧ ∀ k, F k → k < w.heap.size

theorem RefStore.kept {w w' : World} {r : Nat} {F G : Nat → Prop} {L : List TermD} (h : RefStore w r F L) (ht : Turned G w w') (hd : ∀ k, F k → ¬ G k) : RefStore w' r F L := by
  obtain ⟨v, h1, h2, h3, h4⟩ := h
  refine ⟨v, (ht.block r (h4 r h3.1) (hd r h3.1)).trans h1, ⟨h2.1, ?_⟩, h3, fun k hk => Nat.lt_of_lt_of_le (h4 k hk) ht.size⟩
  rcases h2.2 with h0 | ⟨g, cap, cur, e, hB, hg, rest⟩
  · exact .inl h0
  · have hFg := (h3.2 g (by rw [e]; rfl)).1
    exact .inr ⟨g, cap, cur, e, hB, (ht.block g (h4 g hFg) (hd g hFg)).trans hg, rest⟩

/-- A term's key. -/
noncomputable def keyT (t : TermD) : Lit := (keyOf Tryz.prog 107 (.agg t.arr)).getD (.bool false)

def mapT : TypeId := 152

/-- What the map of a store says. -/
structure TabOf (D : DataW Unit) (L : List TermD) : Prop where
  isMap : Maps.IsMap D
  has : ∀ t : TermD, t.ok → Maps.has D (keyT t) = decide (t ∈ L)
  num : ∀ t ∈ L, D.atKey (keyT t) (.lit (.int .i64 0)) = .lit (.int .i64 ((L.idxOf t : Int) + 1))

/-- The program's store. -/
def ProgStore (w : World) (s : Nat) (F : Nat → Prop) (L : List TermD) : Prop :=
  ∃ v b D, w.heap[s]? = some (.cells #[v, .map (some b)] 154 (0, 0)) ∧ OwnT v L w ∧ w.ownsMap Tryz.prog 107 (plainElem Tryz.prog 3) b L.length D ∧ TabOf D L ∧
    (F s ∧ F b ∧ b ≠ s ∧ ∀ g, v.ownBlock = some g → F g ∧ g ≠ s ∧ g ≠ b) ∧ ∀ k, F k → k < w.heap.size

theorem ProgStore.kept {w w' : World} {s : Nat} {F G : Nat → Prop} {L : List TermD} (h : ProgStore w s F L) (ht : Turned G w w') (hd : ∀ k, F k → ¬ G k) : ProgStore w' s F L := by
  obtain ⟨v, b, D, h1, h2, h3, h4, h5, h6⟩ := h
  refine ⟨v, b, D, (ht.block s (h6 s h5.1) (hd s h5.1)).trans h1, ⟨h2.1, ?_⟩, ?_, h4, h5, fun k hk => Nat.lt_of_lt_of_le (h6 k hk) ht.size⟩
  · rcases h2.2 with h0 | ⟨g, cap, cur, e, hB, hg, rest⟩
    · exact .inl h0
    · have hFg := (h5.2.2.2 g (by rw [e]; rfl)).1
      exact .inr ⟨g, cap, cur, e, hB, (ht.block g (h6 g hFg) (hd g hFg)).trans hg, rest⟩
  · obtain ⟨es, clock, hb, rest⟩ := h3
    exact ⟨es, clock, (ht.block b (h6 b h5.2.1) (hd b h5.2.1)).trans hb, rest⟩
end Go.Proofs.YtedpljclnpiggaaGreatDoor

/-
  Paths' secrets as data: what a row of derivations does to a list of terms.
-/
namespace Go.Proofs.YtedpljclnpiggaaGreatDoor

def kdfT (label secret : Int) : TermD := ⟨4, label, secret, 0⟩
def pubT (key : Int) : TermD := ⟨5, 0, key, 0⟩

theorem there_mono {m m' : Nat} {x : Int} (h : thereD m x = true) (hm : m ≤ m') : thereD m' x = true := by
  have := there_bounds h
  unfold thereD
  simp
  omega

theorem may_kdf {m : Nat} {label x : Int} (h0 : 0 ≤ label) (hx : thereD m x = true) : mayD m (kdfT label x) = true := by
  simp [mayD, kdfT, h0, hx]
theorem may_pub {m : Nat} {x : Int} (hx : thereD m x = true) : mayD m (pubT x) = true := by
  simp [mayD, pubT, hx]

theorem make_ok {L : List TermD} {t : TermD} (hm : mayD L.length t = true) (hl : L.length < 1048576) : makeE L t = 0 ∧ thereD (makeL L t).length (makeN L t) = true := by
  have hm' : ¬ mayD L.length t = false := by rw [hm]; simp
  unfold makeE makeN makeL
  rw [if_neg hm', if_neg hm', if_neg hm']
  by_cases h : t ∈ L
  · rw [if_pos h, if_pos h, if_pos h]
    have := List.idxOf_lt_length_of_mem h
    refine ⟨rfl, ?_⟩
    unfold thereD
    simp
    omega
  · have hl' : ¬ 1048576 ≤ L.length := by omega
    rw [if_neg h, if_neg h, if_neg h, if_neg hl', if_neg hl', if_neg hl']
    refine ⟨rfl, ?_⟩
    unfold thereD
    simp
    omega

theorem kdf_ok {label x : Int} (h : i64ok label) (hx : i64ok x) : (kdfT label x).ok := ⟨by simp [kdfT], h, hx, by simp [kdfT, i64ok]⟩
theorem pub_ok {x : Int} (hx : i64ok x) : (pubT x).ok := ⟨by simp [pubT], by simp [pubT, i64ok], hx, by simp [pubT, i64ok]⟩
theorem there_i64 {m : Nat} {x : Int} (h : thereD m x = true) (hm : m ≤ 2000000) : i64ok x := by
  have := there_bounds h
  unfold i64ok
  omega

/-- So many derivations, one behind the other. -/
def secGo : Nat → List TermD → Int → List Int
  | 0, _, _ => []
  | k + 1, L, x => makeN L (kdfT 1 x) :: secGo k (makeL L (kdfT 1 x)) (makeN L (kdfT 1 x))
def secEnd : Nat → List TermD → Int → List TermD
  | 0, L, _ => L
  | k + 1, L, x => secEnd k (makeL L (kdfT 1 x)) (makeN L (kdfT 1 x))

theorem secGo_len : ∀ (k : Nat) (L : List TermD) (x : Int), (secGo k L x).length = k
  | 0, _, _ => rfl
  | k + 1, L, x => by unfold secGo; rw [List.length_cons, secGo_len k]

theorem secEnd_len : ∀ (k : Nat) (L : List TermD) (x : Int), L.length ≤ (secEnd k L x).length ∧ (secEnd k L x).length ≤ L.length + k
  | 0, _, _ => by simp [secEnd]
  | k + 1, L, x => by
    unfold secEnd
    have h := secEnd_len k (makeL L (kdfT 1 x)) (makeN L (kdfT 1 x))
    have h1 := makeL_len L (kdfT 1 x)
    omega

theorem secGo_there : ∀ (k : Nat) (L : List TermD) (x : Int), thereD L.length x = true → L.length + k < 1048576 → ∀ y ∈ secGo k L x, thereD (secEnd k L x).length y = true
  | 0, _, _, _, _ => by simp [secGo]
  | k + 1, L, x, hx, hl => by
    intro y hy
    have hm := make_ok (may_kdf (label := 1) (by omega) hx) (by omega : L.length < 1048576)
    have h1 := makeL_len L (kdfT 1 x)
    have h2 := secEnd_len k (makeL L (kdfT 1 x)) (makeN L (kdfT 1 x))
    unfold secGo at hy
    unfold secEnd
    rcases List.mem_cons.1 hy with rfl | hy
    · exact there_mono hm.2 h2.1
    · exact secGo_there k _ _ hm.2 (by omega) y hy

theorem secEnd_good : ∀ (k : Nat) (L : List TermD) (x : Int), Good L → thereD L.length x = true → L.length + k < 1048576 → Good (secEnd k L x)
  | 0, _, _, h, _, _ => h
  | k + 1, L, x, h, hx, hl => by
    have hm := make_ok (may_kdf (label := 1) (by omega) hx) (by omega : L.length < 1048576)
    have h1 := makeL_len L (kdfT 1 x)
    unfold secEnd
    exact secEnd_good k _ _ (h.make (kdf_ok (by simp [i64ok]) (there_i64 hx (by omega)))) hm.2 (by omega)

/-- What path.Secrets answers. -/
def secretsBad (L : List TermD) (seed many : Int) : Bool := decide (many < 0) || decide (16 < many) || !thereD L.length seed
def secretsL (L : List TermD) (seed many : Int) : List Int := if secretsBad L seed many then [] else seed :: secGo many.toNat L seed
def secretsE (L : List TermD) (seed many : Int) : Int := if secretsBad L seed many then 1 else 0
def secretsT (L : List TermD) (seed many : Int) : List TermD := if secretsBad L seed many then L else secEnd many.toNat L seed

/-- What path.Node answers. -/
def nodeK (L : List TermD) (x : Int) : Int := if thereD L.length x then makeN L (kdfT 2 x) else 0
def nodeP (L : List TermD) (x : Int) : Int := if thereD L.length x then makeN (makeL L (kdfT 2 x)) (pubT (makeN L (kdfT 2 x))) else 0
def nodeE (L : List TermD) (x : Int) : Int := if thereD L.length x then 0 else 1
def nodeT (L : List TermD) (x : Int) : List TermD := if thereD L.length x then makeL (makeL L (kdfT 2 x)) (pubT (makeN L (kdfT 2 x))) else L

theorem secrets_facts {L : List TermD} {seed many : Int} (h : Good L) (hl : L.length ≤ 4000) : Good (secretsT L seed many) ∧ (secretsT L seed many).length ≤ L.length + 16 ∧ (∀ y ∈ secretsL L seed many, thereD (secretsT L seed many).length y = true) ∧ L.length ≤ (secretsT L seed many).length := by
  unfold secretsT secretsL
  cases hb : secretsBad L seed many
  · have hb' := hb
    unfold secretsBad at hb'
    simp only [Bool.or_eq_false_iff, decide_eq_false_iff_not, Bool.not_eq_false'] at hb'
    obtain ⟨⟨h0, h1⟩, h2⟩ := hb'
    have hlen := secEnd_len many.toNat L seed
    simp only [Bool.false_eq_true, if_false]
    refine ⟨secEnd_good _ _ _ h h2 (by omega), by omega, fun y hy => ?_, hlen.1⟩
    rcases List.mem_cons.1 hy with rfl | hy
    · exact there_mono h2 hlen.1
    · exact secGo_there _ _ _ h2 (by omega) y hy
  · simp only [if_true]
    exact ⟨h, by omega, by simp, Nat.le_refl _⟩

theorem node_facts {L : List TermD} {x : Int} (h : Good L) (hl : L.length ≤ 5000) : Good (nodeT L x) ∧ (nodeT L x).length ≤ L.length + 2 ∧ L.length ≤ (nodeT L x).length ∧ (0 ≤ nodeK L x ∧ nodeK L x ≤ (nodeT L x).length) ∧ (0 ≤ nodeP L x ∧ nodeP L x ≤ (nodeT L x).length) := by
  unfold nodeT nodeK nodeP
  cases hx : thereD L.length x
  · simp only [Bool.false_eq_true, if_false]
    exact ⟨h, by omega, Nat.le_refl _, by omega, by omega⟩
  · simp only [if_true]
    have hm := make_ok (may_kdf (label := 2) (by omega) hx) (by omega : L.length < 1048576)
    have h1 := makeL_len L (kdfT 2 x)
    have h2 := makeL_len (makeL L (kdfT 2 x)) (pubT (makeN L (kdfT 2 x)))
    have hb1 := makeN_bounds L (kdfT 2 x)
    have hb2 := makeN_bounds (makeL L (kdfT 2 x)) (pubT (makeN L (kdfT 2 x)))
    refine ⟨(h.make (kdf_ok (by simp [i64ok]) (there_i64 hx (by omega)))).make (pub_ok (there_i64 hm.2 (by omega))), by omega, by omega, by omega, by omega⟩

/-- What a row of Makes does. -/
def buildL (l : List TermD) : List TermD := l.foldl makeL []
theorem buildL_snoc (l : List TermD) (t : TermD) : buildL (l ++ [t]) = makeL (buildL l) t := by unfold buildL; rw [List.foldl_append]; rfl
theorem fold_facts : ∀ (l L : List TermD), Good L → (∀ t ∈ l, t.ok) → Good (l.foldl makeL L) ∧ (l.foldl makeL L).length ≤ L.length + l.length
  | [], L, h, _ => ⟨h, by simp⟩
  | t :: l, L, h, hl => by
    rw [List.foldl_cons]
    have h1 := fold_facts l (makeL L t) (h.make (hl t (by simp))) (fun s hs => hl s (by simp [hs]))
    have h2 := makeL_len L t
    refine ⟨h1.1, ?_⟩
    simp
    omega
theorem buildL_facts (l : List TermD) (h : ∀ t ∈ l, t.ok) : Good (buildL l) ∧ (buildL l).length ≤ l.length := by
  have := fold_facts l [] good_nil h
  simpa [buildL] using this
end Go.Proofs.YtedpljclnpiggaaGreatDoor

/-
  Keys by their nodes, as data: what path.rising answers.
-/
namespace Go.Proofs.YtedpljclnpiggaaGreatDoor

/-- A key: its node, its secret. -/
abbrev KeyP := Int × Int

/-- A key into a rising list, in place of its node's. -/
def putD : List KeyP → KeyP → List KeyP
  | [], k => [k]
  | x :: r, k => if k.1 < x.1 then k :: x :: r else if k.1 = x.1 then k :: r else x :: putD r k

def risingD (l : List KeyP) : List KeyP := l.foldl putD []

def RisingK (l : List KeyP) : Prop := l.Pairwise (fun a b => a.1 < b.1)

theorem mem_putD : ∀ (l : List KeyP) (k : KeyP), RisingK l → ∀ p, p ∈ putD l k ↔ p = k ∨ (p ∈ l ∧ p.1 ≠ k.1)
  | [], k, _, p => by simp [putD]
  | x :: r, k, h, p => by
    have hx := (List.pairwise_cons.1 h).1
    have hr := (List.pairwise_cons.1 h).2
    unfold putD
    split
    · rename_i h1
      constructor
      · intro hp
        rcases List.mem_cons.1 hp with rfl | hp
        · exact .inl rfl
        · refine .inr ⟨hp, ?_⟩
          rcases List.mem_cons.1 hp with rfl | hp
          · omega
          · have := hx p hp; omega
      · rintro (rfl | ⟨hp, _⟩)
        · simp
        · exact List.mem_cons_of_mem _ hp
    · rename_i h1
      split
      · rename_i h2
        constructor
        · intro hp
          rcases List.mem_cons.1 hp with rfl | hp
          · exact .inl rfl
          · have := hx p hp
            exact .inr ⟨List.mem_cons_of_mem _ hp, by omega⟩
        · rintro (rfl | ⟨hp, hne⟩)
          · simp
          · rcases List.mem_cons.1 hp with rfl | hp
            · exact absurd h2.symm hne
            · exact List.mem_cons_of_mem _ hp
      · rename_i h2
        rw [List.mem_cons, mem_putD r k hr p, List.mem_cons]
        constructor
        · rintro (rfl | rfl | ⟨hp, hne⟩)
          · exact .inr ⟨.inl rfl, by omega⟩
          · exact .inl rfl
          · exact .inr ⟨.inr hp, hne⟩
        · rintro (rfl | ⟨rfl | hp, hne⟩)
          · exact .inr (.inl rfl)
          · exact .inl rfl
          · exact .inr (.inr ⟨hp, hne⟩)

theorem rising_putD : ∀ (l : List KeyP) (k : KeyP), RisingK l → RisingK (putD l k)
  | [], k, _ => by simp [putD, RisingK]
  | x :: r, k, h => by
    have hx := (List.pairwise_cons.1 h).1
    have hr := (List.pairwise_cons.1 h).2
    unfold putD
    split
    · rename_i h1
      refine List.pairwise_cons.2 ⟨fun p hp => ?_, h⟩
      rcases List.mem_cons.1 hp with rfl | hp
      · exact h1
      · have := hx p hp; omega
    · rename_i h1
      split
      · rename_i h2
        exact List.pairwise_cons.2 ⟨fun p hp => by have := hx p hp; omega, hr⟩
      · rename_i h2
        refine List.pairwise_cons.2 ⟨fun p hp => ?_, rising_putD r k hr⟩
        rcases (mem_putD r k hr p).1 hp with rfl | ⟨hp, _⟩
        · omega
        · exact hx p hp

theorem risingD_snoc (l : List KeyP) (k : KeyP) : risingD (l ++ [k]) = putD (risingD l) k := by unfold risingD; rw [List.foldl_append]; rfl

theorem fold_rising : ∀ (l m : List KeyP), RisingK m → RisingK (l.foldl putD m)
  | [], _, h => h
  | k :: l, m, h => by rw [List.foldl_cons]; exact fold_rising l _ (rising_putD m k h)
theorem rising_risingD (l : List KeyP) : RisingK (risingD l) := fold_rising l [] List.Pairwise.nil

theorem putD_len : ∀ (l : List KeyP) (k : KeyP), (putD l k).length ≤ l.length + 1
  | [], k => by simp [putD]
  | x :: r, k => by
    unfold putD
    have := putD_len r k
    split
    · simp
    · split
      · simp
      · simp; omega
theorem fold_putD_len : ∀ (l m : List KeyP), (l.foldl putD m).length ≤ m.length + l.length
  | [], m => by simp
  | k :: l, m => by
    rw [List.foldl_cons]
    have h1 := fold_putD_len l (putD m k)
    have h2 := putD_len m k
    simp
    omega
theorem risingD_len (l : List KeyP) : (risingD l).length ≤ l.length := by have := fold_putD_len l []; simpa [risingD] using this

/-- In a rising list a node has one secret. -/
theorem RisingK.one : ∀ {l : List KeyP}, RisingK l → ∀ {p q : KeyP}, p ∈ l → q ∈ l → p.1 = q.1 → p = q
  | [], _, _, _, hp, _, _ => by simp at hp
  | x :: r, h, p, q, hp, hq, e => by
    have hx := (List.pairwise_cons.1 h).1
    have hr := (List.pairwise_cons.1 h).2
    rcases List.mem_cons.1 hp with hp1 | hp1
    · rcases List.mem_cons.1 hq with hq1 | hq1
      · rw [hp1, hq1]
      · have := hx q hq1; rw [hp1] at e; omega
    · rcases List.mem_cons.1 hq with hq1 | hq1
      · have := hx p hp1; rw [hq1] at e; omega
      · exact RisingK.one hr hp1 hq1 e

/-- Two rising lists with the same members are one. -/
theorem rising_ext {l m : List KeyP} (hl : RisingK l) (hm : RisingK m) (h : ∀ p, p ∈ l ↔ p ∈ m) : l = m := by
  have nd : ∀ {l : List KeyP}, RisingK l → l.Nodup := fun h => h.imp (fun hab e => by rw [e] at hab; omega)
  have hp : l.Perm m := (List.perm_ext_iff_of_nodup (nd hl) (nd hm)).2 h
  exact List.Perm.eq_of_pairwise (le := fun a b : KeyP => a.1 < b.1) (fun a b _ _ h1 h2 => by omega) hl hm hp

/-- Has a list a node? -/
def hasNode (l : List KeyP) (n : Int) : Bool := l.any (fun p => decide (p.1 = n))
theorem hasNode_iff {l : List KeyP} {n : Int} : hasNode l n = true ↔ ∃ s, (n, s) ∈ l := by
  unfold hasNode
  rw [List.any_eq_true]
  constructor
  · rintro ⟨p, hp, e⟩
    have : p.1 = n := by simpa using e
    exact ⟨p.2, by rw [← this]; exact hp⟩
  · rintro ⟨s, hs⟩
    exact ⟨_, hs, by simp⟩
theorem hasNode_put {l : List KeyP} {k : KeyP} (h : RisingK l) (n : Int) : hasNode (putD l k) n = (decide (n = k.1) || hasNode l n) := by
  rw [Bool.eq_iff_iff, hasNode_iff, Bool.or_eq_true, hasNode_iff, decide_eq_true_eq]
  constructor
  · rintro ⟨s, hs⟩
    rcases (mem_putD l k h _).1 hs with e | ⟨hs, _⟩
    · exact .inl (congrArg Prod.fst e)
    · exact .inr ⟨s, hs⟩
  · rintro (rfl | ⟨s, hs⟩)
    · exact ⟨k.2, (mem_putD l k h _).2 (.inl rfl)⟩
    · by_cases hn : n = k.1
      · subst hn; exact ⟨k.2, (mem_putD l k h _).2 (.inl rfl)⟩
      · exact ⟨s, (mem_putD l k h _).2 (.inr ⟨hs, hn⟩)⟩
end Go.Proofs.YtedpljclnpiggaaGreatDoor
