/-
  A row of secrets under way: plain laws for both sides' loops.
-/
import Derived.Test.YtagccbpjpcnmeaaGreatDoorQBuild
set_option linter.unusedVariables false
set_option linter.unusedSimpArgs false
namespace Go.Proofs.YtagccbpjpcnmeaaGreatDoor
open Go Go.RowKit

theorem infoI : (Tryz.prog.info? 3).map (fun i => (i.zero, i.size, i.bytes)) = some (some (.int .i64 0), 1, 8) := by kernel_rfl

def intV (x : Int) : Value := .int .i64 x
abbrev OwnI (v : Value) (l : List Int) (w : World) : Prop := w.ownsRow 0 3 1 v l.length (l.map intV)

theorem ownI_len {v : Value} {l : List Int} {w : World} (h : OwnI v l w) : ∃ a c, v = .slice a l.length c ∧ l.length ≤ c := by
  rcases h.2 with ⟨h1, h2⟩ | ⟨g, cap, cur, h1, _, _, h4, _⟩
  · exact ⟨none, 0, by rw [h1, h2], by omega⟩
  · exact ⟨_, cap, h1, h4⟩

theorem ownI_at {a : Option Addr} {n c : Nat} {l : List Int} {w : World} (h : OwnI (.slice a n c) l w) : ∀ i, i < l.length → ∃ b o, a = some ⟨b, o, none⟩ ∧ w.cell? ⟨b, o + i, none⟩ = some (.int .i64 (l.getD i 0)) := by
  intro i hi
  rcases h.2 with ⟨_, h2⟩ | ⟨g, cap, cur, h1, _, hg, h4, _, hs, ht⟩
  · omega
  · obtain ⟨rfl, _, _⟩ : a = some ⟨g, 0, none⟩ ∧ n = l.length ∧ c = cap := by simpa using h1
    refine ⟨g, 0, rfl, ?_⟩
    have e : (l.map intV)[i]? = some (.int .i64 (l.getD i 0)) := by simp [intV, List.getD_eq_getElem?_getD, hi]
    rw [cell_row hg, Nat.zero_add, ← e, ← ht, List.getElem?_take]
    rw [if_pos (by omega), Array.getElem?_toList]

theorem ownI_lt {v : Value} {l : List Int} {w : World} (h : OwnI v l w) {k : Nat} (hk : v.ownBlock = some k) : k < w.heap.size := by
  rcases h.2 with ⟨e, _⟩ | ⟨r, cap', cur, e, _, hr, _⟩
  · rw [e] at hk; simp [Value.ownBlock] at hk
  · rw [e] at hk
    have : r = k := by simpa [Value.ownBlock] using hk
    subst this
    exact (Array.getElem?_eq_some_iff.1 hr).1

theorem ownI_kept {v : Value} {l : List Int} {w w' : World} {F : Nat → Prop} (h : OwnI v l w) (hT : Turned F w w') (hn : ∀ k, v.ownBlock = some k → ¬ F k) : OwnI v l w' := by
  refine ⟨h.1, ?_⟩
  rcases h.2 with h0 | ⟨g, cap, cur, e, hB, hg, rest⟩
  · exact .inl h0
  · exact .inr ⟨g, cap, cur, e, hB, (hT.block g (Array.getElem?_eq_some_iff.1 hg).1 (hn g (by rw [e]; rfl))).trans hg, rest⟩

theorem ownI_nil (w : World) : OwnI (.slice none 0 0) [] w := ⟨rfl, .inl ⟨rfl, rfl⟩⟩
theorem ownI_one (w : World) (x : Int) : OwnI (.slice (some ⟨w.heap.size, 0, none⟩) 1 1) [x] (w.alloc (.cells #[.int .i64 x] 3)) :=
  ⟨rfl, .inr ⟨w.heap.size, 1, #[.int .i64 x], rfl, Nat.zero_le _, row_alloc _ _ _, Nat.le_refl _, by unfold maxLen; omega, rfl, rfl⟩⟩

/-- What both stores' predicates obey. -/
structure StoreLaw (St : World → (Nat → Prop) → List TermD → Prop) : Prop where
  kept : ∀ {w w' : World} {F G : Nat → Prop} {L : List TermD}, St w F L → Turned G w w' → (∀ k, F k → ¬ G k) → St w' F L
  lt : ∀ {w : World} {F : Nat → Prop} {L : List TermD}, St w F L → ∀ k, F k → k < w.heap.size

theorem refLaw (r : Nat) : StoreLaw (fun w F L => RefStore w r F L) := ⟨fun h hT hd => RefStore.kept h hT hd, fun h => RefStore.lt h⟩
theorem progLaw (s : Nat) : StoreLaw (fun w F L => ProgStore w s F L) := ⟨fun h hT hd => ProgStore.kept h hT hd, fun h => ProgStore.lt h⟩

structure SecIn (St : World → (Nat → Prop) → List TermD → Prop) (F : Nat → Prop) (L : List TermD) (seed : Int) (m : Nat) (w : World) (k : Nat) (v : Value) (wr : World) (pre : List Int) (last : Int) (Lk : List TermD) (F' : Nat → Prop) : Prop where
  own : OwnI v (pre ++ [last]) wr
  len : pre.length = k
  go : (pre ++ [last]) ++ secGo (m - k) Lk last = seed :: secGo m L seed
  fin : secEnd (m - k) Lk last = secEnd m L seed
  good : Good Lk
  there : thereD Lk.length last = true
  size : Lk.length + (m - k) ≤ L.length + m
  ext : Ext F F' w wr
  st : St wr F' Lk
  turned : Turned F w wr
  far : ∀ g, v.ownBlock = some g → w.heap.size ≤ g ∧ ¬ F' g

def SecAt (St : World → (Nat → Prop) → List TermD → Prop) (F : Nat → Prop) (L : List TermD) (seed : Int) (m : Nat) (w : World) (k : Nat) (v : Value) (wr : World) : Prop := ∃ pre last Lk F', SecIn St F L seed m w k v wr pre last Lk F'

theorem Ext.wide {F F' : Nat → Prop} {w w' w'' : World} (h : Ext F F' w w') (hs : w'.heap.size ≤ w''.heap.size) : Ext F F' w w'' := fun k hk => (h k hk).imp id fun h2 => ⟨h2.1, Nat.lt_of_lt_of_le h2.2 hs⟩

theorem sec_start {St : World → (Nat → Prop) → List TermD → Prop} (law : StoreLaw St) {F : Nat → Prop} {L : List TermD} {seed : Int} (m : Nat) {w w1 : World} (hb : Below w.heap.size w w1) (hs : St w F L) (hG : Good L) (ht : thereD L.length seed = true) :
    SecAt St F L seed m w 0 (.slice (some ⟨w1.heap.size, 0, none⟩) 1 1) (w1.alloc (.cells #[.int .i64 seed] 3)) := by
  refine ⟨[], seed, L, F, ownI_one w1 seed, rfl, rfl, rfl, hG, ht, by omega, Ext.refl _ _ _, ?_, (Turned.new F hb).alloc _, fun g hg => ?_⟩
  · exact law.kept hs ((Turned.new (fun _ => False) hb).alloc _) (fun _ _ h => h)
  · obtain rfl : w1.heap.size = g := by simpa [Value.ownBlock] using hg
    exact ⟨hb.size, fun hf => by have := law.lt hs _ hf; have := hb.size; omega⟩

theorem sec_step {St : World → (Nat → Prop) → List TermD → Prop} (law : StoreLaw St) {F : Nat → Prop} {L : List TermD} {seed : Int} {m k : Nat} {w wr w1 w5 : World} {v v' : Value} {pre : List Int} {last : Int} {Lk : List TermD} {F' F'' : Nat → Prop} {o : Obj}
    (h : SecIn St F L seed m w k v wr pre last Lk F') (hk : k < m) (hm : L.length + m < 1048576) (hx : Ext F' F'' wr w1) (hs : St w1 F'' (makeL Lk (kdfT 1 last))) (hT : Turned F' wr w1)
    (hown : OwnI v' ((pre ++ [last]) ++ [makeN Lk (kdfT 1 last)]) w5) (hgrow : (w1.alloc o).grownBy w5 v.ownBlock) (hblk : v'.ownBlock = v.ownBlock ∨ v'.ownBlock = some (w1.heap.size + 1)) : SecAt St F L seed m w (k + 1) v' w5 := by
  have hmk := make_ok (may_kdf (label := 1) (by omega) h.there) (by have := h.size; omega : Lk.length < 1048576)
  have hlen := makeL_len Lk (kdfT 1 last)
  have hk1 : m - k = (m - (k + 1)) + 1 := by omega
  have hgo := h.go
  have hfin := h.fin
  rw [hk1] at hgo hfin
  have hold : ∀ g, v.ownBlock = some g → ¬ F'' g := fun g hg hf => by
    rcases hx g hf with h1 | h1
    · exact (h.far g hg).2 h1
    · have := ownI_lt h.own hg
      omega
  have hT5 : Turned (fun g => v.ownBlock = some g) w1 w5 := ((Turned.refl _ w1).alloc o).grown hgrow (fun _ _ e => e)
  obtain ⟨e1, e2⟩ := foot_trans h.ext h.turned hx hT
  refine ⟨pre ++ [last], makeN Lk (kdfT 1 last), makeL Lk (kdfT 1 last), F'', hown, by simp [h.len], ?_, ?_, h.good.make (kdf_ok (by simp [i64ok]) (there_i64 h.there (by have := h.size; omega))), hmk.2, by have := h.size; omega, e1.wide hT5.size, law.kept hs hT5 (fun g hf hg => hold g hg hf), ?_, fun g hg => ?_⟩
  · rw [← hgo]
    show _ = _ ++ (makeN Lk (kdfT 1 last) :: secGo (m - (k + 1)) (makeL Lk (kdfT 1 last)) (makeN Lk (kdfT 1 last)))
    simp
  · rw [← hfin]; rfl
  · exact e2.trans hT5 (fun g hgl hg => absurd (h.far g hg).1 (Nat.not_le_of_lt hgl))
  · rcases hblk with hb | hb
    · rw [hb] at hg
      exact ⟨(h.far g hg).1, hold g hg⟩
    · rw [hb] at hg
      obtain rfl : w1.heap.size + 1 = g := by injection hg
      exact ⟨by have := e2.size; omega, fun hf => by have := law.lt hs _ hf; omega⟩

/-- What Secrets leaves. -/
def SecPost (St : World → (Nat → Prop) → List TermD → Prop) (F : Nat → Prop) (L : List TermD) (seed many : Int) (w : World) (e : Ending) (w' : World) : Prop :=
  ∃ v F', e = .returned (.tuple #[v, .int .i64 (secretsE L seed many)]) ∧ OwnI v (secretsL L seed many) w' ∧ Ext F F' w w' ∧ St w' F' (secretsT L seed many) ∧ Turned F w w' ∧ ∀ g, v.ownBlock = some g → w.heap.size ≤ g ∧ ¬ F' g

theorem sec_bad {St : World → (Nat → Prop) → List TermD → Prop} (law : StoreLaw St) {F : Nat → Prop} {L : List TermD} {seed many : Int} {w w' : World} (hb : secretsBad L seed many = true) (hs : St w F L) (hw : Below w.heap.size w w') :
    SecPost St F L seed many w (.returned (.tuple #[.slice none 0 0, .int .i64 1])) w' := by
  have he : secretsE L seed many = 1 := by unfold secretsE; rw [hb]; rfl
  have hl : secretsL L seed many = [] := by unfold secretsL; rw [hb]; rfl
  have ht : secretsT L seed many = L := by unfold secretsT; rw [hb]; rfl
  refine ⟨_, F, by rw [he], by rw [hl]; exact ownI_nil _, Ext.refl _ _ _, by rw [ht]; exact law.kept hs (Turned.new (fun _ => False) hw) (fun _ _ h => h), Turned.new F hw, fun g hg => by simp [Value.ownBlock] at hg⟩

theorem sec_end {St : World → (Nat → Prop) → List TermD → Prop} {F : Nat → Prop} {L : List TermD} {seed : Int} {m : Nat} {w wr : World} {v : Value} (hb : secretsBad L seed m = false) (h : SecAt St F L seed m w m v wr) :
    SecPost St F L seed m w (.returned (.tuple #[v, .int .i64 0])) wr := by
  obtain ⟨pre, last, Lk, F', h⟩ := h
  have he : secretsE L seed m = 0 := by unfold secretsE; rw [hb]; rfl
  have hl : secretsL L seed m = seed :: secGo m L seed := by unfold secretsL; rw [hb]; rfl
  have ht : secretsT L seed m = secEnd m L seed := by unfold secretsT; rw [hb]; rfl
  have hgo := h.go
  have hfin := h.fin
  rw [Nat.sub_self, show secGo 0 Lk last = [] from rfl, List.append_nil] at hgo
  rw [Nat.sub_self, show secEnd 0 Lk last = Lk from rfl] at hfin
  refine ⟨v, F', by rw [he], ?_, h.ext, ?_, h.turned, h.far⟩
  · rw [hl, ← hgo]; exact h.own
  · rw [ht, ← hfin]; exact h.st
end Go.Proofs.YtagccbpjpcnmeaaGreatDoor
