/- What is needed of a world in the walk of lives; the terms that lives makes. -/
import Derived.Test.YtedpljclnpiggaaGreatDoorV24
import Derived.Test.YtedpljclnpiggaaGreatDoorV18
import Derived.Test.YtedpljclnpiggaaGreatDoorV25
set_option linter.unusedVariables false
set_option linter.unusedSimpArgs false
set_option maxRecDepth 100000
set_option maxHeartbeats 12800000
namespace Go.Proofs.YtedpljclnpiggaaGreatDoor
open Go Go.RowKit
structure Lv (B s : Nat) (F : Nat → Prop) (L : List TermD) (w : World) : Prop where
 tz : TzEnv w
 ps : ProgStore w s F L
 far : ∀ k, F k → B ≤ k
 three : 3 ≤ B
 size : B ≤ w.heap.size
theorem Lv.new {B s : Nat} {F : Nat → Prop} {L : List TermD} {w w' : World} (h : Lv B s F L w) (hb : Below w.heap.size w w') : Lv B s F L w' :=
 ⟨h.tz.below hb (Nat.le_trans h.three h.size), h.ps.new hb, h.far, h.three, Nat.le_trans h.size hb.size⟩
theorem Lv.step {B s : Nat} {F F' : Nat → Prop} {L L' : List TermD} {w w' : World} (h : Lv B s F L w) (hx : Ext F F' w w') (hs : ProgStore w' s F' L') (hT : Turned F w w') : Lv B s F' L' w' :=
 ⟨h.tz.below (hT.below h.size h.far) h.three, hs, fun k hk => (hx k hk).elim (h.far k) (fun h2 => Nat.le_trans h.size h2.1), h.three, Nat.le_trans h.size hT.size⟩
theorem Lv.sz {B s : Nat} {F : Nat → Prop} {L : List TermD} {w : World} (h : Lv B s F L w) : 3 ≤ w.heap.size := Nat.le_trans h.three h.size
structure Stays (F : Nat → Prop) (w : World) (k : Nat) (o : Obj) : Prop where
 at' : w.heap[k]? = some o
 out : ¬ F k
theorem Stays.lt {F : Nat → Prop} {w : World} {k : Nat} {o : Obj} (h : Stays F w k o) : k < w.heap.size := (Array.getElem?_eq_some_iff.1 h.at').1
theorem Stays.new {F : Nat → Prop} {w w' : World} {k : Nat} {o : Obj} (h : Stays F w k o) (hb : Below w.heap.size w w') : Stays F w' k o := ⟨(hb.block k h.lt).trans h.at', h.out⟩
theorem Stays.step {F F' : Nat → Prop} {w w' : World} {k : Nat} {o : Obj} (h : Stays F w k o) (hx : Ext F F' w w') (hT : Turned F w w') : Stays F' w' k o :=
 ⟨(hT.block k h.lt h.out).trans h.at', fun hf => (hx k hf).elim h.out (fun h2 => absurd h2.1 (Nat.not_le_of_lt h.lt))⟩
structure StT (F : Nat → Prop) (w : World) (b : Nat) (p0 m0 e0 p1 p2 m2 e2 : Int) : Prop where
 at' : T3 w b p0 m0 e0 p1 p2 m2 e2
 out : ¬ F b
theorem StT.new {F : Nat → Prop} {w w' : World} {b : Nat} {p0 m0 e0 p1 p2 m2 e2 : Int} (h : StT F w b p0 m0 e0 p1 p2 m2 e2) (hb : Below w.heap.size w w') : StT F w' b p0 m0 e0 p1 p2 m2 e2 := ⟨h.at'.new hb, h.out⟩
theorem StT.step {F F' : Nat → Prop} {w w' : World} {b : Nat} {p0 m0 e0 p1 p2 m2 e2 : Int} (h : StT F w b p0 m0 e0 p1 p2 m2 e2) (hx : Ext F F' w w') (hT : Turned F w w') : StT F' w' b p0 m0 e0 p1 p2 m2 e2 :=
 ⟨h.at'.block (hT.block b h.at'.lt h.out), fun hf => (hx b hf).elim h.out (fun h2 => absurd h2.1 (Nat.not_le_of_lt h.at'.lt))⟩
structure StC (F : Nat → Prop) (w : World) (b o : Nat) (v : Value) : Prop where
 at' : w.cell? ⟨b, o, none⟩ = some v
 out : ¬ F b
theorem StC.lt {F : Nat → Prop} {w : World} {b o : Nat} {v : Value} (h : StC F w b o v) : b < w.heap.size := World.block_lt_of_cell? w _ h.at'
theorem StC.new {F : Nat → Prop} {w w' : World} {b o : Nat} {v : Value} (h : StC F w b o v) (hb : Below w.heap.size w w') : StC F w' b o v := ⟨(hb.cell (p := ⟨b, o, none⟩) h.lt).trans h.at', h.out⟩
theorem StC.step {F F' : Nat → Prop} {w w' : World} {b o : Nat} {v : Value} (h : StC F w b o v) (hx : Ext F F' w w') (hT : Turned F w w') : StC F' w' b o v :=
 ⟨(hT.cell (p := ⟨b, o, none⟩) h.lt h.out).trans h.at', fun hf => (hx b hf).elim h.out (fun h2 => absurd h2.1 (Nat.not_le_of_lt h.lt))⟩
structure StO (F : Nat → Prop) (w : World) (e : TypeId) (sz : Nat) (v : Value) (n : Nat) (xs : List Value) : Prop where
 own : w.ownsRow 0 e sz v n xs
 out : ∀ g, v.ownBlock = some g → ¬ F g
theorem StO.lt {F : Nat → Prop} {w : World} {e : TypeId} {sz : Nat} {v : Value} {n : Nat} {xs : List Value} (h : StO F w e sz v n xs) {g : Nat} (hg : v.ownBlock = some g) : g < w.heap.size := (h.own.lt g hg).2
theorem StO.turn {F G : Nat → Prop} {w w' : World} {e : TypeId} {sz : Nat} {v : Value} {n : Nat} {xs : List Value} (h : StO F w e sz v n xs) (hT : Turned G w w') (hn : ∀ g, v.ownBlock = some g → ¬ G g) : StO F w' e sz v n xs := by
 refine ⟨⟨h.own.1, ?_⟩, h.out⟩
 rcases h.own.2 with h0 | ⟨g, cap, cur, e, hB, hg, rest⟩
 · exact .inl h0
 · exact .inr ⟨g, cap, cur, e, hB, (hT.block g (Array.getElem?_eq_some_iff.1 hg).1 (hn g (by rw [e]; rfl))).trans hg, rest⟩
theorem StO.new {F : Nat → Prop} {w w' : World} {e : TypeId} {sz : Nat} {v : Value} {n : Nat} {xs : List Value} (h : StO F w e sz v n xs) (hb : Below w.heap.size w w') : StO F w' e sz v n xs := h.turn (Turned.new (fun _ => False) hb) (fun _ _ h => h)
theorem StO.step {F F' : Nat → Prop} {w w' : World} {e : TypeId} {sz : Nat} {v : Value} {n : Nat} {xs : List Value} (h : StO F w e sz v n xs) (hx : Ext F F' w w') (hT : Turned F w w') : StO F' w' e sz v n xs :=
 ⟨(h.turn hT h.out).own, fun g hg hf => (hx g hf).elim (h.out g hg) (fun h2 => absurd h2.1 (Nat.not_le_of_lt (h.lt hg)))⟩
theorem Lv.turn {B s : Nat} {F G : Nat → Prop} {L : List TermD} {w w' : World} (h : Lv B s F L w) (hT : Turned G w w') (hd : ∀ k, F k → ¬ G k) (hG : ∀ k, G k → B ≤ k) : Lv B s F L w' :=
 ⟨h.tz.below (hT.below h.size hG) h.three, h.ps.kept hT hd, h.far, h.three, Nat.le_trans h.size hT.size⟩
theorem Stays.turn {F G : Nat → Prop} {w w' : World} {k : Nat} {o : Obj} (h : Stays F w k o) (hT : Turned G w w') (hn : ¬ G k) : Stays F w' k o := ⟨(hT.block k h.lt hn).trans h.at', h.out⟩
theorem StT.turn {F G : Nat → Prop} {w w' : World} {b : Nat} {p0 m0 e0 p1 p2 m2 e2 : Int} (h : StT F w b p0 m0 e0 p1 p2 m2 e2) (hT : Turned G w w') (hn : ¬ G b) : StT F w' b p0 m0 e0 p1 p2 m2 e2 := ⟨h.at'.block (hT.block b h.at'.lt hn), h.out⟩
theorem StC.turn {F G : Nat → Prop} {w w' : World} {b o : Nat} {v : Value} (h : StC F w b o v) (hT : Turned G w w') (hn : ¬ G b) : StC F w' b o v := ⟨(hT.cell (p := ⟨b, o, none⟩) h.lt hn).trans h.at', h.out⟩
def L0 : List TermD := [⟨1, 1, 0, 0⟩, ⟨1, 2, 0, 0⟩, ⟨5, 0, 1, 0⟩, ⟨5, 0, 2, 0⟩]
def L1 : List TermD := L0 ++ [⟨4, 1, 1, 0⟩, ⟨4, 1, 5, 0⟩]
def L2 : List TermD := L1 ++ [⟨4, 2, 1, 0⟩, ⟨5, 0, 7, 0⟩]
def L3 : List TermD := L2 ++ [⟨4, 2, 5, 0⟩, ⟨5, 0, 9, 0⟩]
def L4 : List TermD := L3 ++ [⟨6, 0, 4, 5⟩]
theorem l0_build : buildL L0 = L0 := by decide +kernel
theorem l0_ok : ∀ t ∈ L0, t.ok := by
 intro t ht
 simp only [L0, List.mem_cons, List.not_mem_nil, or_false] at ht
 rcases ht with rfl | rfl | rfl | rfl <;> simp [TermD.ok, i64ok]
theorem good0 : Good L0 := by have := (buildL_facts L0 l0_ok).1; rw [l0_build] at this; exact this
theorem sec_t : secretsT L0 1 2 = L1 := by decide +kernel
theorem sec_l : secretsL L0 1 2 = [1, 5, 6] := by decide +kernel
theorem sec_e : secretsE L0 1 2 = 0 := by decide +kernel
theorem good1 : Good L1 := by have := (secrets_facts (seed := 1) (many := 2) good0 (by decide)).1; rw [sec_t] at this; exact this
theorem node1 : nodeT L1 1 = L2 ∧ nodeK L1 1 = 7 ∧ nodeP L1 1 = 8 ∧ nodeE L1 1 = 0 := by decide +kernel
theorem good2 : Good L2 := by have := (node_facts (x := 1) good1 (by decide)).1; rw [node1.1] at this; exact this
theorem node2 : nodeT L2 5 = L3 ∧ nodeK L2 5 = 9 ∧ nodeP L2 5 = 10 ∧ nodeE L2 5 = 0 := by decide +kernel
theorem good3 : Good L3 := by have := (node_facts (x := 5) good2 (by decide)).1; rw [node2.1] at this; exact this
theorem seal3 : makeL L3 ⟨6, 0, 4, 5⟩ = L4 ∧ makeN L3 ⟨6, 0, 4, 5⟩ = 11 ∧ makeE L3 ⟨6, 0, 4, 5⟩ = 0 := by decide +kernel
theorem good4 : Good L4 := by have := good3.make (t := ⟨6, 0, 4, 5⟩) (by simp [TermD.ok, i64ok]); rw [seal3.1] at this; exact this
end Go.Proofs.YtedpljclnpiggaaGreatDoor
