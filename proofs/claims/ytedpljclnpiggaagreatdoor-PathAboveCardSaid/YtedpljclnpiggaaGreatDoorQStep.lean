/-
  The step of path.Above.
-/
import Derived.Laws.EntriesVeiled
import Derived.Test.YtedpljclnpiggaaGreatDoorQJoint
import Derived.Test.YtedpljclnpiggaaGreatDoorQMake1
set_option linter.unusedVariables false
set_option linter.unusedSimpArgs false
namespace Go.Proofs.YtedpljclnpiggaaGreatDoor
open Go Go.RowKit

abbrev boxK (v : Value) : Obj := .cells #[v] 47 (0, 0)
abbrev boxP (s : Nat) : Obj := .cells #[.pointer (some ⟨s, 0, none⟩)] 23 (0, 0)

theorem node4 : nodeT L4 5 = L4 ∧ nodeK L4 5 = 9 ∧ nodeP L4 5 = 10 ∧ nodeE L4 5 = 0 := by decide +kernel
theorem kdf4 : makeL L4 ⟨4, 1, 5, 0⟩ = L4 ∧ makeN L4 ⟨4, 1, 5, 0⟩ = 6 ∧ makeE L4 ⟨4, 1, 5, 0⟩ = 0 := by decide +kernel

/-- What the step finds. -/
structure StepAt (B s : Nat) (F : Nat → Prop) (b c bs bx bt bl : Nat) (v : Value) (x : Int) (w : World) : Prop where
  lv : Lv B s F L4 w
  tr : StT F w b 8 5 5 10 4 6 0
  cs : Stays F w bs (boxP s)
  cx : Stays F w bx (boxI x)
  ct : Stays F w bt (boxT (.slice (some ⟨b, 0, none⟩) 3 c))
  cl : Stays F w bl (boxK v)
theorem StepAt.new {B s : Nat} {F : Nat → Prop} {b c bs bx bt bl : Nat} {v : Value} {x : Int} {w w' : World} (h : StepAt B s F b c bs bx bt bl v x w) (hb : Below w.heap.size w w') : StepAt B s F b c bs bx bt bl v x w' :=
  ⟨h.lv.new hb, h.tr.new hb, h.cs.new hb, h.cx.new hb, h.ct.new hb, h.cl.new hb⟩
theorem StepAt.step {B s : Nat} {F F' : Nat → Prop} {b c bs bx bt bl : Nat} {v : Value} {x : Int} {w w' : World} (h : StepAt B s F b c bs bx bt bl v x w) (hx : Ext F F' w w') (hs : ProgStore w' s F' L4) (hT : Turned F w w') : StepAt B s F' b c bs bx bt bl v x w' :=
  ⟨h.lv.step hx hs hT, h.tr.step hx hT, h.cs.step hx hT, h.cx.step hx hT, h.ct.step hx hT, h.cl.step hx hT⟩
/-- A store into the box of the list. -/
theorem StepAt.list {B s : Nat} {F : Nat → Prop} {b c bs bx bt bl : Nat} {v : Value} {x : Int} {w : World} (h : StepAt B s F b c bs bx bt bl v x w) (hB : B ≤ bl) (h1 : bs ≠ bl) (h2 : bx ≠ bl) (h3 : bt ≠ bl) (h4 : b ≠ bl) (v' : Value) :
    StepAt B s F b c bs bx bt bl v' x (w.setCell ⟨bl, 0, none⟩ v') := by
  have hT : Turned (fun k => k = bl) w (w.setCell ⟨bl, 0, none⟩ v') := Turned.setCell (F := fun k => k = bl) (Turned.refl _ _) (p := ⟨bl, 0, none⟩) (fun _ => rfl) _
  exact ⟨h.lv.turn hT (fun k hk e => h.cl.out (e ▸ hk)) (fun k hk => hk ▸ hB), h.tr.turn hT h4, h.cs.turn hT h1, h.cx.turn hT h2, h.ct.turn hT h3, ⟨row_setCell h.cl.at' 0 _, h.cl.out⟩⟩
/-- A store into the box of the secret. -/
theorem StepAt.secret {B s : Nat} {F : Nat → Prop} {b c bs bx bt bl : Nat} {v : Value} {x : Int} {w : World} (h : StepAt B s F b c bs bx bt bl v x w) (hB : B ≤ bx) (h1 : bs ≠ bx) (h2 : bl ≠ bx) (h3 : bt ≠ bx) (h4 : b ≠ bx) (x' : Int) :
    StepAt B s F b c bs bx bt bl v x' (w.setCell ⟨bx, 0, none⟩ (.int .i64 x')) := by
  have hT : Turned (fun k => k = bx) w (w.setCell ⟨bx, 0, none⟩ (.int .i64 x')) := Turned.setCell (F := fun k => k = bx) (Turned.refl _ _) (p := ⟨bx, 0, none⟩) (fun _ => rfl) _
  exact ⟨h.lv.turn hT (fun k hk e => h.cx.out (e ▸ hk)) (fun k hk => hk ▸ hB), h.tr.turn hT h4, h.cs.turn hT h1, ⟨row_setCell h.cx.at' 0 _, h.cx.out⟩, h.ct.turn hT h3, h.cl.turn hT h2⟩

def StepPost (B s : Nat) (F : Nat → Prop) (b c bs bx bt bl : Nat) (w : World) (r : Ending) (w' : World) : Prop :=
  r = .returned (.int .i64 0) ∧ ∃ F' g cg, StepAt B s F' b c bs bx bt bl (.slice (some ⟨g, 0, none⟩) 1 cg) 6 w' ∧ StO F' w' 123 2 (.slice (some ⟨g, 0, none⟩) 1 cg) 1 (keyV (1, 9)) ∧ Ext F F' w w' ∧ Turned (fun k => F k ∨ k = bl ∨ k = bx) w w' ∧ w.heap.size ≤ g

set_option maxRecDepth 100000 in
set_option maxHeartbeats 1600000 in
theorem step_3 (B s : Nat) (F : Nat → Prop) (b c bs bx bt bl : Nat) (hl : B ≤ bl ∧ bs ≠ bl ∧ bx ≠ bl ∧ bt ≠ bl ∧ b ≠ bl) (hx : B ≤ bx ∧ bs ≠ bx ∧ bl ≠ bx ∧ bt ≠ bx ∧ b ≠ bx) (w : World) (h : StepAt B s F b c bs bx bt bl (.slice none 0 0) 5 w) :
    Calls Tryz.prog 47 #[.int .i64 1, .pointer (some ⟨bs, 0, none⟩), .pointer (some ⟨bx, 0, none⟩), .pointer (some ⟨bt, 0, none⟩), .pointer (some ⟨bl, 0, none⟩)] w (StepPost B s F b c bs bx bt bl w) := by
  obtain ⟨iK, hiK, hk0, hk1, hk2⟩ := info_parts infoKey
  have H := Lib.hid h
  have Hl := Lib.hid hl
  have Hx := Lib.hid hx
  have k0 := cell_row h.cs.at' 0
  have k1 := cell_row h.cx.at' 0
  have k2 := cell_row h.ct.at' 0
  have k3 := cell_row h.cl.at' 0
  have k4 := h.tr.at'.c4
  clear h hl hx
  go_enter Tryz.func47, Tryz.ntmps47
  go_wp2_with fail
  refine (snode_any s F L4 5 good4 (by decide) _ H.out.lv.ps).mono ?_
  rintro e w1 ⟨rfl, F1, hx, hs, hTu⟩
  rw [node4.1] at hs
  rw [node4.2.1, node4.2.2.1, node4.2.2.2]
  have H1 := Lib.hid (H.out.step hx hs hTu)
  have HX1 := Lib.hid (And.intro hx hTu)
  clear k0 k1 k2 k3 k4 hx hs hTu
  have k0 := cell_row H1.out.cs.at' 0
  have k1 := cell_row H1.out.cx.at' 0
  have k2 := cell_row H1.out.ct.at' 0
  have k3 := cell_row H1.out.cl.at' 0
  have k4 := H1.out.tr.at'.c4
  have hn1 : ∀ W : World, W.ownsRow 0 123 2 (.slice none 0 0) 0 [] := fun W => World.ownsRow_nil W 0 _ 2
  have Hn1 := Lib.hid hn1; clear hn1
  go_upto_region 7 with (at_builtin; refine wpList_append_lies _ rfl (.tmp 32) (.tmp 36) 47 rfl 0 123 iK (.agg #[.int .i64 0, .int .i64 0]) 2 16 Tryz.underlying47 hiK hk0 hk1 hk2 rfl (by decide) (.slice none 0 0) 0 [] rfl (Hn1.out _) ⟨w1.heap.size, 0, none⟩ 1 1 (keyV (1, 9)) rfl rfl (keyV_cells w1 (1, 9) 123) (by intro u hu; simp [keyV] at hu; rcases hu with rfl | rfl <;> rfl) (by omega) (by unfold maxLen; omega) (by omega) (Nat.zero_le _) (w1.heap.size + 1) (by simp) ?_; intro g cg w2 hown2 hgrow2 hat2 hlt2; have hb2 := ((Below.refl w1.heap.size w1).alloc (Nat.le_refl _) (.cells #[.int .i64 1, .int .i64 9] 123)).grown hgrow2 (by simp) (fun k hk => by simp [Value.ownBlock] at hk); have H2 := Lib.hid (H1.out.new hb2); have Hb2 := Lib.hid hb2; have Hown2 := Lib.hid hown2; have Hg2 := Lib.hid (hat2.elim (fun e => by simp [Value.ownBlock] at e) id : g = w1.heap.size + 1); clear hown2 hgrow2 hat2 hlt2 hb2 k0 k1 k2 k3 k4; have k3 := cell_row H2.out.cl.at' 0; have f3 := free_row H2.out.cl.at' 0)
  have hgl : g ≠ bl := by have := Hg2.out; have := H1.out.cl.lt; omega
  have hgx : g ≠ bx := by have := Hg2.out; have := H1.out.cx.lt; omega
  have hT12 : Turned (fun k => F k ∨ k = bl ∨ k = bx) w w2 := (HX1.out.2.mono (fun k _ hk => Or.inl hk)).trans (Turned.new (fun _ => False) Hb2.out) (fun _ _ h => h.elim)
  have hx12 : Ext F F1 w w2 := fun k hk => (HX1.out.1 k hk).imp id fun h2 => ⟨h2.1, Nat.lt_of_lt_of_le h2.2 Hb2.out.size⟩
  have hs2 : StO F1 w2 123 2 (.slice (some ⟨g, 0, none⟩) 1 cg) 1 (keyV (1, 9)) := ⟨Hown2.out, fun k hk hf => by
    have h1 : g = k := by simpa [Value.ownBlock] using hk
    have := H1.out.lv.ps.lt _ hf
    have := Hg2.out
    omega⟩
  have h3 := H2.out.list Hl.out.1 Hl.out.2.1 Hl.out.2.2.1 Hl.out.2.2.2.1 Hl.out.2.2.2.2 (.slice (some ⟨g, 0, none⟩) 1 cg)
  have hTb : Turned (fun k => k = bl) w2 (w2.setCell ⟨bl, 0, none⟩ (.slice (some ⟨g, 0, none⟩) 1 cg)) := Turned.setCell (F := fun k => k = bl) (Turned.refl _ _) (p := ⟨bl, 0, none⟩) (fun _ => rfl) _
  have hs3 := hs2.turn hTb (fun k hk e => hgl (by have h1 : g = k := by simpa [Value.ownBlock] using hk
                                                  omega))
  have hT3 := hT12.trans hTb (fun k _ h => Or.inr (Or.inl h))
  have hx3 : Ext F F1 w (w2.setCell ⟨bl, 0, none⟩ (.slice (some ⟨g, 0, none⟩) 1 cg)) := fun k hk => (hx12 k hk).imp id fun h2 => ⟨h2.1, Nat.lt_of_lt_of_le h2.2 hTb.size⟩
  have hgw : w.heap.size ≤ g := by have := Hg2.out; have := HX1.out.2.size; omega
  generalize w2.setCell ⟨bl, 0, none⟩ (.slice (some ⟨g, 0, none⟩) 1 cg) = w3 at h3 hs3 hT3 hx3 ⊢
  have H3 := Lib.hid h3
  have Hs3 := Lib.hid hs3
  have HX3 := Lib.hid (And.intro hx3 hT3)
  have Hg3 := Lib.hid (And.intro hgw (And.intro hgl hgx))
  clear h3 hs3 hT3 hx3 hgw hgl hgx hTb hs2 hT12 hx12 H1 H2 Hown2 Hb2 HX1 H k3 f3
  have k0 := cell_row H3.out.cs.at' 0
  have k1 := cell_row H3.out.cx.at' 0
  go_wp2_with fail
  refine (derived_any s F1 L4 1 5 (by simp [TermD.ok, i64ok]) good4 (by decide) _ H3.out.lv.ps).mono ?_
  rintro e w4 ⟨rfl, F2, hx, hs, hTu⟩
  rw [kdf4.1] at hs
  rw [kdf4.2.1, kdf4.2.2]
  have H4 := Lib.hid (H3.out.step hx hs hTu)
  have Hs4 := Lib.hid (Hs3.out.step hx hTu)
  have HX4 := Lib.hid (And.intro hx hTu)
  clear hx hs hTu k0 k1
  have k1 := cell_row H4.out.cx.at' 0
  have f1 := free_row H4.out.cx.at' 0
  go_wp2
  go_ret
  have h5 := H4.out.secret Hx.out.1 Hx.out.2.1 Hx.out.2.2.1 Hx.out.2.2.2.1 Hx.out.2.2.2.2 6
  have hTb : Turned (fun k => k = bx) w4 (w4.setCell ⟨bx, 0, none⟩ (.int .i64 6)) := Turned.setCell (F := fun k => k = bx) (Turned.refl _ _) (p := ⟨bx, 0, none⟩) (fun _ => rfl) _
  have hT4 : Turned (fun k => F k ∨ k = bl ∨ k = bx) w w4 := HX3.out.2.trans HX4.out.2 (fun k hk h => (HX3.out.1 k h).elim Or.inl (fun h2 => absurd h2.1 (Nat.not_le_of_lt hk)))
  have hT5 := hT4.trans hTb (fun k _ h => Or.inr (Or.inr h))
  have hgx := Hg3.out.2.2
  have hs5 := Hs4.out.turn hTb (fun k hk e => by
    have h1 : g = k := by simpa [Value.ownBlock] using hk
    omega)
  refine ⟨rfl, F2, g, cg, h5, hs5, ?_, hT5, Hg3.out.1⟩
  intro k hk
  have h4 := hTb.size
  rcases HX4.out.1 k hk with h | h
  · rcases HX3.out.1 k h with h2 | h2
    · exact Or.inl h2
    · exact Or.inr ⟨h2.1, by have := HX4.out.2.size; omega⟩
  · exact Or.inr ⟨by have := HX3.out.2.size; omega, by omega⟩
end Go.Proofs.YtedpljclnpiggaaGreatDoor

/-
  path.Above at the tree that lives makes.
-/
namespace Go.Proofs.YtedpljclnpiggaaGreatDoor
open Go Go.RowKit
attribute [local go_sem] Oper.semAt_some

abbrev boxE (v : Int) : Obj := .cells #[.int .i64 v] 28 (0, 0)

theorem above_results (tmps : Array Value) (w : World) (r : Nat) (a : Option Addr) (k c : Nat) (x y : Int) (h8 : tmps.getD 8 undef = .pointer (some ⟨r, 0, none⟩)) (h9 : tmps.getD 9 undef = .pointer (some ⟨r + 1, 0, none⟩)) (h10 : tmps.getD 10 undef = .pointer (some ⟨r + 1 + 1, 0, none⟩))
    (g0 : w.heap[r]? = some (boxK (.slice a k c))) (g1 : w.heap[r + 1]? = some (boxI x)) (g2 : w.heap[r + 1 + 1]? = some (boxE y)) :
    (results Tryz.f17 tmps).run Tryz.prog w = .ok (.tuple #[.slice a k c, .int .i64 x, .int .i64 y]) w := by
  have ha : ∀ r, (asAddr (.pointer (some ⟨r, 0, none⟩))).run Tryz.prog w = .ok ⟨r, 0, none⟩ w := fun r => by simp [asAddr]
  have hr : Tryz.f17.results = #[.cell 8 47, .cell 9 3, .cell 10 28] := by kernel_rfl
  have h8' : tmps[8]?.getD undef = .pointer (some ⟨r, 0, none⟩) := by simpa using h8
  have h9' : tmps[9]?.getD undef = .pointer (some ⟨r + 1, 0, none⟩) := by simpa using h9
  have h10' : tmps[10]?.getD undef = .pointer (some ⟨r + 1 + 1, 0, none⟩) := by simpa using h10
  have l0 : (loadVar 47 ⟨r, 0, none⟩).run Tryz.prog w = .ok (.slice a k c) w := by
    have hc := cell_row g0 0
    have hu := Tryz.underlying47
    simp [loadVar, isAgg, go_sem, hu, hc]
  have l1 : (loadVar 3 ⟨r + 1, 0, none⟩).run Tryz.prog w = .ok (.int .i64 x) w := by
    have hc := cell_row g1 0
    have hu := Tryz.underlying3
    simp [loadVar, isAgg, go_sem, hu, hc]
  have l2 : (loadVar 28 ⟨r + 1 + 1, 0, none⟩).run Tryz.prog w = .ok (.int .i64 y) w := by
    have hc := cell_row g2 0
    have hu := Tryz.underlying28
    simp [loadVar, isAgg, go_sem, hu, hc]
  simp only [results, hr]
  simp [Sem.run_bind, h8', h9', h10', ha, l0, l1, l2]

/-- Six new blocks. -/
theorem six_rows (w : World) (o0 o1 o2 o3 o4 o5 : Obj) {W : World} (hW : W = (((((w.alloc o0).alloc o1).alloc o2).alloc o3).alloc o4).alloc o5) :
    Below w.heap.size w W ∧ W.heap[w.heap.size]? = some o0 ∧ W.heap[w.heap.size + 1]? = some o1 ∧ W.heap[w.heap.size + 1 + 1]? = some o2 ∧ W.heap[w.heap.size + 1 + 1 + 1]? = some o3 ∧ W.heap[w.heap.size + 1 + 1 + 1 + 1]? = some o4 ∧ W.heap[w.heap.size + 1 + 1 + 1 + 1 + 1]? = some o5 := by
  subst hW
  have n0 := World.alloc_heap_new w o0
  have n1 := World.alloc_heap_new (w.alloc o0) o1
  have n2 := World.alloc_heap_new ((w.alloc o0).alloc o1) o2
  have n3 := World.alloc_heap_new (((w.alloc o0).alloc o1).alloc o2) o3
  have n4 := World.alloc_heap_new ((((w.alloc o0).alloc o1).alloc o2).alloc o3) o4
  have n5 := World.alloc_heap_new (((((w.alloc o0).alloc o1).alloc o2).alloc o3).alloc o4) o5
  simp only [World.size_alloc] at n1 n2 n3 n4 n5
  refine ⟨?_, ?_, ?_, ?_, ?_, ?_, n5⟩
  · exact ((((((Below.refl w.heap.size w).alloc (Nat.le_refl _) _).alloc (by simp <;> omega) _).alloc (by simp <;> omega) _).alloc (by simp <;> omega) _).alloc (by simp <;> omega) _).alloc (by simp <;> omega) _
  · exact (old_at (by simp <;> omega)).trans ((old_at (by simp <;> omega)).trans ((old_at (by simp <;> omega)).trans ((old_at (by simp <;> omega)).trans ((old_at (by simp <;> omega)).trans n0))))
  · exact (old_at (by simp <;> omega)).trans ((old_at (by simp <;> omega)).trans ((old_at (by simp <;> omega)).trans ((old_at (by simp <;> omega)).trans n1)))
  · exact (old_at (by simp <;> omega)).trans ((old_at (by simp <;> omega)).trans ((old_at (by simp <;> omega)).trans n2))
  · exact (old_at (by simp <;> omega)).trans ((old_at (by simp <;> omega)).trans n3)
  · exact (old_at (by simp <;> omega)).trans n4

theorem Stays.to {F F' G : Nat → Prop} {w w' : World} {k : Nat} {o : Obj} (h : Stays F w k o) (hx : Ext F F' w w') (hT : Turned G w w') (hn : ¬ G k) : Stays F' w' k o :=
  ⟨(hT.block k h.lt hn).trans h.at', fun hf => (hx k hf).elim h.out (fun h2 => absurd h2.1 (Nat.not_le_of_lt h.lt))⟩

def AbPost (B s : Nat) (F : Nat → Prop) (w : World) (r : Ending) (w' : World) : Prop :=
  ∃ F' a cl, r = .returned (.tuple #[.slice a 1 cl, .int .i64 6, .int .i64 0]) ∧ Lv B s F' L4 w' ∧ KeysAt w' a [(1, 9)] ∧ Ext F F' w w' ∧ Turned F w w'

theorem ris_one : risingD [(1, 9)] = [(1, 9)] := by decide
theorem one_of {v : Value} {w : World} (h : OwnK v (risingD [(1, 9)]) w) : ∃ g c, v = .slice (some ⟨g, 0, none⟩) 1 c := by
  rcases h.2 with ⟨_, e⟩ | ⟨g, cap, cur, e, _⟩
  · rw [ris_one] at e; simp at e
  · rw [ris_one] at e; exact ⟨_, _, e⟩

theorem above_fin {B s b c q g cg D va vc : Nat} {F F5 : Nat → Prop} {w w8 : World} {N : Nat} (hq : q = w.heap.size) (hA : StepAt B s F5 b c q (q + 1 + 1) (q + 1) (q + 1 + 1 + 1) (.slice (some ⟨g, 0, none⟩) 1 cg) 6 w8)
    (h4 : Stays F5 w8 (q + 1 + 1 + 1 + 1) (boxI 0)) (h5 : Stays F5 w8 (q + 1 + 1 + 1 + 1 + 1) (boxE 0)) (hK : w8.heap[D]? = some (.deferred (some []))) (hD : q + 1 + 1 + 1 + 1 + 1 < D ∧ ¬ F5 D ∧ D < N)
    (hv : OwnK (.slice (some ⟨va, 0, none⟩) 1 vc) (risingD [(1, 9)]) w8) (hva : N ≤ va) (hT : Turned F w w8) (hx : Ext F F5 w w8) (hB : B ≤ w.heap.size) (tmps : Array Value)
    (e8 : tmps.getD 8 undef = .pointer (some ⟨q + 1 + 1 + 1, 0, none⟩)) (e9 : tmps.getD 9 undef = .pointer (some ⟨q + 1 + 1 + 1 + 1, 0, none⟩)) (e10 : tmps.getD 10 undef = .pointer (some ⟨q + 1 + 1 + 1 + 1 + 1, 0, none⟩)) :
    LeavesInM Fence.wide 6 Tryz.prog Tryz.f17 tmps (AbPost B s F w) [{ target := .collected D, args := #[] }] .returning
      (((w8.setCell ⟨q + 1 + 1 + 1, 0, none⟩ (.slice (some ⟨va, 0, none⟩) 1 vc)).setCell ⟨q + 1 + 1 + 1 + 1, 0, none⟩ (.int .i64 6)).setCell ⟨q + 1 + 1 + 1 + 1 + 1, 0, none⟩ (.int .i64 0)) := by
  obtain ⟨X, hX⟩ : ∃ X, X = (((w8.setCell ⟨q + 1 + 1 + 1, 0, none⟩ (.slice (some ⟨va, 0, none⟩) 1 vc)).setCell ⟨q + 1 + 1 + 1 + 1, 0, none⟩ (.int .i64 6)).setCell ⟨q + 1 + 1 + 1 + 1 + 1, 0, none⟩ (.int .i64 0)) := ⟨_, rfl⟩
  have g3 : X.heap[q + 1 + 1 + 1]? = some (boxK (.slice (some ⟨va, 0, none⟩) 1 vc)) := by
    rw [hX]
    exact (Below.heap_setCell _ ⟨q + 1 + 1 + 1 + 1 + 1, 0, none⟩ _ _ (by simp only; omega)).trans ((Below.heap_setCell _ ⟨q + 1 + 1 + 1 + 1, 0, none⟩ _ _ (by simp only; omega)).trans (row_setCell hA.cl.at' 0 _))
  have g4 : X.heap[q + 1 + 1 + 1 + 1]? = some (boxI 6) := by
    rw [hX]
    exact (Below.heap_setCell _ ⟨q + 1 + 1 + 1 + 1 + 1, 0, none⟩ _ _ (by simp only; omega)).trans (row_setCell ((Below.heap_setCell _ ⟨q + 1 + 1 + 1, 0, none⟩ _ _ (by simp only; omega)).trans h4.at') 0 _)
  have g5 : X.heap[q + 1 + 1 + 1 + 1 + 1]? = some (boxE 0) := by
    rw [hX]
    exact row_setCell ((Below.heap_setCell _ ⟨q + 1 + 1 + 1 + 1, 0, none⟩ _ _ (by simp only; omega)).trans ((Below.heap_setCell _ ⟨q + 1 + 1 + 1, 0, none⟩ _ _ (by simp only; omega)).trans h5.at')) 0 _
  have hTX : Turned (fun k => k = q + 1 + 1 + 1 ∨ k = q + 1 + 1 + 1 + 1 ∨ k = q + 1 + 1 + 1 + 1 + 1 ∨ k = D) w8 X := by
    rw [hX]
    exact (((Turned.refl _ _).setCell (p := ⟨q + 1 + 1 + 1, 0, none⟩) (fun _ => .inl rfl) _).setCell (p := ⟨q + 1 + 1 + 1 + 1, 0, none⟩) (fun _ => .inr (.inl rfl)) _).setCell (p := ⟨q + 1 + 1 + 1 + 1 + 1, 0, none⟩) (fun _ => .inr (.inr (.inl rfl))) _
  have hKX : X.heap[D]? = some (.deferred (some [])) := by
    rw [hX]
    exact (Below.heap_setCell _ ⟨q + 1 + 1 + 1 + 1 + 1, 0, none⟩ _ _ (by simp only; omega)).trans ((Below.heap_setCell _ ⟨q + 1 + 1 + 1 + 1, 0, none⟩ _ _ (by simp only; omega)).trans ((Below.heap_setCell _ ⟨q + 1 + 1 + 1, 0, none⟩ _ _ (by simp only; omega)).trans hK))
  rw [← hX]
  clear hX
  have hTY : Turned (fun k => k = q + 1 + 1 + 1 ∨ k = q + 1 + 1 + 1 + 1 ∨ k = q + 1 + 1 + 1 + 1 + 1 ∨ k = D) w8 (X.putObj D (.deferred none)) :=
    hTX.grown (grownBy_putObj' X D _) (fun k _ e => by cases e; exact .inr (.inr (.inr rfl)))
  have o3 : (X.putObj D (.deferred none)).heap[q + 1 + 1 + 1]? = some (boxK (.slice (some ⟨va, 0, none⟩) 1 vc)) := (World.putObj_heap_other (by omega)).trans g3
  have o4 : (X.putObj D (.deferred none)).heap[q + 1 + 1 + 1 + 1]? = some (boxI 6) := (World.putObj_heap_other (by omega)).trans g4
  have o5 : (X.putObj D (.deferred none)).heap[q + 1 + 1 + 1 + 1 + 1]? = some (boxE 0) := (World.putObj_heap_other (by omega)).trans g5
  refine ⟨by simp, .inl ⟨_, _, rfl, run_takeDeferred hKX, ?_⟩⟩
  have hs : StO (fun _ => False) w8 123 2 (.slice (some ⟨va, 0, none⟩) 1 vc) 1 (keyV (1, 9)) := ⟨by rw [ris_one] at hv; exact hv, fun _ _ h => h⟩
  have hs2 := hs.turn hTY (fun k hk e => by
    have h1 : va = k := by simpa [Value.ownBlock] using hk
    omega)
  refine ⟨_, above_results tmps _ (q + 1 + 1 + 1) (some ⟨va, 0, none⟩) 1 vc 6 0 e8 e9 e10 o3 o4 o5, F5, _, _, rfl, hA.lv.turn hTY (fun k hk e => ?_) (fun k hk => by omega), keys_at (l := [(1, 9)]) hs2 rfl, fun k hk => (hx k hk).imp id fun h2 => ⟨h2.1, Nat.lt_of_lt_of_le h2.2 hTY.size⟩, hT.trans hTY (fun k hk e => by omega)⟩
  rcases e with rfl | rfl | rfl | rfl
  · exact hA.cl.out hk
  · exact h4.out hk
  · exact h5.out hk
  · exact hD.2.1 hk

set_option maxRecDepth 100000 in
set_option maxHeartbeats 1600000 in
theorem above_3 (B s b c : Nat) (F : Nat → Prop) (w : World) (h : Lv B s F L4 w) (hT : StT F w b 8 5 5 10 4 6 0) :
    Calls Tryz.prog 17 #[.pointer (some ⟨s, 0, none⟩), .agg #[.slice (some ⟨b, 0, none⟩) 3 c], .int .i64 1, .int .i64 5] w (AbPost B s F w) := by
  obtain ⟨w1, hw1⟩ : ∃ w1, w1 = (((((w.alloc (boxP s)).alloc (boxT (.slice (some ⟨b, 0, none⟩) 3 c))).alloc (boxI 5)).alloc (boxK (.slice none 0 0))).alloc (boxI 0)).alloc (boxE 0) := ⟨_, rfl⟩
  obtain ⟨hb1, g0, g1, g2, g3, g4, g5⟩ := six_rows w _ _ _ _ _ _ hw1
  have hFl := h.ps.lt
  have hA : StepAt B s F b c w.heap.size (w.heap.size + 1 + 1) (w.heap.size + 1) (w.heap.size + 1 + 1 + 1) (.slice none 0 0) 5 w1 :=
    ⟨h.new hb1, hT.new hb1, ⟨g0, fun hf => by have := hFl _ hf; omega⟩, ⟨g2, fun hf => by have := hFl _ hf; omega⟩, ⟨g1, fun hf => by have := hFl _ hf; omega⟩, ⟨g3, fun hf => by have := hFl _ hf; omega⟩⟩
  have h4 : Stays F w1 (w.heap.size + 1 + 1 + 1 + 1) (boxI 0) := ⟨g4, fun hf => by have := hFl _ hf; omega⟩
  have h5 : Stays F w1 (w.heap.size + 1 + 1 + 1 + 1 + 1) (boxE 0) := ⟨g5, fun hf => by have := hFl _ hf; omega⟩
  have k0 := cell_row g0 0
  have HA := Lib.hid hA
  have H4 := Lib.hid h4
  have H5 := Lib.hid h5
  have Hb1 := Lib.hid hb1
  have HB := Lib.hid (show B ≤ w.heap.size ∧ b < w.heap.size from ⟨h.size, hT.at'.lt⟩)
  clear h hT hA h4 h5 hb1 g0 g1 g2 g3 g4 g5 hFl
  refine calls_of_marks 6 Tryz.func17 rfl ?_
  simp only [Tryz.ntmps17, List.size_toArray, List.length_cons, List.length_nil, Nat.reduceAdd, Nat.reduceSub, Array.replicate_succ, Array.replicate_zero, List.push_toArray, List.append_toArray, List.nil_append, List.cons_append]
  go_upto_region 1 with fail
  rw [← hw1]
  have Hw1 := Lib.hid hw1; clear hw1
  go_wp2_with fail
  refine (palive_any s F L4 _ HA.out.lv.ps).mono ?_
  rintro e wx ⟨rfl, hwx⟩
  subst wx
  obtain ⟨q, hq⟩ : ∃ q, q = w.heap.size := ⟨_, rfl⟩
  rw [← hq] at HA H4 H5 k0 ⊢
  have Hq := Lib.hid hq; clear hq
  have k1 := cell_row HA.out.ct.at' 0
  have k2 := cell_row HA.out.cx.at' 0
  go_wp2_with fail
  refine (held_3 s b c F L4 (by decide) 8 5 5 10 4 6 0 (by decide) (.inr (by decide)) (by decide) (by omega) (by omega) (by omega) (by omega) (by omega) _ HA.out.lv.tz HA.out.lv.sz HA.out.lv.ps HA.out.tr.at').mono ?_
  rintro e w2 ⟨rfl, hb⟩
  have HA2 := Lib.hid (HA.out.new hb); have H42 := Lib.hid (H4.out.new hb); have H52 := Lib.hid (H5.out.new hb); have Hb2 := Lib.hid (Hb1.out.trans (hb.mono Hb1.out.size))
  clear hb HA H4 H5 Hb1 k0 k1 k2
  have k0 := cell_row HA2.out.cs.at' 0
  have k1 := cell_row HA2.out.ct.at' 0
  have k2 := cell_row HA2.out.cx.at' 0
  go_wp2_with fail
  refine (sis_any s F L4 5 _ HA2.out.lv.ps (by decide)).mono ?_
  rintro e w3 ⟨rfl, hb⟩
  rw [show thereD L4.length 5 = true from by decide]
  have HA3 := Lib.hid (HA2.out.new hb); have H43 := Lib.hid (H42.out.new hb); have H53 := Lib.hid (H52.out.new hb); have Hb3 := Lib.hid (Hb2.out.trans (hb.mono Hb2.out.size))
  clear hb HA2 H42 H52 Hb2 k0 k1 k2
  go_wp2_with fail
  have hal := (Below.refl w3.heap.size w3).alloc (Nat.le_refl _) (.cells #[.func (.func 47) #[] #[.pointer (some ⟨q, 0, none⟩), .pointer (some ⟨q + 1 + 1, 0, none⟩), .pointer (some ⟨q + 1, 0, none⟩), .pointer (some ⟨q + 1 + 1 + 1, 0, none⟩)]] 127)
  have HA4 := Lib.hid (HA3.out.new hal); have H44 := Lib.hid (H43.out.new hal); have H54 := Lib.hid (H53.out.new hal); have Hb4 := Lib.hid (Hb3.out.trans (hal.mono Hb3.out.size))
  have H114 : Hid (Stays F (w3.alloc (.cells #[.func (.func 47) #[] #[.pointer (some ⟨q, 0, none⟩), .pointer (some ⟨q + 1 + 1, 0, none⟩), .pointer (some ⟨q + 1, 0, none⟩), .pointer (some ⟨q + 1 + 1 + 1, 0, none⟩)]] 127)) w3.heap.size (.cells #[.func (.func 47) #[] #[.pointer (some ⟨q, 0, none⟩), .pointer (some ⟨q + 1 + 1, 0, none⟩), .pointer (some ⟨q + 1, 0, none⟩), .pointer (some ⟨q + 1 + 1 + 1, 0, none⟩)]] 127 (0, 0))) := Lib.hid ⟨row_alloc _ _ _, fun hf => absurd (HA3.out.lv.ps.lt _ hf) (Nat.lt_irrefl _)⟩
  have hq53 := H53.out.lt
  have hql := HB.out
  clear hal HA3 H43 H53 Hb3
  refine (step_3 B s F b c q (q + 1 + 1) (q + 1) (q + 1 + 1 + 1) (by have := Hq.out; omega) (by have := Hq.out; omega) _ HA4.out).mono ?_
  obtain ⟨q11, hq11⟩ : ∃ q, q = w3.heap.size := ⟨_, rfl⟩
  rw [← hq11] at H114 hq53 ⊢
  have Hq11 := Lib.hid hq53; clear hq11 hq53
  generalize w3.alloc (.cells #[.func (.func 47) #[] #[.pointer (some ⟨q, 0, none⟩), .pointer (some ⟨q + 1 + 1, 0, none⟩), .pointer (some ⟨q + 1, 0, none⟩), .pointer (some ⟨q + 1 + 1 + 1, 0, none⟩)]] 127) = w4 at HA4 H44 H54 Hb4 H114 ⊢
  rintro e w5 ⟨rfl, F5, g, cg, hA, hs, hx, hTu, hg⟩
  have hqw := Hq.out
  have hq5 := H54.out.to hx hTu (fun h => h.elim H54.out.out (fun h => by omega))
  have hq4 := H44.out.to hx hTu (fun h => h.elim H44.out.out (fun h => by omega))
  have hT5 : Turned F w w5 := (Turned.new F Hb4.out).trans hTu (fun k hk h => h.elim id (fun h => by omega))
  have hx5 : Ext F F5 w w5 := fun k hk => (hx k hk).imp id fun h2 => ⟨Nat.le_trans Hb4.out.size h2.1, h2.2⟩
  have hgq : q + 1 + 1 + 1 + 1 + 1 < g := Nat.lt_of_lt_of_le H54.out.lt hg
  have HA5 := Lib.hid hA; have H45 := Lib.hid hq4; have H55 := Lib.hid hq5; have HT5 := Lib.hid hT5; have HX5 := Lib.hid hx5; have Hs5 := Lib.hid hs; have Hgq := Lib.hid hgq
  clear hqw hq4 hq5 hT5 hx5 hA hs hx hTu hg hgq HA4 H44 H54 Hb4 H114
  have k0 := cell_row HA5.out.ct.at' 0
  go_wp2_with fail
  refine (over_any _ 1 _ _ _ rfl _).mono ?_
  rintro r wx ⟨rfl, hwx⟩
  have hbo := ((Below.refl w5.heap.size w5).alloc (Nat.le_refl _) (boxT (.slice (some ⟨b, 0, none⟩) 3 c))).alloc (by simp) (boxI 1)
  have hov : OvAt wx (w5.heap.size + 1) w5.heap.size b c 1 8 5 5 10 4 6 0 := by
    rw [hwx]
    exact ⟨by have := row_alloc (w := w5.alloc (boxT (.slice (some ⟨b, 0, none⟩) 3 c))) #[.int .i64 1] 3 (0, 0); simpa using this, (old_at (by simp)).trans (row_alloc _ _ _), HA5.out.tr.at'.new hbo, HA5.out.lv.tz.below hbo HA5.out.lv.sz, Nat.le_trans HA5.out.lv.sz hbo.size⟩
  rw [← hwx] at hbo
  clear hwx
  have Hov := Lib.hid hov
  have HA6 := Lib.hid (HA5.out.new hbo); have H46 := Lib.hid (H45.out.new hbo); have H56 := Lib.hid (H55.out.new hbo)
  have HT6 := Lib.hid (HT5.out.trans (Turned.new (fun _ => False) hbo) (fun _ _ h => h.elim))
  have hx6 : Ext F F5 w wx := fun k hk => (HX5.out k hk).imp id fun h2 => ⟨h2.1, Nat.lt_of_lt_of_le h2.2 hbo.size⟩
  have HX6 := Lib.hid hx6
  have Hs6 := Lib.hid (Hs5.out.new hbo)
  obtain ⟨s4, hs4⟩ : ∃ s, s = w5.heap.size := ⟨_, rfl⟩
  have hqs := H55.out.lt
  rw [← hs4] at Hov hqs ⊢
  clear hov hbo hs4 hx6 H45 H55 HA5 HT5 HX5 Hs5 k0
  go_wp2_with fail
  have hqx : q + 1 + 1 + 1 + 1 + 1 < wx.heap.size := H56.out.lt
  refine (wpIn_wide (n := 6)).1 (wpIn_rangeFunc_ownF rfl (by omega) (gf := 185) (lb := #[.pointer (some ⟨s4 + 1, 0, none⟩), .pointer (some ⟨s4, 0, none⟩)]) rfl trivial (enters_of Tryz.func185 (by kernel_rfl) rfl)
    (over_none_stops 5 (s4 + 1) s4 b c 8 5 5 10 4 6 0 ⟨by omega, by omega, by omega, by omega, by omega, by omega, by omega, by omega⟩ wx Hov.out) walksK_t walksK_b (Below.refl _ _) (fun _ => rfl)
    (fun _ W => Below wx.heap.size wx W) (fun _ _ _ => False) (ownFrom_below (Nat.le_refl _) (Nat.le_refl _)) (fun _ _ _ _ _ h _ _ => h.elim) (Below.refl _ _) ?a1 ?assign ?body ?done ?stop)
  case assign =>
    intro l x W K hK
    gi_wp2
    exact hK
  case body =>
    rintro l pre x W _ h
    simp at h
  case stop =>
    rintro D j pre W hD h
    exact h.elim
  case done =>
    rintro D xs W hD rfl hb hK
    have hA7 := HA6.out.new hb
    have h47 := H46.out.new hb
    have h57 := H56.out.new hb
    have hs7 := Hs6.out.new hb
    have hT7 := HT6.out.trans (Turned.new (fun _ => False) hb) (fun _ _ h => h.elim)
    have hx7 : Ext F F5 w W := fun k hk => (HX6.out k hk).imp id fun h2 => ⟨h2.1, Nat.lt_of_lt_of_le h2.2 hb.size⟩
    have k0 := cell_row hA7.cl.at' 0
    have f0 := free_row hA7.cl.at' 0
    have k1 := cell_row hA7.cx.at' 0
    have k2 := cell_row h47.at' 0
    have f2 := free_row h47.at' 0
    have k3 := cell_row h57.at' 0
    have f3 := free_row h57.at' 0
    have HA7 := Lib.hid hA7; have H47 := Lib.hid h47; have H57 := Lib.hid h57; have Hs7 := Lib.hid hs7; have HT7 := Lib.hid hT7; have HX7 := Lib.hid hx7; have HK := Lib.hid hK
    have HD := Lib.hid (show q + 1 + 1 + 1 + 1 + 1 < D ∧ ¬ F5 D ∧ D < W.heap.size from ⟨Nat.lt_of_lt_of_le hqx hD, fun hf => by have := HA6.out.lv.ps.lt D hf; omega, (Array.getElem?_eq_some_iff.1 hK).1⟩)
    clear hA7 h47 h57 hs7 hT7 hx7 hK hD hb HA6 H46 H56 Hs6 HT6 HX6
    go_wp2_with fail
    have hris : ∀ W', Below W.heap.size W W' → Calls Tryz.prog 49 #[.slice (some ⟨g, 0, none⟩) 1 cg] W' fun e w8 => ∃ va vc, e = .returned (.slice (some ⟨va, 0, none⟩) 1 vc) ∧ OwnK (.slice (some ⟨va, 0, none⟩) 1 vc) (risingD [(1, 9)]) w8 ∧ W.heap.size ≤ va ∧ Below W.heap.size W w8 := by
      intro W' hW'
      refine (rising_any (some ⟨g, 0, none⟩) cg [(1, 9)] (by simp) (by simp) (by intro k hk; simp at hk; subst hk; simp [i64ok]) W' (KeysAt.below (keys_at (l := [(1, 9)]) Hs7.out rfl) hW' (Nat.le_refl _))).mono ?_
      rintro e w8 ⟨v, rfl, hv, hvn, hb8⟩
      obtain ⟨va, vc, rfl⟩ := one_of hv
      exact ⟨va, vc, rfl, hv, Nat.le_trans hW'.size (hvn va rfl), hW'.trans (hb8.mono hW'.size)⟩
    have Hris := Lib.hid hris; clear hris
    go_region_with (go_at_call 49; refine (Hris.out _ (by exact ⟨rfl, rfl, rfl, Nat.le_refl _, fun _ _ => rfl⟩)).mono ?_; rintro e w8 ⟨va, vc, rfl, hv, hva, hb8'⟩; have HA8 := Lib.hid (HA7.out.new hb8'); have H48 := Lib.hid (H47.out.new hb8'); have H58 := Lib.hid (H57.out.new hb8'); have HT8 := Lib.hid (HT7.out.trans (Turned.new (fun _ => False) hb8') (fun _ _ h => h.elim)); have HX8 := Lib.hid (show Ext F F5 w w8 from fun k hk => (HX7.out k hk).imp id fun h2 => ⟨h2.1, Nat.lt_of_lt_of_le h2.2 hb8'.size⟩); have HK8 := Lib.hid ((hb8'.block D HD.out.2.2).trans HK.out); have HV := Lib.hid hv; have HN := Lib.hid hva; clear hb8' hv hva; have k0 := cell_row HA8.out.cl.at' 0; have f0 := free_row HA8.out.cl.at' 0; have k1 := cell_row HA8.out.cx.at' 0; have k2 := cell_row H48.out.at' 0; have f2 := free_row H48.out.at' 0; have k3 := cell_row H58.out.at' 0; have f3 := free_row H58.out.at' 0)
    all_goals
      go_wp2_with fail
      exact above_fin Hq.out HA8.out H48.out H58.out HK8.out HD.out HV.out HN.out HT8.out HX8.out HB.out.1 _ rfl rfl rfl
end Go.Proofs.YtedpljclnpiggaaGreatDoor
