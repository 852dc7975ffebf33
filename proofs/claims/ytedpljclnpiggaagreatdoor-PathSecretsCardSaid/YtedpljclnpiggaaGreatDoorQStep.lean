/-
  The step of path.Above.
-/
import Derived.Test.YtedpljclnpiggaaGreatDoorQJoint
import Derived.Test.YtedpljclnpiggaaGreatDoorQMake1
set_option linter.unusedVariables false
set_option linter.unusedSimpArgs false
namespace Go.Proofs.YtedpljclnpiggaaGreatDoor
open Go Go.RowKit

abbrev boxK (v : Value) : Obj := .cells #[v] 47 (0, 0)
abbrev boxP (s : Nat) : Obj := .cells #[.pointer (some ⟨s, 0, none⟩)] 23 (0, 0)

theorem node4 : nodeT L4 5 = L4 ∧ nodeK L4 5 = 9 ∧ nodeP L4 5 = 10 ∧ nodeE L4 5 = 0 := by decide +kernel
theorem kdf4 : makeL L4 ⟨4, 1, 5, 0⟩ = L4 ∧ makeN L4 ⟨4, 1, 5, 0⟩ = 6 ∧ makeE L4 ⟨4, 1, 5, 0⟩ = 0 := by decide +kernel

/-- What the step finds. -/
structure StepAt (B s : Nat) (F : Nat → Prop) (b c bs bx bt bl : Nat) (v : Value) (x : Int) (w : World) : Prop where
  lv : Lv B s F L4 w
  tr : StT F w b 8 5 5 10 4 6 0
  cs : Stays F w bs (boxP s)
  cx : Stays F w bx (boxI x)
  ct : Stays F w bt (boxT (.slice (some ⟨b, 0, none⟩) 3 c))
  cl : Stays F w bl (boxK v)
theorem StepAt.new {B s : Nat} {F : Nat → Prop} {b c bs bx bt bl : Nat} {v : Value} {x : Int} {w w' : World} (h : StepAt B s F b c bs bx bt bl v x w) (hb : Below w.heap.size w w') : StepAt B s F b c bs bx bt bl v x w' :=
  ⟨h.lv.new hb, h.tr.new hb, h.cs.new hb, h.cx.new hb, h.ct.new hb, h.cl.new hb⟩
theorem StepAt.step {B s : Nat} {F F' : Nat → Prop} {b c bs bx bt bl : Nat} {v : Value} {x : Int} {w w' : World} (h : StepAt B s F b c bs bx bt bl v x w) (hx : Ext F F' w w') (hs : ProgStore w' s F' L4) (hT : Turned F w w') : StepAt B s F' b c bs bx bt bl v x w' :=
  ⟨h.lv.step hx hs hT, h.tr.step hx hT, h.cs.step hx hT, h.cx.step hx hT, h.ct.step hx hT, h.cl.step hx hT⟩
/-- A store into the box of the list. -/
theorem StepAt.list {B s : Nat} {F : Nat → Prop} {b c bs bx bt bl : Nat} {v : Value} {x : Int} {w : World} (h : StepAt B s F b c bs bx bt bl v x w) (hB : B ≤ bl) (h1 : bs ≠ bl) (h2 : bx ≠ bl) (h3 : bt ≠ bl) (h4 : b ≠ bl) (v' : Value) :
    StepAt B s F b c bs bx bt bl v' x (w.setCell ⟨bl, 0, none⟩ v') := by
  have hT : Turned (fun k => k = bl) w (w.setCell ⟨bl, 0, none⟩ v') := Turned.setCell (F := fun k => k = bl) (Turned.refl _ _) (p := ⟨bl, 0, none⟩) (fun _ => rfl) _
  exact ⟨h.lv.turn hT (fun k hk e => h.cl.out (e ▸ hk)) (fun k hk => hk ▸ hB), h.tr.turn hT h4, h.cs.turn hT h1, h.cx.turn hT h2, h.ct.turn hT h3, ⟨row_setCell h.cl.at' 0 _, h.cl.out⟩⟩
/-- A store into the box of the secret. -/
theorem StepAt.secret {B s : Nat} {F : Nat → Prop} {b c bs bx bt bl : Nat} {v : Value} {x : Int} {w : World} (h : StepAt B s F b c bs bx bt bl v x w) (hB : B ≤ bx) (h1 : bs ≠ bx) (h2 : bl ≠ bx) (h3 : bt ≠ bx) (h4 : b ≠ bx) (x' : Int) :
    StepAt B s F b c bs bx bt bl v x' (w.setCell ⟨bx, 0, none⟩ (.int .i64 x')) := by
  have hT : Turned (fun k => k = bx) w (w.setCell ⟨bx, 0, none⟩ (.int .i64 x')) := Turned.setCell (F := fun k => k = bx) (Turned.refl _ _) (p := ⟨bx, 0, none⟩) (fun _ => rfl) _
  exact ⟨h.lv.turn hT (fun k hk e => h.cx.out (e ▸ hk)) (fun k hk => hk ▸ hB), h.tr.turn hT h4, h.cs.turn hT h1, ⟨row_setCell h.cx.at' 0 _, h.cx.out⟩, h.ct.turn hT h3, h.cl.turn hT h2⟩

def StepPost (B s : Nat) (F : Nat → Prop) (b c bs bx bt bl : Nat) (w : World) (r : Ending) (w' : World) : Prop :=
  r = .returned (.int .i64 0) ∧ ∃ F' g cg, StepAt B s F' b c bs bx bt bl (.slice (some ⟨g, 0, none⟩) 1 cg) 6 w' ∧ StO F' w' 123 2 (.slice (some ⟨g, 0, none⟩) 1 cg) 1 (keyV (1, 9)) ∧ Ext F F' w w' ∧ Turned (fun k => F k ∨ k = bl ∨ k = bx) w w' ∧ w.heap.size ≤ g

set_option maxRecDepth 100000 in
set_option maxHeartbeats 1600000 in
theorem step_3 (B s : Nat) (F : Nat → Prop) (b c bs bx bt bl : Nat) (hl : B ≤ bl ∧ bs ≠ bl ∧ bx ≠ bl ∧ bt ≠ bl ∧ b ≠ bl) (hx : B ≤ bx ∧ bs ≠ bx ∧ bl ≠ bx ∧ bt ≠ bx ∧ b ≠ bx) (w : World) (h : StepAt B s F b c bs bx bt bl (.slice none 0 0) 5 w) :
    Calls Tryz.prog 47 #[.int .i64 1, .pointer (some ⟨bs, 0, none⟩), .pointer (some ⟨bx, 0, none⟩), .pointer (some ⟨bt, 0, none⟩), .pointer (some ⟨bl, 0, none⟩)] w (StepPost B s F b c bs bx bt bl w) := by
  obtain ⟨iK, hiK, hk0, hk1, hk2⟩ := info_parts infoKey
  have H := Lib.hid h
  have Hl := Lib.hid hl
  have Hx := Lib.hid hx
  have k0 := cell_row h.cs.at' 0
  have k1 := cell_row h.cx.at' 0
  have k2 := cell_row h.ct.at' 0
  have k3 := cell_row h.cl.at' 0
  have k4 := h.tr.at'.c4
  clear h hl hx
  go_enter Tryz.func47, Tryz.ntmps47
  go_wp2_with fail
  refine (snode_any s F L4 5 good4 (by decide) _ H.out.lv.ps).mono ?_
  rintro e w1 ⟨rfl, F1, hx, hs, hTu⟩
  rw [node4.1] at hs
  rw [node4.2.1, node4.2.2.1, node4.2.2.2]
  have H1 := Lib.hid (H.out.step hx hs hTu)
  have HX1 := Lib.hid (And.intro hx hTu)
  clear k0 k1 k2 k3 k4 hx hs hTu
  have k0 := cell_row H1.out.cs.at' 0
  have k1 := cell_row H1.out.cx.at' 0
  have k2 := cell_row H1.out.ct.at' 0
  have k3 := cell_row H1.out.cl.at' 0
  have k4 := H1.out.tr.at'.c4
  have hn1 : ∀ W : World, W.ownsRow 0 123 2 (.slice none 0 0) 0 [] := fun W => World.ownsRow_nil W 0 _ 2
  have Hn1 := Lib.hid hn1; clear hn1
  go_upto_region 7 with (at_builtin; refine wpList_append_lies _ rfl (.tmp 32) (.tmp 36) 47 rfl 0 123 iK (.agg #[.int .i64 0, .int .i64 0]) 2 16 Tryz.underlying47 hiK hk0 hk1 hk2 rfl (by decide) (.slice none 0 0) 0 [] rfl (Hn1.out _) ⟨w1.heap.size, 0, none⟩ 1 1 (keyV (1, 9)) rfl rfl (keyV_cells w1 (1, 9) 123) (by intro u hu; simp [keyV] at hu; rcases hu with rfl | rfl <;> rfl) (by omega) (by unfold maxLen; omega) (by omega) (Nat.zero_le _) (w1.heap.size + 1) (by simp) ?_; intro g cg w2 hown2 hgrow2 hat2 hlt2; have hb2 := ((Below.refl w1.heap.size w1).alloc (Nat.le_refl _) (.cells #[.int .i64 1, .int .i64 9] 123)).grown hgrow2 (by simp) (fun k hk => by simp [Value.ownBlock] at hk); have H2 := Lib.hid (H1.out.new hb2); have Hb2 := Lib.hid hb2; have Hown2 := Lib.hid hown2; have Hg2 := Lib.hid (hat2.elim (fun e => by simp [Value.ownBlock] at e) id : g = w1.heap.size + 1); clear hown2 hgrow2 hat2 hlt2 hb2 k0 k1 k2 k3 k4; have k3 := cell_row H2.out.cl.at' 0; have f3 := free_row H2.out.cl.at' 0)
  have hgl : g ≠ bl := by have := Hg2.out; have := H1.out.cl.lt; omega
  have hgx : g ≠ bx := by have := Hg2.out; have := H1.out.cx.lt; omega
  have hT12 : Turned (fun k => F k ∨ k = bl ∨ k = bx) w w2 := (HX1.out.2.mono (fun k _ hk => Or.inl hk)).trans (Turned.new (fun _ => False) Hb2.out) (fun _ _ h => h.elim)
  have hx12 : Ext F F1 w w2 := fun k hk => (HX1.out.1 k hk).imp id fun h2 => ⟨h2.1, Nat.lt_of_lt_of_le h2.2 Hb2.out.size⟩
  have hs2 : StO F1 w2 123 2 (.slice (some ⟨g, 0, none⟩) 1 cg) 1 (keyV (1, 9)) := ⟨Hown2.out, fun k hk hf => by
    have h1 : g = k := by simpa [Value.ownBlock] using hk
    have := H1.out.lv.ps.lt _ hf
    have := Hg2.out
    omega⟩
  have h3 := H2.out.list Hl.out.1 Hl.out.2.1 Hl.out.2.2.1 Hl.out.2.2.2.1 Hl.out.2.2.2.2 (.slice (some ⟨g, 0, none⟩) 1 cg)
  have hTb : Turned (fun k => k = bl) w2 (w2.setCell ⟨bl, 0, none⟩ (.slice (some ⟨g, 0, none⟩) 1 cg)) := Turned.setCell (F := fun k => k = bl) (Turned.refl _ _) (p := ⟨bl, 0, none⟩) (fun _ => rfl) _
  have hs3 := hs2.turn hTb (fun k hk e => hgl (by have h1 : g = k := by simpa [Value.ownBlock] using hk
                                                  omega))
  have hT3 := hT12.trans hTb (fun k _ h => Or.inr (Or.inl h))
  have hx3 : Ext F F1 w (w2.setCell ⟨bl, 0, none⟩ (.slice (some ⟨g, 0, none⟩) 1 cg)) := fun k hk => (hx12 k hk).imp id fun h2 => ⟨h2.1, Nat.lt_of_lt_of_le h2.2 hTb.size⟩
  have hgw : w.heap.size ≤ g := by have := Hg2.out; have := HX1.out.2.size; omega
  generalize w2.setCell ⟨bl, 0, none⟩ (.slice (some ⟨g, 0, none⟩) 1 cg) = w3 at h3 hs3 hT3 hx3 ⊢
  have H3 := Lib.hid h3
  have Hs3 := Lib.hid hs3
  have HX3 := Lib.hid (And.intro hx3 hT3)
  have Hg3 := Lib.hid (And.intro hgw (And.intro hgl hgx))
  clear h3 hs3 hT3 hx3 hgw hgl hgx hTb hs2 hT12 hx12 H1 H2 Hown2 Hb2 HX1 H k3 f3
  have k0 := cell_row H3.out.cs.at' 0
  have k1 := cell_row H3.out.cx.at' 0
  go_wp2_with fail
  refine (derived_any s F1 L4 1 5 (by simp [TermD.ok, i64ok]) good4 (by decide) _ H3.out.lv.ps).mono ?_
  rintro e w4 ⟨rfl, F2, hx, hs, hTu⟩
  rw [kdf4.1] at hs
  rw [kdf4.2.1, kdf4.2.2]
  have H4 := Lib.hid (H3.out.step hx hs hTu)
  have Hs4 := Lib.hid (Hs3.out.step hx hTu)
  have HX4 := Lib.hid (And.intro hx hTu)
  clear hx hs hTu k0 k1
  have k1 := cell_row H4.out.cx.at' 0
  have f1 := free_row H4.out.cx.at' 0
  go_wp2
  go_ret
  have h5 := H4.out.secret Hx.out.1 Hx.out.2.1 Hx.out.2.2.1 Hx.out.2.2.2.1 Hx.out.2.2.2.2 6
  have hTb : Turned (fun k => k = bx) w4 (w4.setCell ⟨bx, 0, none⟩ (.int .i64 6)) := Turned.setCell (F := fun k => k = bx) (Turned.refl _ _) (p := ⟨bx, 0, none⟩) (fun _ => rfl) _
  have hT4 : Turned (fun k => F k ∨ k = bl ∨ k = bx) w w4 := HX3.out.2.trans HX4.out.2 (fun k hk h => (HX3.out.1 k h).elim Or.inl (fun h2 => absurd h2.1 (Nat.not_le_of_lt hk)))
  have hT5 := hT4.trans hTb (fun k _ h => Or.inr (Or.inr h))
  have hgx := Hg3.out.2.2
  have hs5 := Hs4.out.turn hTb (fun k hk e => by
    have h1 : g = k := by simpa [Value.ownBlock] using hk
    omega)
  refine ⟨rfl, F2, g, cg, h5, hs5, ?_, hT5, Hg3.out.1⟩
  intro k hk
  have h4 := hTb.size
  rcases HX4.out.1 k hk with h | h
  · rcases HX3.out.1 k h with h2 | h2
    · exact Or.inl h2
    · exact Or.inr ⟨h2.1, by have := HX4.out.2.size; omega⟩
  · exact Or.inr ⟨by have := HX3.out.2.size; omega, by omega⟩
end Go.Proofs.YtedpljclnpiggaaGreatDoor
