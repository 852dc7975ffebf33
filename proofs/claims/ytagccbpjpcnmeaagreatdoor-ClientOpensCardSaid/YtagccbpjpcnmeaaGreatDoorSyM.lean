/-
  ClientOpens by the executor: what is known, and what a call that touches the stores alone leaves.
-/
import Derived.Test.YtagccbpjpcnmeaaGreatDoorSyL
set_option linter.unusedVariables false
set_option linter.unusedSimpArgs false
namespace Go.Proofs.YtagccbpjpcnmeaaGreatDoor.Ex
open Go Go.RowKit Go.Proofs.YtagccbpjpcnmeaaGreatDoor

/-- Both stores, with what was made. -/
def Stores (σ : Sig) (h : List HEnt) (w : World) : Prop :=
  ∃ m0 m1 F0 F1 L A B, (σ.blk 1 = some m0 ∧ σ.blk 2 = some m1 ∧ σ.blk 3 = none) ∧ (ProgStore w m0 F0 A ∧ RefStore w m1 F1 B) ∧ (∀ k, F0 k → ¬ F1 k) ∧ (∀ i, σ.foot i ↔ F0 i ∨ F1 i) ∧ Fine 0 L ∧ Chain σ L h A B
/-- The map, behind Across. -/
def Gone (σ : Sig) (h : List HEnt) (w : World) : Prop :=
  ∃ mp L A B, σ.blk 3 = some mp ∧ MapOf w mp (acS A B A.length).1 σ.foot ∧ Fine 0 L ∧ Chain σ L h A B ∧ h.length ≤ 1000
def ResC (σ : Sig) (h : List HEnt) (w : World) : Prop :=
  match h with
  | [] => (∀ i, ¬ σ.foot i) ∧ σ.blk 1 = none ∧ σ.blk 2 = none ∧ σ.blk 3 = none
  | e :: h => if e.st = 8 then Gone σ h w else Stores σ (e :: h) w

theorem Stores.mono {σ τ : Sig} {h : List HEnt} {w w' : World} (hle : σ.le τ) (hb : τ.blk 3 = σ.blk 3) (hf : τ.foot = σ.foot) (hw : ∀ i, σ.foot i → w'.heap[i]? = w.heap[i]?) (hs : Stores σ h w) : Stores τ h w' := by
  obtain ⟨m0, m1, F0, F1, L, A, B, ⟨h1, h2, h3⟩, ⟨h4, h5⟩, h6, h7, h8, h9⟩ := hs
  exact ⟨m0, m1, F0, F1, L, A, B, ⟨(hle.blk _ _ h1).1, (hle.blk _ _ h2).1, hb.trans h3⟩, ⟨prog_heap h4 fun k hk => hw k ((h7 k).2 (.inl hk)), ref_heap h5 fun k hk => hw k ((h7 k).2 (.inr hk))⟩, h6, by rw [hf]; exact h7, h8, h9.mono hle⟩

theorem resC_mono (σ τ : Sig) (h : List HEnt) (w w' : World) (hle : σ.le τ) (hb : ∀ b, b < 16 → τ.blk b = σ.blk b) (hf : τ.foot = σ.foot) (hw : ∀ i, σ.foot i → w'.heap[i]? = w.heap[i]?) (hs : ResC σ h w) : ResC τ h w' := by
  unfold ResC at hs ⊢
  split at hs
  · exact ⟨by rw [hf]; exact hs.1, (hb 1 (by decide)).trans hs.2.1, (hb 2 (by decide)).trans hs.2.2.1, (hb 3 (by decide)).trans hs.2.2.2⟩
  · split at hs
    · rename_i e8
      rw [if_pos e8]
      obtain ⟨mp, L, A, B, h1, h2, h3, h4⟩ := hs
      exact ⟨mp, L, A, B, (hle.blk _ _ h1).1, by rw [hf]; exact map_heap h2 hw, h3, h4.1.mono hle, h4.2⟩
    · rename_i e8
      rw [if_neg e8]
      exact hs.mono hle (hb 3 (by decide)) hf hw

theorem ResC.open_ {σ : Sig} {h : List HEnt} {w : World} (hs : ResC σ h w) (ho : Ex.open_ h = true) : Stores σ h w := by
  unfold Ex.open_ at ho
  unfold ResC at hs
  split at hs
  · cases ho
  · rename_i e l
    have h8 : ¬ e.st = 8 := by
      intro h8
      simp only [h8] at ho
      exact absurd ho (by decide)
    rw [if_neg h8] at hs
    exact hs

theorem Stores.resC {σ : Sig} {h : List HEnt} {w : World} (hs : Stores σ h w) : ResC σ h w := by
  obtain ⟨m0, m1, F0, F1, L, A, B, h1, h2, h3, h4, h5, h6⟩ := hs
  unfold ResC
  split
  · exact h6.elim
  · rename_i e l
    have h8 : ¬ e.st = 8 := by
      rcases h6 with ⟨h8, _⟩ | ⟨h8, _⟩ | ⟨h8, _⟩ <;> rw [h8] <;> decide
    rw [if_neg h8]
    exact ⟨m0, m1, F0, F1, L, A, B, h1, h2, h3, h4, h5, h6⟩

theorem lenC_ok (g : Given) {k : Nat} {v : AVal} (hf : lenC k = some v) {σ : Sig} {x : Value} (hB : BaseC g σ) (hx : R σ (.opq k) x) {P : Program} {t e : TypeId} {r : List TypeId} {ty : TypeId} {w : World} (hu : P.underlying t = some (.slice e)) :
    ∃ u, (Builtin.len_ (t :: r).toArray ty #[x]).run P w = .ok u w ∧ R σ v u := by
  unfold lenC at hf
  split at hf
  · cases hf
    obtain ⟨⟨b, _, _, b2, _, _⟩, _, _⟩ := hB
    rw [R] at hx
    obtain rfl := Option.some.inj (b.symm.trans hx.1)
    refine ⟨.int .i64 g.n, ?_, by rw [R]; exact ⟨_, b2, rfl⟩⟩
    simp [Builtin.len_, run_underlying hu, goInt]
  · cases hf

noncomputable def knowC (g : Given) : Know g.env where
  Base := BaseC g
  base := fun σ τ h1 h2 h => by unfold BaseC at h ⊢; rw [h1, h2]; exact h
  bin := fun _ _ _ _ hf _ _ _ hB ha hb t xo yo w => binC_ok g hf hB ha hb _ t xo yo w
  len := fun _ _ hf _ _ hB hx _ _ _ _ _ hu => lenC_ok g hf hB hx hu
  Res := ResC
  res := resC_mono

section
variable {E : Env} {K : Know E} {B : World} {σ τ : Sig} {S S' : St} {w w' : World}

/-- What a call leaves that writes only what the executor does not see. -/
theorem Rep.outer (h : Rep E K B σ S w) (hle : σ.le τ) (hh : S'.heap = S.heap)
    (hblk : ∀ b m, τ.blk b = some m → σ.blk b = some m ∨ b < E.G)
    (hkeep : ∀ i, i < w.heap.size → ¬ σ.foot i → w'.heap[i]? = w.heap[i]?) (hsz : w.heap.size ≤ w'.heap.size) (hout : Outs w w')
    (hfoot : ∀ i, τ.foot i → (σ.foot i ∨ w.heap.size ≤ i) ∧ i < w'.heap.size)
    (hbase : K.Base τ) (hres : K.Res τ S'.hist w') (hsyms : ∀ x z, τ.sym x = some z → -9223372036854775808 ≤ z ∧ z ≤ 9223372036854775807)
    (hfree : ∀ x, S'.nsym ≤ x → τ.sym x = none ∧ τ.opq x = none) : Rep E K B τ S' w' := by
  have hlt : ∀ b blk m, S.heap.get b = some blk → blk.live = true → σ.blk b = some m → m < w.heap.size := fun b blk m hb hl hm => by
    obtain ⟨m', o, h1, h2, _⟩ := h.has b blk hb hl
    obtain rfl := Option.some.inj (hm.symm.trans h1)
    exact (Array.getElem?_eq_some_iff.1 h2).1
  have same : ∀ b blk m, S.heap.get b = some blk → τ.blk b = some m → σ.blk b = some m := fun b blk m hb hm => by
    rcases hblk b m hm with h1 | h1
    · exact h1
    · have := (h.small b blk hb).2; omega
  constructor
  · intro b blk hb hl
    rw [hh] at hb
    obtain ⟨m, o, h1, h2, h3, h4⟩ := h.has b blk hb hl
    exact ⟨m, o, (hle.blk b m h1).1, by rw [hkeep m (hlt b blk m hb hl h1) (h.apart b blk m hb hl h1)]; exact h2, h3.mono hle, h4⟩
  · intro b b' blk blk' m hb hl hb' hl' hm hm'
    rw [hh] at hb hb'
    exact h.inj b b' blk blk' m hb hl hb' hl' (same b blk m hb hm) (same b' blk' m hb' hm')
  · intro b m hm
    rw [hh]
    rcases hblk b m hm with h1 | h1
    · exact h.dom b m h1
    · exact .inl h1
  · intro b blk m hb hl hm hf
    rw [hh] at hb
    have hm' := same b blk m hb hm
    have := hlt b blk m hb hl hm'
    rcases (hfoot m hf).1 with h1 | h1
    · exact h.apart b blk m hb hl hm' h1
    · omega
  · intro i hi
    refine ⟨?_, (hfoot i hi).2⟩
    rcases (hfoot i hi).1 with h1 | h1
    · exact (h.foot i h1).1
    · exact Nat.le_trans h.size h1
  · exact hbase
  · exact hres
  · exact hsyms
  · exact hfree
  · intro b blk hb
    rw [hh] at hb
    exact h.small b blk hb
  · intro b hb
    exact (hle.blk b b (h.glob b hb)).1
  · exact Nat.le_trans h.size hsz
  · intro i hi
    rw [hkeep i (Nat.lt_of_lt_of_le hi h.size) (fun hf => by have := (h.foot i hf).1; omega)]
    exact h.below i hi
  · exact h.fits
  · exact h.ro
  · exact h.outs.trans hout
end
end Go.Proofs.YtagccbpjpcnmeaaGreatDoor.Ex
