/-
  The executor's memory, as it lies in a world: reading, writing, making.
-/
import Derived.Test.YtagccbpjpcnmeaaGreatDoorEr
import Derived.Laws.CopyRow
import Derived.MapKept
set_option linter.unusedVariables false
set_option linter.unusedSimpArgs false
namespace Go.Proofs.YtagccbpjpcnmeaaGreatDoor.Ex
open Go

def RE (σ : Sig) : List (AVal × AVal) → List (Value × Value) → Prop
  | [], l => l = []
  | (k, v) :: es, l => ∃ x y r, R σ k x ∧ R σ v y ∧ RE σ es r ∧ l = (x, y) :: r

def entriesOf (l : List (Value × Value)) : Array MapEntry := (l.zipIdx.map fun p => ({ key := p.1.1, val := p.1.2, born := p.2 } : MapEntry)).toArray

def ABlk.live : ABlk → Bool
  | .dead => false
  | _ => true

/-- A block of the executor's, and an object. -/
def RB (σ : Sig) : ABlk → Obj → Prop
  | .cells vs t, o => ∃ l, RL σ vs l ∧ o = .cells l.toArray t (0, 0)
  | .row vs t k z, o => ∃ l r, RL σ vs l ∧ (∃ m, σ.blk k = some m) ∧ (l ++ r).length = σ.cap k * z ∧ o = .cells (l ++ r).toArray t (0, 0)
  | .map es, o => ∃ l, RE σ es l ∧ o = .map (entriesOf l) l.length
  | .iter m s seen last, o => ∃ q, σ.blk m = some q ∧ o = .mapIter (some q) s seen.toArray last
  | .dead, _ => True

theorem RE.mono {σ τ : Sig} (h : σ.le τ) : ∀ {es : List (AVal × AVal)} {l : List (Value × Value)}, RE σ es l → RE τ es l
  | [], l, hr => hr
  | (k, v) :: es, l, hr => by
    obtain ⟨x, y, r, h1, h2, h3, rfl⟩ := hr
    exact ⟨x, y, r, h1.mono h, h2.mono h, RE.mono h h3, rfl⟩

theorem RB.mono {σ τ : Sig} (h : σ.le τ) {b : ABlk} {o : Obj} (hr : RB σ b o) : RB τ b o := by
  cases b with
  | cells vs t => obtain ⟨l, h1, rfl⟩ := hr; exact ⟨l, h1.mono h, rfl⟩
  | row vs t k z =>
    obtain ⟨l, r, h1, ⟨m, hm⟩, h2, rfl⟩ := hr
    obtain ⟨h3, h4⟩ := h.blk k m hm
    exact ⟨l, r, h1.mono h, ⟨m, h3⟩, by rw [h4]; exact h2, rfl⟩
  | map es => obtain ⟨l, h1, rfl⟩ := hr; exact ⟨l, h1.mono h, rfl⟩
  | iter m s seen last => obtain ⟨q, h1, rfl⟩ := hr; exact ⟨q, (h.blk m q h1).1, rfl⟩
  | dead => trivial

/-- What is known besides: of the numbers, and of the things that the executor does not see (they lie in the blocks of σ.foot). -/
structure Know (E : Env) where
  Base : Sig → Prop
  base : ∀ σ τ : Sig, τ.sym = σ.sym → τ.opq = σ.opq → Base σ → Base τ
  bin : ∀ op a b v, E.bin op a b = some v → ∀ σ x y, Base σ → R σ a x → R σ b y → ∀ t xo yo w, ∃ u, (do eqGuard op t xo yo x y; binOp op t x y : Sem Value).run E.P w = .ok u w ∧ R σ v u
  len : ∀ k v, E.len k = some v → ∀ σ x, Base σ → R σ (.opq k) x → ∀ t e r ty w, E.P.underlying t = some (.slice e) → ∃ u, (Builtin.len_ (t :: r).toArray ty #[x]).run E.P w = .ok u w ∧ R σ v u
  Res : Sig → List HEnt → World → Prop
  res : ∀ σ τ h w w', σ.le τ → (∀ b, b < E.G → τ.blk b = σ.blk b) → τ.foot = σ.foot → (∀ i, σ.foot i → w'.heap[i]? = w.heap[i]?) → Res σ h w → Res τ h w'

/-- Of the rest of the world nothing turns. -/
def Outs (w w' : World) : Prop := w'.os = w.os ∧ w'.tape = w.tape ∧ w'.output = w.output
theorem Outs.trans {a b c : World} (h : Outs a b) (k : Outs b c) : Outs a c := ⟨k.1.trans h.1, k.2.1.trans h.2.1, k.2.2.trans h.2.2⟩

/-- What the executor's memory is in a world w, begun from B. -/
structure Rep (E : Env) (K : Know E) (B : World) (σ : Sig) (S : St) (w : World) : Prop where
  has : ∀ b blk, S.heap.get b = some blk → blk.live = true → ∃ m o, σ.blk b = some m ∧ w.heap[m]? = some o ∧ RB σ blk o ∧ B.heap.size ≤ m
  inj : ∀ b b' blk blk' m, S.heap.get b = some blk → blk.live = true → S.heap.get b' = some blk' → blk'.live = true → σ.blk b = some m → σ.blk b' = some m → b = b'
  dom : ∀ b m, σ.blk b = some m → b < E.G ∨ S.heap.find b ≠ none
  apart : ∀ b blk m, S.heap.get b = some blk → blk.live = true → σ.blk b = some m → ¬ σ.foot m
  foot : ∀ i, σ.foot i → B.heap.size ≤ i ∧ i < w.heap.size
  base : K.Base σ
  res : K.Res σ S.hist w
  syms : ∀ x z, σ.sym x = some z → -9223372036854775808 ≤ z ∧ z ≤ 9223372036854775807
  free : ∀ x, S.nsym ≤ x → σ.sym x = none ∧ σ.opq x = none
  small : ∀ b blk, S.heap.get b = some blk → b < 1152921504606846976 ∧ E.G ≤ b
  glob : ∀ g, g < E.G0 → σ.blk g = some g
  size : B.heap.size ≤ w.heap.size
  below : ∀ i, i < B.heap.size → w.heap[i]? = B.heap[i]?
  fits : E.G0 ≤ B.heap.size
  ro : ∀ b o v, E.ro b o = some v → b < E.G0 ∧ B.cell? ⟨b, o, none⟩ = some v
  outs : Outs B w

section
variable {E : Env} {K : Know E} {B : World} {σ : Sig} {S S' : St} {w w' : World}

theorem Rep.turn (h : Rep E K B σ S w) (hw : w'.heap = w.heap) (ho : Outs w w' := by exact ⟨rfl, rfl, rfl⟩) : Rep E K B σ S w' :=
  ⟨fun b blk hb hl => by rw [hw]; exact h.has b blk hb hl, h.inj, h.dom, h.apart, fun i hi => by rw [hw]; exact h.foot i hi, h.base, K.res σ σ _ w w' (.refl σ) (fun _ _ => rfl) rfl (fun i _ => by rw [hw]) h.res, h.syms, h.free, h.small, h.glob, by rw [hw]; exact h.size, fun i hi => by rw [hw]; exact h.below i hi, h.fits, h.ro, h.outs.trans ho⟩

theorem Rep.next (h : Rep E K B σ S w) (n : Nat) : Rep E K B σ { S with next := n } w :=
  ⟨h.has, h.inj, h.dom, h.apart, h.foot, h.base, h.res, h.syms, h.free, h.small, h.glob, h.size, h.below, h.fits, h.ro, h.outs⟩

def Sig.ext (σ : Sig) (b m c : Nat) : Sig := { σ with blk := fun x => if x = b then some m else σ.blk x, cap := fun x => if x = b then c else σ.cap x }

theorem Sig.le_ext {b m c : Nat} (h : σ.blk b = none) : σ.le (σ.ext b m c) := ⟨fun x y hx => by
  have : x ≠ b := fun e => by rw [e, h] at hx; cases hx
  simp [Sig.ext, this, hx], fun _ _ h => h, fun _ _ h => h⟩

theorem Sig.ext_blk (σ : Sig) (b m c : Nat) : (σ.ext b m c).blk b = some m := by simp [Sig.ext]
theorem Sig.ext_cap (σ : Sig) (b m c : Nat) : (σ.ext b m c).cap b = c := by simp [Sig.ext]

theorem fresh_eq {blk : ABlk} (hf : fresh E S blk = some S') : S.heap.find S.next = none ∧ E.G ≤ S.next ∧ S.next < 1152921504606846976 ∧ S' = { S with heap := S.heap.ins 64 S.next (S.next, blk), next := S.next + 1 } := by
  unfold fresh at hf
  split at hf
  · rename_i h1 h2 h3
    exact ⟨h1, Nat.le_of_ble_eq_true h2, Nat.le_of_ble_eq_true h3, (Option.some.inj hf).symm⟩
  · cases hf

theorem Rep.new_none (h : Rep E K B σ S w) {blk : ABlk} (hf : fresh E S blk = some S') : σ.blk S.next = none := by
  obtain ⟨h1, h2, h3, _⟩ := fresh_eq hf
  cases hb : σ.blk S.next with
  | none => rfl
  | some m =>
    rcases h.dom _ _ hb with h4 | h4
    · omega
    · exact absurd h1 h4

/-- A new name for an object that no living name has. -/
theorem Rep.fresh_gen (h : Rep E K B σ S w) {blk : ABlk} (hf : fresh E S blk = some S') (m c : Nat) (o : Obj)
    (hm : B.heap.size ≤ m) (hfree : ∀ b k, S.heap.get b = some k → k.live = true → σ.blk b ≠ some m)
    (ho : w'.heap[m]? = some o) (hoth : ∀ i, i ≠ m → i < w.heap.size → w'.heap[i]? = w.heap[i]?) (hsz : w.heap.size ≤ w'.heap.size) (hout : Outs w w')
    (hnf : ¬ σ.foot m) (hrb : RB (σ.ext S.next m c) blk o) : Rep E K B (σ.ext S.next m c) S' w' := by
  have hn := h.new_none hf
  obtain ⟨h1, h2, h3, rfl⟩ := fresh_eq hf
  have hle : σ.le (σ.ext S.next m c) := Sig.le_ext hn
  have key : ∀ b k, (S.heap.ins 64 S.next (S.next, blk)).get b = some k → (b = S.next ∧ k = blk) ∨ (b ≠ S.next ∧ S.heap.get b = some k) := fun b k hb => T.get_ins hb
  constructor
  · intro b k hb hl
    rcases key b k hb with ⟨rfl, rfl⟩ | ⟨hne, hb⟩
    · exact ⟨m, o, Sig.ext_blk .., ho, hrb, hm⟩
    · obtain ⟨m', o', h4, h5, h6, h7⟩ := h.has b k hb hl
      have hne' : m' ≠ m := fun e => hfree b k hb hl (e ▸ h4)
      exact ⟨m', o', (hle.blk b m' h4).1, by rw [hoth m' hne' (Array.getElem?_eq_some_iff.1 h5).1]; exact h5, h6.mono hle, h7⟩
  · intro b b' k k' q hb hl hb' hl' hq hq'
    rcases key b k hb with ⟨e, _⟩ | ⟨hne, hb⟩ <;> rcases key b' k' hb' with ⟨e', _⟩ | ⟨hne', hb'⟩
    · rw [e, e']
    · exfalso
      subst e
      simp only [Sig.ext, if_true] at hq
      simp only [Sig.ext, if_neg hne'] at hq'
      exact hfree b' k' hb' hl' (hq'.trans hq.symm)
    · exfalso
      subst e'
      simp only [Sig.ext, if_true] at hq'
      simp only [Sig.ext, if_neg hne] at hq
      exact hfree b k hb hl (hq.trans hq'.symm)
    · simp only [Sig.ext, if_neg hne] at hq
      simp only [Sig.ext, if_neg hne'] at hq'
      exact h.inj b b' k k' q hb hl hb' hl' hq hq'
  · intro b q hq
    by_cases e : b = S.next
    · subst e
      refine .inr ?_
      show T.find (T.ins (63 + 1) _ _ _) _ ≠ none
      rw [T.find_same 63 _ _ _ (Nat.lt_trans h3 (by decide))]
      simp
    · simp only [Sig.ext, if_neg e] at hq
      rcases h.dom b q hq with h4 | h4
      · exact .inl h4
      · exact .inr (T.find_old 63 _ _ _ _ (Nat.lt_trans h3 (by decide)) h4)
  · intro b k q hb hl hq
    rcases key b k hb with ⟨e, _⟩ | ⟨hne, hb⟩
    · subst e
      simp only [Sig.ext, if_true] at hq
      exact (Option.some.inj hq) ▸ hnf
    · simp only [Sig.ext, if_neg hne] at hq
      exact h.apart b k q hb hl hq
  · intro i hi
    exact ⟨(h.foot i hi).1, Nat.lt_of_lt_of_le (h.foot i hi).2 hsz⟩
  · exact K.base σ _ rfl rfl h.base
  · refine K.res σ _ _ w w' hle (fun b hb => by simp [Sig.ext, show b ≠ S.next from by omega]) rfl (fun i hi => hoth i (fun e => hnf (e ▸ hi)) (h.foot i hi).2) h.res
  · exact h.syms
  · exact h.free
  · intro b k hb
    rcases key b k hb with ⟨rfl, _⟩ | ⟨_, hb⟩
    · exact ⟨h3, h2⟩
    · exact h.small b k hb
  · intro g hg
    exact (hle.blk g g (h.glob g hg)).1
  · exact Nat.le_trans h.size hsz
  · intro i hi
    rw [hoth i (by omega) (Nat.lt_of_lt_of_le hi h.size)]
    exact h.below i hi
  · exact h.fits
  · exact h.ro
  · exact h.outs.trans hout

theorem Rep.fresh (h : Rep E K B σ S w) {blk : ABlk} (hf : fresh E S blk = some S') (c : Nat) (o : Obj)
    (hrb : RB (σ.ext S.next w.heap.size c) blk o) (hw : w'.heap = w.heap) (hout : Outs w w' := by exact ⟨rfl, rfl, rfl⟩) : Rep E K B (σ.ext S.next w.heap.size c) S' (w'.alloc o) := by
  refine h.fresh_gen hf w.heap.size c o h.size ?_ ?_ ?_ ?_ hout (fun hi => Nat.lt_irrefl _ (h.foot _ hi).2) hrb
  · intro b k hb hl he
    obtain ⟨m, o', h1, h2, _⟩ := h.has b k hb hl
    rw [h1] at he
    have := (Array.getElem?_eq_some_iff.1 h2).1
    have := Option.some.inj he
    omega
  · simp [World.alloc, hw]
  · intro i _ hi
    simp [World.alloc, hw, Array.getElem?_push, Nat.ne_of_lt hi]
  · simp [World.alloc, hw]

theorem Rep.update (h : Rep E K B σ S w) {b m : Nat} {blk blk' : ABlk} {o : Obj} (hg : S.heap.get b = some blk) (hl : blk.live = true) (hm : σ.blk b = some m)
    (hrb : RB σ blk' o) (ho : w'.heap[m]? = some o) (hoth : ∀ i, i ≠ m → w'.heap[i]? = w.heap[i]?) (hsz : w'.heap.size = w.heap.size) (hout : Outs w w' := by exact ⟨rfl, rfl, rfl⟩) :
    Rep E K B σ (S.upd b blk') w' := by
  rw [St.upd_eq]
  have key : ∀ x k, (S.heap.ins 64 b (b, blk')).get x = some k → (x = b ∧ k = blk') ∨ (x ≠ b ∧ S.heap.get x = some k) := fun x k hx => T.get_ins hx
  obtain ⟨m0, o0, h1, _, _, h4⟩ := h.has b blk hg hl
  obtain rfl : m0 = m := Option.some.inj (h1.symm.trans hm)
  have back : ∀ x k, (S.heap.ins 64 b (b, blk')).get x = some k → k.live = true → ∃ k', S.heap.get x = some k' ∧ k'.live = true := by
    intro x k hx hk
    rcases key x k hx with ⟨rfl, _⟩ | ⟨_, hx⟩
    · exact ⟨blk, hg, hl⟩
    · exact ⟨k, hx, hk⟩
  constructor
  · intro x k hx hk
    rcases key x k hx with ⟨rfl, rfl⟩ | ⟨hne, hx⟩
    · exact ⟨m0, o, hm, ho, hrb, h4⟩
    · obtain ⟨m', o', h5, h6, h7, h8⟩ := h.has x k hx hk
      have : m' ≠ m0 := fun e => hne (h.inj x b k blk m0 hx hk hg hl (e ▸ h5) hm)
      exact ⟨m', o', h5, by rw [hoth m' this]; exact h6, h7, h8⟩
  · intro x x' k k' q hx hk hx' hk' hq hq'
    obtain ⟨j, hj, hjl⟩ := back x k hx hk
    obtain ⟨j', hj', hjl'⟩ := back x' k' hx' hk'
    exact h.inj x x' j j' q hj hjl hj' hjl' hq hq'
  · intro x q hq
    rcases h.dom x q hq with h5 | h5
    · exact .inl h5
    · exact .inr (T.find_old 63 _ _ _ _ (Nat.lt_trans (h.small b blk hg).1 (by decide)) h5)
  · intro x k q hx hk hq
    obtain ⟨j, hj, hjl⟩ := back x k hx hk
    exact h.apart x j q hj hjl hq
  · intro i hi
    rw [hsz]
    exact h.foot i hi
  · exact h.base
  · exact K.res σ σ _ w w' (.refl σ) (fun _ _ => rfl) rfl (fun i hi => hoth i fun e => h.apart b blk m0 hg hl hm (e ▸ hi)) h.res
  · exact h.syms
  · exact h.free
  · intro x k hx
    rcases key x k hx with ⟨rfl, _⟩ | ⟨_, hx⟩
    · exact h.small x blk hg
    · exact h.small x k hx
  · exact h.glob
  · rw [hsz]; exact h.size
  · intro i hi
    rw [hoth i (by omega)]
    exact h.below i hi
  · exact h.fits
  · exact h.ro
  · exact h.outs.trans hout

theorem Rep.kill (h : Rep E K B σ S w) {b : Nat} {blk : ABlk} (hg : S.heap.get b = some blk) :
    Rep E K B σ (S.upd b .dead) w := by
  rw [St.upd_eq]
  have key : ∀ x k, (S.heap.ins 64 b (b, ABlk.dead)).get x = some k → k.live = true → x ≠ b ∧ S.heap.get x = some k := fun x k hx hk => by
    rcases T.get_ins hx with ⟨_, rfl⟩ | h
    · cases hk
    · exact h
  constructor
  · intro x k hx hk; exact h.has x k (key x k hx hk).2 hk
  · intro x x' k k' q hx hk hx' hk' hq hq'
    exact h.inj x x' k k' q (key x k hx hk).2 hk (key x' k' hx' hk').2 hk' hq hq'
  · intro x q hq
    rcases h.dom x q hq with h5 | h5
    · exact .inl h5
    · exact .inr (T.find_old 63 _ _ _ _ (Nat.lt_trans (h.small b blk hg).1 (by decide)) h5)
  · intro x k q hx hk hq
    exact h.apart x k q (key x k hx hk).2 hk hq
  · exact h.foot
  · exact h.base
  · exact h.res
  · exact h.syms
  · exact h.free
  · intro x k hx
    have hx : (S.heap.ins 64 b (b, ABlk.dead)).get x = some k := hx
    rcases T.get_ins hx with ⟨rfl, _⟩ | ⟨_, hx⟩
    · exact h.small x blk hg
    · exact h.small x k hx
  · exact h.glob
  · exact h.size
  · exact h.below
  · exact h.fits
  · exact h.ro
  · exact h.outs

theorem roCells_R {b : Nat} : ∀ {n o : Nat} {l : List AVal}, roCells E b o n = some l → ∃ k, RL σ l k ∧ k.length = n ∧ ∀ j v, k[j]? = some v → E.ro b (o + j) = some v
  | 0, o, l, h => by
    unfold roCells at h
    cases h
    exact ⟨[], .nil, rfl, fun j v h => by simp at h⟩
  | n + 1, o, l, h => by
    unfold roCells at h
    split at h
    · rename_i v r h1 h2
      split at h
      · rename_i ha
        cases h
        obtain ⟨k, h3, h4, h5⟩ := roCells_R h2
        refine ⟨v :: k, .cons (by rw [R]; exact ⟨rfl, atom_one ha⟩) h3, by simp [h4], fun j u hj => ?_⟩
        cases j with
        | zero => simp at hj; subst hj; exact h1
        | succ j => simp at hj; have := h5 j u hj; rwa [show o + (j + 1) = o + 1 + j by omega]
      · cases h
    · cases h

theorem Rep.read (h : Rep E K B σ S w) {b o n m : Nat} {l : List AVal} (hr : readN E S b o n = some l) (hm : σ.blk b = some m) :
    ∃ k, RL σ l k ∧ k.length = n ∧ ∀ j v, k[j]? = some v → w.cell? ⟨m, o + j, none⟩ = some v := by
  unfold readN at hr
  split at hr
  · obtain ⟨k, h1, h2, h3⟩ := roCells_R (σ := σ) hr
    refine ⟨k, h1, h2, fun j v hj => ?_⟩
    obtain ⟨hb, h4⟩ := h.ro b (o + j) v (h3 j v hj)
    have he : m = b := Option.some.inj (hm.symm.trans (h.glob b hb))
    subst he
    have h5 := h.below m (Nat.lt_of_lt_of_le hb h.fits)
    unfold World.cell? at h4 ⊢
    simp only [h5]
    exact h4
  · split at hr
    · rename_i vs hc
      have : ∃ (cs : List Value) (t : TypeId), RL σ vs (cs.take vs.length) ∧ w.heap[m]? = some (.cells cs.toArray t (0, 0)) := by
        unfold cellsOf at hc
        split at hc
        · rename_i vs' t hg
          cases hc
          obtain ⟨m', o', h1, h2, ⟨l', h3, rfl⟩, h4⟩ := h.has b _ hg rfl
          obtain rfl : m' = m := Option.some.inj (h1.symm.trans hm)
          exact ⟨l', t, by rw [← h3.len, List.take_length]; exact h3, h2⟩
        · rename_i vs' t k z hg
          cases hc
          obtain ⟨m', o', h1, h2, ⟨l', r, h3, _, _, rfl⟩, h4⟩ := h.has b _ hg rfl
          obtain rfl : m' = m := Option.some.inj (h1.symm.trans hm)
          exact ⟨l' ++ r, t, by rw [← h3.len, List.take_left]; exact h3, h2⟩
        · cases hc
      obtain ⟨cs, t, h1, h2⟩ := this
      obtain ⟨h3, h4, h5⟩ := RL.take (h1.drop o) hr
      refine ⟨_, h3, by rw [h3.len, h4], fun j v hj => ?_⟩
      rw [List.getElem?_take] at hj
      split at hj
      · rw [List.getElem?_drop, List.getElem?_take] at hj
        split at hj
        · simpa [World.cell?, h2] using hj
        · cases hj
      · cases hj
    · cases hr

theorem Rep.write (h : Rep E K B σ S w) {b o m : Nat} {xs : List AVal} {k : List Value} (hw : writeN S b o xs = some S') (hx : RL σ xs k) (hm : σ.blk b = some m) :
    ∃ cur t, w.heap[m]? = some (.cells cur t (0, 0)) ∧ o + k.length ≤ cur.size ∧ (∀ v ∈ k, v.oneCell' = true) ∧
      Rep E K B σ S' (w.setRow m (cur.toList.take o ++ k ++ cur.toList.drop (o + k.length)).toArray) := by
  unfold writeN at hw
  split at hw
  · rename_i vs t hone hg
    split at hw
    · rename_i r hr
      cases hw
      obtain ⟨m', o', h1, h2, ⟨l, h3, rfl⟩, h4⟩ := h.has b _ hg rfl
      obtain rfl : m' = m := Option.some.inj (h1.symm.trans hm)
      obtain ⟨h5, h6⟩ := RL.over hr h3 hx
      refine ⟨l.toArray, t, h2, by simpa using h6, hx.ones hone, ?_⟩
      have hlt := (Array.getElem?_eq_some_iff.1 h2).1
      refine h.update hg rfl hm (blk' := .cells r t) ⟨_, h5, rfl⟩ ?_ ?_ (by simp [World.setRow])
      · exact setRow_heap w m' l.toArray _ t (0, 0) h2
      · intro i hi
        simp [World.setRow, Array.getElem?_modify, Ne.symm hi]
    · cases hw
  · rename_i vs t kk z hone hg
    split at hw
    · rename_i r hr
      cases hw
      obtain ⟨m', o', h1, h2, ⟨l, r', h3, hk, hlen, rfl⟩, h4⟩ := h.has b _ hg rfl
      obtain rfl : m' = m := Option.some.inj (h1.symm.trans hm)
      obtain ⟨h5, h6⟩ := RL.over hr h3 hx
      have hlt := (Array.getElem?_eq_some_iff.1 h2).1
      refine ⟨(l ++ r').toArray, t, h2, by simp; omega, hx.ones hone, ?_⟩
      have e : (l ++ r').toArray.toList.take o ++ k ++ (l ++ r').toArray.toList.drop (o + k.length) = (l.take o ++ k ++ l.drop (o + k.length)) ++ r' := by
        simp only [List.toList_toArray]
        rw [List.take_append_of_le_length (by omega), List.drop_append_of_le_length (by omega)]
        simp
      rw [e]
      refine h.update hg rfl hm (blk' := .row r t kk z) ⟨_, r', h5, hk, ?_, rfl⟩ ?_ ?_ (by simp [World.setRow])
      · rw [← hlen]
        simp
        omega
      · exact setRow_heap w m' (l ++ r').toArray _ t (0, 0) h2
      · intro i hi
        simp [World.setRow, Array.getElem?_modify, Ne.symm hi]
    · cases hw
  · cases hw
end
end Go.Proofs.YtagccbpjpcnmeaaGreatDoor.Ex
