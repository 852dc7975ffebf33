/-
  path.Above: what lies in its boxes at the end, and between two rounds.
-/
import Derived.Test.YtedpljclnpiggaaGreatDoorAStep
import Derived.Test.YtedpljclnpiggaaGreatDoorACk
set_option linter.unusedVariables false
set_option linter.unusedSimpArgs false
namespace Go.Proofs.YtedpljclnpiggaaGreatDoor
open Go Go.RowKit

/-- What Above leaves. -/
def AbPostA (B s m : Nat) (F : Nat → Prop) (L : List TermD) (T : List NodeD) (node secret : Int) (w : World) (r : Ending) (w' : World) : Prop :=
  ∃ F' va vc c e T' ks, r = .returned (.tuple #[.slice va ks.length vc, .int .i64 c, .int .i64 e]) ∧ AbAns T L node secret e T' ks c ∧ Lw B s m F' T' w' ∧
    StO F' w' 123 2 (.slice va ks.length vc) ks.length (ks.flatMap keyV) ∧ (∀ g, (Value.slice va ks.length vc).ownBlock = some g → w.heap.size ≤ g) ∧ Ext F F' w w' ∧ Turned F w w'

/-- The boxes of the results. -/
structure AbFin (B s m : Nat) (F : Nat → Prop) (w : World) (q : Nat) (va : Option Addr) (vc : Nat) (e c : Int) (T' : List TermD) (ks : List KeyP) (F' : Nat → Prop) (X : World) : Prop where
  lw : Lw B s m F' T' X
  r3 : Stays F' X (q + 1 + 1 + 1) (boxK (.slice va ks.length vc))
  r4 : Stays F' X (q + 1 + 1 + 1 + 1) (boxI c)
  r5 : Stays F' X (q + 1 + 1 + 1 + 1 + 1) (boxE e)
  own : StO F' X 123 2 (.slice va ks.length vc) ks.length (ks.flatMap keyV)
  fresh : ∀ g, (Value.slice va ks.length vc).ownBlock = some g → q + 1 + 1 + 1 + 1 + 1 < g
  qw : q = w.heap.size ∧ B ≤ q
  ext : Ext F F' w X
  tur : Turned F w X

section
variable {B s m : Nat} {F : Nat → Prop} {w : World} {q : Nat} {va : Option Addr} {vc : Nat} {e c : Int} {T' : List TermD} {ks : List KeyP} {F' : Nat → Prop} {X X' : World}

theorem AbFin.turn {G : Nat → Prop} (h : AbFin B s m F w q va vc e c T' ks F' X) (hT : Turned G X X') (hd : ∀ k, F' k → ¬ G k) (hG : ∀ k, G k → q + 1 + 1 + 1 + 1 + 1 < k) (ho : ∀ g, (Value.slice va ks.length vc).ownBlock = some g → ¬ G g) : AbFin B s m F w q va vc e c T' ks F' X' :=
  ⟨h.lw.turn hT hd (fun k hk => by have := hG k hk; have := h.qw.2; omega), h.r3.turn hT (fun hk => by have := hG _ hk; omega), h.r4.turn hT (fun hk => by have := hG _ hk; omega), h.r5.turn hT (fun hk => by have := hG _ hk; omega), h.own.turn hT ho, h.fresh, h.qw,
    h.ext.wide hT.size, h.tur.trans hT (fun k hk hg => by have := hG k hg; have := h.qw.1; omega)⟩

theorem AbFin.leaves0 {L : List TermD} {T : List NodeD} {node secret : Int} (h : AbFin B s m F w q va vc e c T' ks F' X) (ha : AbAns T L node secret e T' ks c) (tmps : Array Value)
    (e8 : tmps.getD 8 undef = .pointer (some ⟨q + 1 + 1 + 1, 0, none⟩)) (e9 : tmps.getD 9 undef = .pointer (some ⟨q + 1 + 1 + 1 + 1, 0, none⟩)) (e10 : tmps.getD 10 undef = .pointer (some ⟨q + 1 + 1 + 1 + 1 + 1, 0, none⟩)) :
    LeavesInM Fence.wide 6 Tryz.prog Tryz.f17 tmps (AbPostA B s m F L T node secret w) [] .returning X :=
  ⟨_, above_results tmps _ (q + 1 + 1 + 1) va ks.length vc c e e8 e9 e10 h.r3.at' h.r4.at' h.r5.at', F', va, vc, c, e, T', ks, rfl, ha, h.lw, h.own, fun g hg => by have := h.fresh g hg; have := h.qw.1; omega, h.ext, h.tur⟩

theorem AbFin.leavesD {L : List TermD} {T : List NodeD} {node secret : Int} {D : Nat} (h : AbFin B s m F w q va vc e c T' ks F' X) (ha : AbAns T L node secret e T' ks c) (hK : X.heap[D]? = some (.deferred (some []))) (hD : q + 1 + 1 + 1 + 1 + 1 < D) (hF : ¬ F' D) (ho : ∀ g, (Value.slice va ks.length vc).ownBlock = some g → g ≠ D) (tmps : Array Value)
    (e8 : tmps.getD 8 undef = .pointer (some ⟨q + 1 + 1 + 1, 0, none⟩)) (e9 : tmps.getD 9 undef = .pointer (some ⟨q + 1 + 1 + 1 + 1, 0, none⟩)) (e10 : tmps.getD 10 undef = .pointer (some ⟨q + 1 + 1 + 1 + 1 + 1, 0, none⟩)) :
    LeavesInM Fence.wide 6 Tryz.prog Tryz.f17 tmps (AbPostA B s m F L T node secret w) [{ target := .collected D, args := #[] }] .returning X := by
  refine ⟨by simp, .inl ⟨_, _, rfl, run_takeDeferred hK, ?_⟩⟩
  have hT : Turned (fun k => k = D) X (X.putObj D (.deferred none)) := (Turned.refl (fun k => k = D) X).grown (grownBy_putObj' X D _) (fun k _ e => by cases e; rfl)
  exact (h.turn hT (fun k hk e => hF (e ▸ hk)) (fun k e => by rw [e]; exact hD) (fun g hg => ho g hg)).leaves0 ha tmps e8 e9 e10

/-- The three stores of a return. -/
theorem fin_mk {L : List TermD} {a : Option Addr} {cc : Nat} {T : List NodeD} {v0 : Value} {x0 y4 y5 : Int} (hq : q = w.heap.size) (hB : B ≤ q) (hA : StepA B s m F' L a cc T q (q + 1 + 1) (q + 1) (q + 1 + 1 + 1) v0 x0 X)
    (h4 : Stays F' X (q + 1 + 1 + 1 + 1) (boxI y4)) (h5 : Stays F' X (q + 1 + 1 + 1 + 1 + 1) (boxE y5)) (hs : StO F' X 123 2 (.slice va ks.length vc) ks.length (ks.flatMap keyV))
    (hf : ∀ g, (Value.slice va ks.length vc).ownBlock = some g → q + 1 + 1 + 1 + 1 + 1 < g) (hx : Ext F F' w X) (hT : Turned F w X) :
    AbFin B s m F w q va vc e c L ks F' (((X.setCell ⟨q + 1 + 1 + 1, 0, none⟩ (.slice va ks.length vc)).setCell ⟨q + 1 + 1 + 1 + 1, 0, none⟩ (.int .i64 c)).setCell ⟨q + 1 + 1 + 1 + 1 + 1, 0, none⟩ (.int .i64 e)) := by
  obtain ⟨Y, hY⟩ : ∃ Y, Y = (((X.setCell ⟨q + 1 + 1 + 1, 0, none⟩ (.slice va ks.length vc)).setCell ⟨q + 1 + 1 + 1 + 1, 0, none⟩ (.int .i64 c)).setCell ⟨q + 1 + 1 + 1 + 1 + 1, 0, none⟩ (.int .i64 e)) := ⟨_, rfl⟩
  have g3 : Y.heap[q + 1 + 1 + 1]? = some (boxK (.slice va ks.length vc)) := by
    rw [hY]
    exact (Below.heap_setCell _ ⟨q + 1 + 1 + 1 + 1 + 1, 0, none⟩ _ _ (by simp only; omega)).trans ((Below.heap_setCell _ ⟨q + 1 + 1 + 1 + 1, 0, none⟩ _ _ (by simp only; omega)).trans (row_setCell hA.cl.at' 0 _))
  have g4 : Y.heap[q + 1 + 1 + 1 + 1]? = some (boxI c) := by
    rw [hY]
    exact (Below.heap_setCell _ ⟨q + 1 + 1 + 1 + 1 + 1, 0, none⟩ _ _ (by simp only; omega)).trans (row_setCell ((Below.heap_setCell _ ⟨q + 1 + 1 + 1, 0, none⟩ _ _ (by simp only; omega)).trans h4.at') 0 _)
  have g5 : Y.heap[q + 1 + 1 + 1 + 1 + 1]? = some (boxE e) := by
    rw [hY]
    exact row_setCell ((Below.heap_setCell _ ⟨q + 1 + 1 + 1 + 1, 0, none⟩ _ _ (by simp only; omega)).trans ((Below.heap_setCell _ ⟨q + 1 + 1 + 1, 0, none⟩ _ _ (by simp only; omega)).trans h5.at')) 0 _
  have hTY : Turned (fun k => k = q + 1 + 1 + 1 ∨ k = q + 1 + 1 + 1 + 1 ∨ k = q + 1 + 1 + 1 + 1 + 1) X Y := by
    rw [hY]
    exact (((Turned.refl _ _).setCell (p := ⟨q + 1 + 1 + 1, 0, none⟩) (fun _ => .inl rfl) _).setCell (p := ⟨q + 1 + 1 + 1 + 1, 0, none⟩) (fun _ => .inr (.inl rfl)) _).setCell (p := ⟨q + 1 + 1 + 1 + 1 + 1, 0, none⟩) (fun _ => .inr (.inr rfl)) _
  rw [← hY]
  refine ⟨hA.lw.turn hTY (fun k hk h => ?_) (fun k hk => by omega), ⟨g3, hA.cl.out⟩, ⟨g4, h4.out⟩, ⟨g5, h5.out⟩, hs.turn hTY (fun g hg h => by have := hf g hg; omega), hf, ⟨hq, hB⟩, hx.wide hTY.size, hT.trans hTY (fun k hk h => by omega)⟩
  rcases h with rfl | rfl | rfl
  · exact hA.cl.out hk
  · exact h4.out hk
  · exact h5.out hk
end

abbrev capsA (q : Nat) : Array Value := #[.pointer (some ⟨q, 0, none⟩), .pointer (some ⟨q + 1 + 1, 0, none⟩), .pointer (some ⟨q + 1, 0, none⟩), .pointer (some ⟨q + 1 + 1 + 1, 0, none⟩)]
abbrev boxF (q : Nat) : Obj := .cells #[.func (.func 47) #[] (capsA q)] 127 (0, 0)

/-- Between two rounds: behind the nodes P. -/
structure AbMid (B s m : Nat) (F : Nat → Prop) (L : List TermD) (a : Option Addr) (c : Nat) (T : List NodeD) (sec : Int) (w : World) (q qf bt : Nat) (P : List Nat) (F' : Nat → Prop) (va : Option Addr) (vc : Nat) (W : World) : Prop where
  st : StepA B s m F' (climb P.length L sec).1 a c T q (q + 1 + 1) (q + 1) (q + 1 + 1 + 1) (.slice va (keysD P L sec).length vc) (climb P.length L sec).2 W
  own : StO F' W 123 2 (.slice va (keysD P L sec).length vc) (keysD P L sec).length ((keysD P L sec).flatMap keyV)
  fresh : ∀ g, (Value.slice va (keysD P L sec).length vc).ownBlock = some g → q + 1 + 1 + 1 + 1 + 1 + 1 ≤ g
  r4 : Stays F' W (q + 1 + 1 + 1 + 1) (boxI 0)
  r5 : Stays F' W (q + 1 + 1 + 1 + 1 + 1) (boxE 0)
  rf : Stays F' W qf (boxF q)
  rt : Stays F' W bt (boxT (.slice a T.length c))
  ok : okD (pubD T) P L sec
  qw : q = w.heap.size ∧ B ≤ q ∧ q + 1 + 1 + 1 + 1 + 1 + 1 ≤ qf ∧ q + 1 + 1 + 1 + 1 + 1 + 1 ≤ bt
  ext : Ext F F' w W
  tur : Turned F w W
  tig : Tight F' m W ∧ F' m ∧ ∃ es cc, W.heap[m]? = some (.map es cc)

section
variable {B s m : Nat} {F : Nat → Prop} {L : List TermD} {a : Option Addr} {c : Nat} {T : List NodeD} {sec : Int} {w : World} {q qf bt : Nat} {P : List Nat} {F' : Nat → Prop} {va : Option Addr} {vc : Nat} {W W' : World}

theorem row_type {F : Nat → Prop} {w : World} {e t : TypeId} {sz : Nat} {v : Value} {n k : Nat} {xs : List Value} {o : Obj} (h : StO F w e sz v n xs) (hk : w.heap[k]? = some o) (hv : v.ownBlock = some k) : ∃ cs, o = .cells cs e (0, 0) := by
  rcases h.own.2 with ⟨e', _⟩ | ⟨g, cap, cur, e', _, hg, _⟩
  · rw [e'] at hv; simp [Value.ownBlock] at hv
  · rw [e'] at hv
    obtain rfl : g = k := by simpa [Value.ownBlock] using hv
    rw [hg] at hk
    exact ⟨cur, by injection hk with hk; exact hk.symm⟩

theorem Tight.turn {G : Nat → Prop} (h : Tight F' m W) (hl : ∀ k, F' k → k < W.heap.size) (hT : Turned G W W') (hd : ∀ k, F' k → ¬ G k) : Tight F' m W' := fun k hk => by
  rcases h k hk with e | ⟨cs, t, e, ht⟩
  · exact .inl e
  · exact .inr ⟨cs, t, (hT.block k (hl k hk) (hd k hk)).trans e, ht⟩

theorem AbMid.turn {G : Nat → Prop} (h : AbMid B s m F L a c T sec w q qf bt P F' va vc W) (hT : Turned G W W') (hd : ∀ k, F' k → ¬ G k) (hG : ∀ k, G k → q + 1 + 1 + 1 + 1 + 1 < k) (ho : ∀ g, (Value.slice va (keysD P L sec).length vc).ownBlock = some g → ¬ G g) (hf : ¬ G qf) (hb : ¬ G bt) :
    AbMid B s m F L a c T sec w q qf bt P F' va vc W' := by
  have hlt : ∀ k, k ≤ q + 1 + 1 + 1 + 1 + 1 → ¬ G k := fun k hk hg => by have := hG k hg; omega
  obtain ⟨t1, t2, es, cc, t3⟩ := h.tig
  refine ⟨h.st.turn hT hd (fun k hk => by have := hG k hk; have := h.qw.2.1; omega) (hlt _ (by omega)) (hlt _ (by omega)) (hlt _ (by omega)) (hlt _ (by omega)), h.own.turn hT ho, h.fresh, h.r4.turn hT (hlt _ (by omega)), h.r5.turn hT (hlt _ (by omega)), h.rf.turn hT hf, h.rt.turn hT hb, h.ok, h.qw,
    h.ext.wide hT.size, h.tur.trans hT (fun k hk hg => by have := hG k hg; have := h.qw.1; omega), t1.turn h.st.lw.ps.lt hT hd, t2, es, cc, (hT.block m (h.st.lw.ps.lt m t2) (hd m t2)).trans t3⟩

/-- A block that is no cells, and new, is none of these. -/
theorem AbMid.grown {N : Nat} {row : Option Nat} (h : AbMid B s m F L a c T sec w q qf bt P F' va vc W) (hm : m < N) (hN : q + 1 + 1 + 1 + 1 + 1 < N) (hg : W.grownBy W' row) (hr : ∀ r, row = some r → N ≤ r ∧ ∃ o : Obj, W.heap[r]? = some o ∧ o.isCells = false) :
    AbMid B s m F L a c T sec w q qf bt P F' va vc W' := by
  have hT : Turned (fun k => row = some k) W W' := (Turned.refl _ W).grown hg (fun k _ e => e)
  have hcells : ∀ k cs t, W.heap[k]? = some (.cells cs t (0, 0)) → ¬ row = some k := fun k cs t hk e => by
    obtain ⟨_, o, ho, hc⟩ := hr k e
    rw [hk] at ho
    injection ho with ho
    rw [← ho] at hc
    cases hc
  refine h.turn hT (fun k hk e => ?_) (fun k e => Nat.lt_of_lt_of_le hN (hr k e).1) (fun g hg e => ?_) (hcells _ _ _ h.rf.at') (hcells _ _ _ h.rt.at')
  · rcases h.tig.1 k hk with rfl | ⟨cs, t, e', _⟩
    · have := (hr _ e).1; omega
    · exact hcells k cs t e' e
  · obtain ⟨_, o, ho, hc⟩ := hr g e
    obtain ⟨cs, rfl⟩ := row_type (t := 3) h.own ho hg
    cases hc

theorem AbFin.grown {N : Nat} {row : Option Nat} {e cc : Int} {T' : List TermD} {ks : List KeyP} (h : AbFin B s m F w q va vc e cc T' ks F' W) (ht : Tight F' m W) (hm : m < N) (hN : q + 1 + 1 + 1 + 1 + 1 < N) (hg : W.grownBy W' row) (hr : ∀ r, row = some r → N ≤ r ∧ ∃ o : Obj, W.heap[r]? = some o ∧ o.isCells = false) :
    AbFin B s m F w q va vc e cc T' ks F' W' ∧ Tight F' m W' := by
  have hT : Turned (fun k => row = some k) W W' := (Turned.refl _ W).grown hg (fun k _ e => e)
  have hcells : ∀ k cs t, W.heap[k]? = some (.cells cs t (0, 0)) → ¬ row = some k := fun k cs t hk e => by
    obtain ⟨_, o, ho, hc⟩ := hr k e
    rw [hk] at ho
    injection ho with ho
    rw [← ho] at hc
    cases hc
  have hd : ∀ k, F' k → ¬ row = some k := fun k hk e => by
    rcases ht k hk with rfl | ⟨cs, t, e', _⟩
    · have := (hr _ e).1; omega
    · exact hcells k cs t e' e
  refine ⟨h.turn hT hd (fun k e => Nat.lt_of_lt_of_le hN (hr k e).1) (fun g hg e => ?_), ht.turn h.lw.ps.lt hT hd⟩
  obtain ⟨_, o, ho, hc⟩ := hr g e
  obtain ⟨cs, rfl⟩ := row_type (t := 3) h.own ho hg
  cases hc
end
end Go.Proofs.YtedpljclnpiggaaGreatDoor

/-
  path.Above: one round of its loop.
-/
namespace Go.Proofs.YtedpljclnpiggaaGreatDoor
open Go Go.RowKit

section
variable {B s m : Nat} {F : Nat → Prop} {L : List TermD} {a : Option Addr} {c : Nat} {T : List NodeD} {sec : Int} {w : World} {q qf bt : Nat} {P : List Nat} {F' : Nat → Prop} {va : Option Addr} {vc : Nat} {W W' : World}

theorem boxes_q (hB : B ≤ q) : Boxes B q (q + 1 + 1) (q + 1) (q + 1 + 1 + 1) (q + 1 + 1 + 1 + 1 + 1 + 1) := ⟨by omega, by omega, by omega⟩

theorem AbMid.keeps {N : Nat} (h : AbMid B s m F L a c T sec w q qf bt P F' va vc W) (hm : m < N) (hN : q + 1 + 1 + 1 + 1 + 1 < N) (hT : Turned (foot F' (q + 1 + 1 + 1) (q + 1 + 1) (.slice va (keysD P L sec).length vc)) W W') :
    KeepsFrom N W W' ∧ KpA B bt (q + 1 + 1) W W' := by
  have hqB := h.qw.2.1
  have hown : ∀ k o, W.heap[k]? = some o → (Value.slice va (keysD P L sec).length vc).ownBlock = some k → ∃ cs, o = .cells cs 123 (0, 0) := fun k o hk hv => row_type (t := 3) h.own hk hv
  refine ⟨⟨hT.size, fun k o hk ho hc => ?_⟩, hT.below (Nat.le_trans h.st.lw.size (Nat.le_refl _)) (fun k hk => ?_), ?_, fun k cs hk hkc => ?_⟩
  · refine (hT.block k (Array.getElem?_eq_some_iff.1 ho).1 (fun hf => ?_)).trans ho
    rcases hf with hf | hf | hf | hf
    · rcases h.tig.1 k hf with rfl | ⟨cs, t, e, _⟩
      · omega
      · rw [ho] at e; injection e with e; rw [e] at hc; cases hc
    · omega
    · omega
    · obtain ⟨cs, rfl⟩ := hown k o ho hf; cases hc
  · rcases hk with hk | hk | hk | hk
    · exact h.st.lw.far k hk
    · omega
    · omega
    · have := h.fresh k hk; omega
  · refine hT.block bt h.rt.lt (fun hf => ?_)
    have := h.qw
    rcases hf with hf | hf | hf | hf
    · exact h.rt.out hf
    · omega
    · omega
    · obtain ⟨cs, e⟩ := hown bt _ h.rt.at' hf
      injection e with _ e
      exact absurd e (by decide)
  · refine (hT.block k (Array.getElem?_eq_some_iff.1 hkc).1 (fun hf => ?_)).trans hkc
    rcases hf with hf | hf | hf | hf
    · rcases h.tig.1 k hf with rfl | ⟨cs', t, e, ht⟩
      · obtain ⟨_, _, es, cc, e⟩ := h.tig
        rw [hkc] at e; cases e
      · rw [hkc] at e
        injection e with e
        injection e with _ e
        exact ht e.symm
    · subst hf
      have e := h.st.cl.at'
      rw [hkc] at e
      injection e with e
      injection e with _ e
      exact absurd e (by decide)
    · exact hk hf
    · obtain ⟨cs', e⟩ := hown k _ hkc hf
      injection e with _ e
      exact absurd e (by decide)

theorem Ext.sub {F F1 F2 : Nat → Prop} {w w' : World} (h : Ext F F1 w w') (hs : ∀ k, F2 k → F1 k) : Ext F F2 w w' := fun k hk => h k (hs k hk)

theorem AbMid.next {x : Nat} {r : Ending} (h : AbMid B s m F L a c T sec w q qf bt P F' va vc W) (hp : pubD T x = pubAt L sec P.length)
    (hs : StepOk B s m F' (climb P.length L sec).1 a c T q (q + 1 + 1) (q + 1) (q + 1 + 1 + 1) (q + 1 + 1 + 1 + 1 + 1 + 1) (keysD P L sec) (.slice va (keysD P L sec).length vc) x (climb P.length L sec).2 W r W') :
    r = .returned (.int .i64 0) ∧ Turned (foot F' (q + 1 + 1 + 1) (q + 1 + 1) (.slice va (keysD P L sec).length vc)) W W' ∧ ∃ F2 va2 vc2, AbMid B s m F L a c T sec w q qf bt (P ++ [x]) F2 va2 vc2 W' := by
  obtain ⟨hr, F1, va', vc', hA, hk, hg, hx, hT⟩ := hs
  refine ⟨hr, hT, ?_⟩
  obtain ⟨F0, h0, hA0, ht0, hm0, hmap⟩ := hA.tight
  have hlen : (keysD (P ++ [x]) L sec).length = (keysD P L sec).length + 1 := by rw [keysD_snoc, List.length_append]; rfl
  have hcl : climb (P ++ [x]).length L sec = (makeL (nodeT (climb P.length L sec).1 (climb P.length L sec).2) (kdfT 1 (climb P.length L sec).2), makeN (nodeT (climb P.length L sec).1 (climb P.length L sec).2) (kdfT 1 (climb P.length L sec).2)) := by
    rw [List.length_append]; rfl
  have hfo : ∀ k, ¬ F' k → k ≠ q + 1 + 1 + 1 → k ≠ q + 1 + 1 → (∀ g, (Value.slice va (keysD P L sec).length vc).ownBlock = some g → g ≠ k) → ¬ foot F' (q + 1 + 1 + 1) (q + 1 + 1) (.slice va (keysD P L sec).length vc) k := fun k h1 h2 h3 h4 hf => by
    rcases hf with hf | hf | hf | hf
    · exact h1 hf
    · exact h2 hf
    · exact h3 hf
    · exact h4 k hf rfl
  have hq := h.qw
  have hfr := h.fresh
  have hown : ∀ k o, W.heap[k]? = some o → (Value.slice va (keysD P L sec).length vc).ownBlock = some k → ∃ cs, o = .cells cs 123 (0, 0) := fun k o hk hv => row_type (t := 3) h.own hk hv
  have hne : ∀ k t cs, W.heap[k]? = some (.cells cs t (0, 0)) → t ≠ 123 → ∀ g, (Value.slice va (keysD P L sec).length vc).ownBlock = some g → g ≠ k := fun k t cs hk ht g hg e => by
    subst e
    obtain ⟨cs', e⟩ := hown g _ hk hg
    injection e with _ e
    exact ht e
  have hlow : ∀ k, k < q + 1 + 1 + 1 + 1 + 1 + 1 → ∀ g, (Value.slice va (keysD P L sec).length vc).ownBlock = some g → g ≠ k := fun k hk g hg e => by have := hfr g hg; omega
  refine ⟨F0, va', vc', ⟨by rw [hcl, hlen]; exact hA0, by rw [hlen, keysD_snoc]; exact hk.sub h0, by rw [hlen]; exact hg, (h.r4.to hx hT (hfo _ h.r4.out (by omega) (by omega) (hlow _ (by omega)))).sub h0, (h.r5.to hx hT (hfo _ h.r5.out (by omega) (by omega) (hlow _ (by omega)))).sub h0,
    (h.rf.to hx hT (hfo _ h.rf.out (by omega) (by omega) (hne _ _ _ h.rf.at' (by decide)))).sub h0, (h.rt.to hx hT (hfo _ h.rt.out (by omega) (by omega) (hne _ _ _ h.rt.at' (by decide)))).sub h0, okD_snoc h.ok hp, h.qw, (h.ext.trans hx h.tur.size hT.size).sub h0, ?_, ht0, hm0, hmap⟩⟩
  refine h.tur.trans hT (fun k hk hf => ?_)
  rcases hf with hf | hf | hf | hf
  · rcases h.ext k hf with e | e
    · exact e
    · omega
  · omega
  · omega
  · have := hfr k hf; omega

theorem AbMid.bad {N : Nat} {r : Ending} (h : AbMid B s m F L a c T sec w q qf bt P F' va vc W) (hm : m < N) (hN : q + 1 + 1 + 1 + 1 + 1 < N)
    (hs : StepBad B s m F' (climb P.length L sec).1 a c T q (q + 1 + 1) (q + 1) (q + 1 + 1 + 1) (.slice va (keysD P L sec).length vc) (climb P.length L sec).2 W r W') :
    r = .returned (.int .i64 12) ∧ (∃ F2 v x, StepA B s m F2 (nodeAtT L sec P.length) a c T q (q + 1 + 1) (q + 1) (q + 1 + 1 + 1) v x W' ∧ Stays F2 W' (q + 1 + 1 + 1 + 1) (boxI 0) ∧ Stays F2 W' (q + 1 + 1 + 1 + 1 + 1) (boxE 0)) ∧
    ∃ F2, AbFin B s m F w q none 0 12 0 (nodeAtT L sec P.length) [] F2 (((W'.setCell ⟨q + 1 + 1 + 1, 0, none⟩ (.slice none 0 0)).setCell ⟨q + 1 + 1 + 1 + 1, 0, none⟩ (.int .i64 0)).setCell ⟨q + 1 + 1 + 1 + 1 + 1, 0, none⟩ (.int .i64 12)) ∧
      Tight F2 m (((W'.setCell ⟨q + 1 + 1 + 1, 0, none⟩ (.slice none 0 0)).setCell ⟨q + 1 + 1 + 1 + 1, 0, none⟩ (.int .i64 0)).setCell ⟨q + 1 + 1 + 1 + 1 + 1, 0, none⟩ (.int .i64 12)) ∧
      KeepsFrom N W (((W'.setCell ⟨q + 1 + 1 + 1, 0, none⟩ (.slice none 0 0)).setCell ⟨q + 1 + 1 + 1 + 1, 0, none⟩ (.int .i64 0)).setCell ⟨q + 1 + 1 + 1 + 1 + 1, 0, none⟩ (.int .i64 12)) := by
  obtain ⟨hr, F1, hA, hx, hT⟩ := hs
  obtain ⟨F0, h0, hA0, ht0, hm0, hmap⟩ := hA.tight
  have hq := h.qw
  have h4 := (h.r4.step hx hT).sub h0
  have h5 := (h.r5.step hx hT).sub h0
  have hTw : Turned F w W' := h.tur.trans hT (fun k hk hf => (h.ext k hf).elim id (fun e => by omega))
  have hfin := fin_mk (e := 12) (c := 0) (ks := []) (va := none) (vc := 0) hq.1 hq.2.1 hA0 h4 h5 (StO.nil' F0 W' _ 2) (fun g hg => by simp [Value.ownBlock] at hg) ((h.ext.trans hx h.tur.size hT.size).sub h0) hTw
  refine ⟨hr, ⟨F0, _, _, hA0, h4, h5⟩, F0, hfin, ?_, ?_⟩
  · have hTY : Turned (fun k => k = q + 1 + 1 + 1 ∨ k = q + 1 + 1 + 1 + 1 ∨ k = q + 1 + 1 + 1 + 1 + 1) W' (((W'.setCell ⟨q + 1 + 1 + 1, 0, none⟩ (.slice none 0 0)).setCell ⟨q + 1 + 1 + 1 + 1, 0, none⟩ (.int .i64 0)).setCell ⟨q + 1 + 1 + 1 + 1 + 1, 0, none⟩ (.int .i64 12)) :=
      (((Turned.refl _ _).setCell (p := ⟨q + 1 + 1 + 1, 0, none⟩) (fun _ => .inl rfl) _).setCell (p := ⟨q + 1 + 1 + 1 + 1, 0, none⟩) (fun _ => .inr (.inl rfl)) _).setCell (p := ⟨q + 1 + 1 + 1 + 1 + 1, 0, none⟩) (fun _ => .inr (.inr rfl)) _
    refine ht0.turn hA0.lw.ps.lt hTY (fun k hk hg => ?_)
    rcases hg with rfl | rfl | rfl
    · exact hA0.cl.out hk
    · exact h4.out hk
    · exact h5.out hk
  · have hk1 : KeepsFrom N W W' := (h.keeps hm hN (hT.mono (fun k _ hk => .inl hk))).1
    exact ((hk1.trans (KeepsFrom.of_grownBy (grownBy_setCell' W' _ _) (fun j e => by cases e; omega))).trans (KeepsFrom.of_grownBy (grownBy_setCell' _ _ _) (fun j e => by cases e; omega))).trans (KeepsFrom.of_grownBy (grownBy_setCell' _ _ _) (fun j e => by cases e; omega))
end
end Go.Proofs.YtedpljclnpiggaaGreatDoor

/-
  path.Above over any tree: the walk.
-/
namespace Go.Proofs.YtedpljclnpiggaaGreatDoor
open Go Go.RowKit
attribute [local go_sem] Oper.semAt_some

theorem ownK_len {v : Value} {l : List KeyP} {w : World} (h : OwnK v l w) : ∃ a c, v = .slice a l.length c := by
  rcases h.2 with ⟨e, h2⟩ | ⟨g, cap, cur, e, _⟩
  · exact ⟨none, 0, by rw [e, h2]⟩
  · exact ⟨_, _, e⟩
theorem keysA {F : Nat → Prop} {w : World} {a : Option Addr} {n c : Nat} {l : List KeyP} (h : StO F w 123 2 (.slice a n c) l.length (l.flatMap keyV)) : KeysAt w a l := by
  rcases h.own.2 with ⟨e, h2⟩ | ⟨g, cap, cur, e, _⟩
  · intro i hi; omega
  · simp only [Value.slice.injEq] at e
    obtain ⟨rfl, rfl, rfl⟩ := e
    exact keys_at h rfl

theorem done_fin {B s m : Nat} {F : Nat → Prop} {L : List TermD} {a : Option Addr} {c : Nat} {T : List NodeD} {sec : Int} {w : World} {q qf bt : Nat} {P : List Nat} {F' : Nat → Prop} {va : Option Addr} {vc : Nat} {W w8 : World} {a8 : Option Addr} {c8 : Nat} {ks : List KeyP}
    (h : AbMid B s m F L a c T sec w q qf bt P F' va vc W) (hb : Below W.heap.size W w8) (hv : OwnK (.slice a8 ks.length c8) ks w8) (hf : ∀ g, (Value.slice a8 ks.length c8).ownBlock = some g → W.heap.size ≤ g) :
    AbFin B s m F w q a8 c8 0 (climb P.length L sec).2 (climb P.length L sec).1 ks F' (((w8.setCell ⟨q + 1 + 1 + 1, 0, none⟩ (.slice a8 ks.length c8)).setCell ⟨q + 1 + 1 + 1 + 1, 0, none⟩ (.int .i64 (climb P.length L sec).2)).setCell ⟨q + 1 + 1 + 1 + 1 + 1, 0, none⟩ (.int .i64 0)) :=
  fin_mk (e := 0) (c := (climb P.length L sec).2) h.qw.1 h.qw.2.1 (h.st.new hb) (h.r4.new hb) (h.r5.new hb) ⟨hv, fun g hg hF => by have := h.st.lw.ps.lt g hF; have := hf g hg; omega⟩ (fun g hg => Nat.lt_of_lt_of_le h.r5.lt (hf g hg))
    (h.ext.wide hb.size) (h.tur.trans (Turned.new (fun _ => False) hb) (fun _ _ h => h.elim))

/-- How the loop's body leaves. -/
def AbOut (B s m : Nat) (F : Nat → Prop) (L : List TermD) (T : List NodeD) (sec : Int) (w : World) (q node : Nat) (j : Code) (pre : List (NodeN T)) (W : World) : Prop :=
  j = .ret ∧ ∃ (pre' : List (NodeN T)) (x : NodeN T) (F' : Nat → Prop), pre = pre' ++ [x] ∧ okD (pubD T) (node :: pre'.map Subtype.val) L sec ∧ pubD T x.1 ≠ pubAt L sec (pre'.length + 1) ∧
    AbFin B s m F w q none 0 12 0 (nodeAtT L sec (pre'.length + 1)) [] F' W ∧ Tight F' m W
def AbIn (B s m : Nat) (F : Nat → Prop) (L : List TermD) (a : Option Addr) (c : Nat) (T : List NodeD) (sec : Int) (w : World) (q qf bt node : Nat) (pre : List (NodeN T)) (W : World) : Prop :=
  ∃ F' va vc, AbMid B s m F L a c T sec w q qf bt (node :: pre.map Subtype.val) F' va vc W

/-- What a stopped loop says. -/
theorem stop_ans {L : List TermD} {T : List NodeD} {sec : Int} {x0 : Nat} {pre' : List (NodeN T)} {x : NodeN T} {r : List Nat} (hc : condD T L x0 sec) (ho : overD T x0 = (pre' ++ [x]).map Subtype.val ++ r) (h1 : okD (pubD T) (x0 :: pre'.map Subtype.val) L sec)
    (h2 : pubD T x.1 ≠ pubAt L sec (pre'.length + 1)) : AbAns T L x0 sec 12 (nodeAtT L sec (pre'.length + 1)) [] 0 := by
  have hP : pathD T (x0 : Int).toNat = (x0 :: pre'.map Subtype.val) ++ (x.1 :: r) := by
    have e0 : (x0 : Int).toNat = x0 := by omega
    rw [e0]
    show x0 :: overD T x0 = _
    rw [ho]
    simp
  refine .inl ⟨hc, .inr ⟨pre'.length + 1, ?_, ?_, ?_, rfl, rfl, rfl, rfl⟩⟩
  · rw [hP]; simp
  · rw [hP, List.take_left' (by simp)]; exact h1
  · rw [hP]
    have : ((x0 :: pre'.map Subtype.val) ++ (x.1 :: r)).getD (pre'.length + 1) 0 = x.1 := by
      simp [List.getD_eq_getElem?_getD, List.getElem?_append_right]
    rw [this]
    exact h2
theorem done_ans {L : List TermD} {T : List NodeD} {sec : Int} {x0 : Nat} {pre : List (NodeN T)} (hc : condD T L x0 sec) (ho : pre.map Subtype.val = overD T x0) (h1 : okD (pubD T) (x0 :: pre.map Subtype.val) L sec) :
    AbAns T L x0 sec 0 (climb (x0 :: pre.map Subtype.val).length L sec).1 (risingD (keysD (x0 :: pre.map Subtype.val) L sec)) (climb (x0 :: pre.map Subtype.val).length L sec).2 := by
  have hP : pathD T (x0 : Int).toNat = x0 :: pre.map Subtype.val := by
    have e0 : (x0 : Int).toNat = x0 := by omega
    rw [e0, ho]
  exact .inl ⟨hc, .inl ⟨by rw [hP]; exact h1, rfl, by rw [hP], by rw [hP], by rw [hP]⟩⟩
theorem first_ans {L : List TermD} {T : List NodeD} {sec : Int} {x0 : Nat} (hc : condD T L x0 sec) (h2 : pubD T x0 ≠ pubAt L sec 0) : AbAns T L x0 sec 12 (nodeAtT L sec 0) [] 0 := by
  have e0 : (x0 : Int).toNat = x0 := by omega
  refine .inl ⟨hc, .inr ⟨0, by simp, fun i hi => by simp at hi, ?_, rfl, rfl, rfl, rfl⟩⟩
  rw [e0]
  exact h2

set_option maxRecDepth 100000 in
set_option maxHeartbeats 3200000 in
theorem above_any (B s m : Nat) (F : Nat → Prop) (L : List TermD) (hG : Good L) (hM : AllMay L) (hl : L.length ≤ 3000) (T : List NodeD) (hfit : FitT T) (hlen : T.length ≤ 262144) (a : Option Addr) (c : Nat) (node secret : Int) (w : World) (hF : Tight F m w ∧ m < w.heap.size) (h : Lw B s m F L w) (hT : TreeAt B w a T) :
    Calls Tryz.prog 17 #[.pointer (some ⟨s, 0, none⟩), .agg #[.slice a T.length c], .int .i64 node, .int .i64 secret] w (AbPostA B s m F L T node secret w) := by
  obtain ⟨w1, hw1⟩ : ∃ w1, w1 = (((((w.alloc (boxP s)).alloc (boxT (.slice a T.length c))).alloc (boxI secret)).alloc (boxK (.slice none 0 0))).alloc (boxI 0)).alloc (boxE 0) := ⟨_, rfl⟩
  obtain ⟨hb1, g0, g1, g2, g3, g4, g5⟩ := six_rows w _ _ _ _ _ _ hw1
  have hFl := h.ps.lt
  have hA : StepA B s m F L a c T w.heap.size (w.heap.size + 1 + 1) (w.heap.size + 1) (w.heap.size + 1 + 1 + 1) (.slice none 0 0) secret w1 :=
    ⟨h.new hb1, hT.below (hb1.mono h.size), ⟨g0, fun hf => by have := hFl _ hf; omega⟩, ⟨g2, fun hf => by have := hFl _ hf; omega⟩, ⟨g1, fun hf => by have := hFl _ hf; omega⟩, ⟨g3, fun hf => by have := hFl _ hf; omega⟩⟩
  have h4 : Stays F w1 (w.heap.size + 1 + 1 + 1 + 1) (boxI 0) := ⟨g4, fun hf => by have := hFl _ hf; omega⟩
  have h5 : Stays F w1 (w.heap.size + 1 + 1 + 1 + 1 + 1) (boxE 0) := ⟨g5, fun hf => by have := hFl _ hf; omega⟩
  have k0 := cell_row g0 0
  have hheld := fun W (hW : StepA B s m F L a c T w.heap.size (w.heap.size + 1 + 1) (w.heap.size + 1) (w.heap.size + 1 + 1 + 1) (.slice none 0 0) secret W) => aheld_any B s F L (by omega) T hfit hlen a c W hW.lw.tz hW.lw.three hW.lw.size hW.lw.ps hW.tr
  have Hheld := Lib.hid hheld; clear hheld
  have HA := Lib.hid hA
  have H4 := Lib.hid h4
  have H5 := Lib.hid h5
  have Hb1 := Lib.hid hb1
  have HB := Lib.hid (show B ≤ w.heap.size from h.size)
  have Hm := Lib.hid hF.2
  have hbad : ∀ (va : Option Addr) X F2, ¬ condD T L node secret → StepA B s m F L a c T w.heap.size (w.heap.size + 1 + 1) (w.heap.size + 1) (w.heap.size + 1 + 1 + 1) (.slice none 0 0) secret X → Stays F X (w.heap.size + 1 + 1 + 1 + 1) (boxI 0) → Stays F X (w.heap.size + 1 + 1 + 1 + 1 + 1) (boxE 0) → Below w.heap.size w X → F2 = F →
      AbFin B s m F w w.heap.size none 0 1 0 L [] F (((X.setCell ⟨w.heap.size + 1 + 1 + 1, 0, none⟩ (.slice none 0 0)).setCell ⟨w.heap.size + 1 + 1 + 1 + 1, 0, none⟩ (.int .i64 0)).setCell ⟨w.heap.size + 1 + 1 + 1 + 1 + 1, 0, none⟩ (.int .i64 1)) ∧ AbAns T L node secret 1 L [] 0 := fun va X F2 hc hA h4 h5 hb _ =>
    ⟨fin_mk (e := 1) (c := 0) (ks := []) (va := none) (vc := 0) rfl HB.out hA h4 h5 (StO.nil' F X _ 2) (fun g hg => by simp [Value.ownBlock] at hg) (Ext.refl F w X) (Turned.new F hb), .inr ⟨hc, rfl, rfl, rfl, rfl⟩⟩
  have Hbad := Lib.hid hbad; clear hbad
  have HG := Lib.hid hG
  have HM := Lib.hid hM
  have Hl := Lib.hid hl
  have Hfit := Lib.hid hfit
  have Hlen := Lib.hid hlen
  clear h hT hA h4 h5 hb1 g0 g1 g2 g3 g4 g5 hFl hF hG hM hl hfit hlen
  refine calls_of_marks 6 Tryz.func17 rfl ?_
  simp only [Tryz.ntmps17, List.size_toArray, List.length_cons, List.length_nil, Nat.reduceAdd, Nat.reduceSub, Array.replicate_succ, Array.replicate_zero, List.push_toArray, List.append_toArray, List.nil_append, List.cons_append]
  go_upto_region 1 with fail
  rw [← hw1]
  have Hw1 := Lib.hid hw1; clear hw1
  go_wp2_with fail
  refine (palive_any s F L _ HA.out.lw.ps).mono ?_
  rintro e wx ⟨rfl, hwx⟩
  subst wx
  obtain ⟨q, hq⟩ : ∃ q, q = w.heap.size := ⟨_, rfl⟩
  rw [← hq] at HA H4 H5 Hheld Hbad k0 ⊢
  have Hq := Lib.hid hq; clear hq
  have k1 := cell_row HA.out.ct.at' 0
  have k2 := cell_row HA.out.cx.at' 0
  go_wp2_with fail
  refine (Hheld.out _ HA.out).mono ?_
  rintro e w2 ⟨⟨bh, rfl, hbh⟩, hb⟩
  have HA2 := Lib.hid (HA.out.new hb); have H42 := Lib.hid (H4.out.new hb); have H52 := Lib.hid (H5.out.new hb); have Hb2 := Lib.hid (Hb1.out.trans (hb.mono Hb1.out.size))
  have Hbh := Lib.hid hbh
  clear hb HA H4 H5 Hb1 k0 k1 k2 hbh
  have k0 := cell_row HA2.out.cs.at' 0
  have k1 := cell_row HA2.out.ct.at' 0
  have k2 := cell_row HA2.out.cx.at' 0
  have k3 := cell_row HA2.out.cl.at' 0
  have f3 := free_row HA2.out.cl.at' 0
  have k4 := cell_row H42.out.at' 0
  have f4 := free_row H42.out.at' 0
  have k5 := cell_row H52.out.at' 0
  have f5 := free_row H52.out.at' 0
  cases bh with
  | false =>
    have hfin := Hbad.out none w2 F (fun hc => by have := Hbh.out.2 ⟨hc.1, hc.2.1⟩; cases this) HA2.out H42.out H52.out (by rw [Hq.out]; exact Hb2.out) rfl
    have Hfin := Lib.hid hfin; clear hfin
    go_wp2_with fail
    exact Hfin.out.1.leaves0 Hfin.out.2 _ rfl rfl rfl
  | true =>
    have hoh := Hbh.out.1 rfl
    have Hoh := Lib.hid hoh; clear hoh
    by_cases hn0 : node < 0
    · have hfin := Hbad.out none w2 F (fun hc => by have := hc.2.2.1; omega) HA2.out H42.out H52.out (by rw [Hq.out]; exact Hb2.out) rfl
      have Hfin := Lib.hid hfin; clear hfin
      go_wp2_with fail
      exact Hfin.out.1.leaves0 Hfin.out.2 _ rfl rfl rfl
    · by_cases hn1 : (T.length : Int) ≤ node
      · have hfin := Hbad.out none w2 F (fun hc => by have := hc.2.2.2.1; omega) HA2.out H42.out H52.out (by rw [Hq.out]; exact Hb2.out) rfl
        have Hfin := Lib.hid hfin; clear hfin
        go_wp2_with fail
        exact Hfin.out.1.leaves0 Hfin.out.2 _ rfl rfl rfl
      · obtain ⟨x0, rfl⟩ : ∃ x0 : Nat, node = x0 := ⟨node.toNat, by omega⟩
        have hx0 : x0 < T.length := by omega
        have Hx0 := Lib.hid hx0; clear hx0
        have hnI : (x0 : Int) < T.length := by omega
        clear hn0 hn1
        go_wp2_with fail
        refine (sis_any s F L secret _ HA2.out.lw.ps (by have := Hl.out; omega)).mono ?_
        rintro e w3 ⟨rfl, hb⟩
        have HA3 := Lib.hid (HA2.out.new hb); have H43 := Lib.hid (H42.out.new hb); have H53 := Lib.hid (H52.out.new hb); have Hb3 := Lib.hid (Hb2.out.trans (hb.mono Hb2.out.size))
        clear hb HA2 H42 H52 Hb2 k0 k1 k2 k3 f3 k4 f4 k5 f5
        cases hth : thereD L.length secret with
        | false =>
          have k3 := cell_row HA3.out.cl.at' 0
          have f3 := free_row HA3.out.cl.at' 0
          have k4 := cell_row H43.out.at' 0
          have f4 := free_row H43.out.at' 0
          have k5 := cell_row H53.out.at' 0
          have f5 := free_row H53.out.at' 0
          have hfin := Hbad.out none w3 F (fun hc => by have := hc.2.2.2.2; rw [hth] at this; cases this) HA3.out H43.out H53.out (by rw [Hq.out]; exact Hb3.out) rfl
          have Hfin := Lib.hid hfin; clear hfin hth
          go_wp2_with fail
          exact Hfin.out.1.leaves0 Hfin.out.2 _ rfl rfl rfl
        | true =>
          have hcond : condD T L x0 secret := ⟨Hoh.out.1, Hoh.out.2, by omega, by have := Hx0.out; omega, hth⟩
          have Hcond := Lib.hid hcond
          have hway : OnWay L secret 3000 := ⟨HG.out, HM.out, hth, Hl.out⟩
          have Hway := Lib.hid hway
          have Hsk := Lib.hid (show w.heap.size + 1 + 1 + 1 + 1 + 1 < w3.heap.size by have := H53.out.lt; have := Hq.out; omega)
          clear hcond hway hth Hbad Hheld
          go_wp2_with fail
          have hal := (Below.refl w3.heap.size w3).alloc (Nat.le_refl _) (boxF q)
          have HA4 := Lib.hid (HA3.out.new hal); have H44 := Lib.hid (H43.out.new hal); have H54 := Lib.hid (H53.out.new hal); have Hb4 := Lib.hid (Hb3.out.trans (hal.mono Hb3.out.size))
          have H114 : Hid (Stays F (w3.alloc (boxF q)) w3.heap.size (boxF q)) := Lib.hid ⟨row_alloc _ _ _, fun hf => absurd (HA3.out.lw.ps.lt _ hf) (Nat.lt_irrefl _)⟩
          have hqf : q + 1 + 1 + 1 + 1 + 1 + 1 ≤ w3.heap.size := by have := Hsk.out; have := Hq.out; omega
          obtain ⟨qf, hqfe⟩ : ∃ qf, qf = w3.heap.size := ⟨_, rfl⟩
          rw [← hqfe] at H114 hqf ⊢
          have Hqf := Lib.hid hqf
          clear hal HA3 H43 H53 Hb3 hqfe hqf Hsk
          by_cases hp : pubD T x0 = pubAt L secret 0
          · refine (stepA_ok B s m F L a c T q (q + 1 + 1) (q + 1) (q + 1 + 1 + 1) (q + 1 + 1 + 1 + 1 + 1 + 1) (boxes_q (by have := HB.out; have := Hq.out; omega)) [] none 0 x0 secret ⟨Hway.out.good, Hway.out.may, Hway.out.there, by have := Hway.out.len; omega⟩ Hx0.out (by simp) hp _ (by have := H54.out.lt; omega) HA4.out (StO.nil' F _ _ 2) (fun g hg => by simp [Value.ownBlock] at hg)).mono ?_
            rintro e w5 ⟨rfl, F5, va5, vc5, hA5, hk5, hg5, hx5, hT5⟩
            obtain ⟨F0, h0, hA0, ht0, hm0, hmap0⟩ := hA5.tight
            have hqw := Hq.out
            have hfo : ∀ k, ¬ F k → k ≠ q + 1 + 1 + 1 → k ≠ q + 1 + 1 → ¬ foot F (q + 1 + 1 + 1) (q + 1 + 1) (.slice none 0 0) k := fun k h1 h2 h3 hf => by
              rcases hf with hf | hf | hf | hf
              · exact h1 hf
              · exact h2 hf
              · exact h3 hf
              · simp [Value.ownBlock] at hf
            have h45 := (H44.out.to hx5 hT5 (hfo _ H44.out.out (by omega) (by omega))).sub h0
            have h55 := (H54.out.to hx5 hT5 (hfo _ H54.out.out (by omega) (by omega))).sub h0
            have h115 := (H114.out.to hx5 hT5 (hfo _ H114.out.out (by have := Hqf.out; omega) (by have := Hqf.out; omega))).sub h0
            have hxw : Ext F F0 w w5 := fun k hk => (hx5 k (h0 k hk)).imp id (fun h2 => ⟨Nat.le_trans Hb4.out.size h2.1, h2.2⟩)
            have hTw : Turned F w w5 := (Turned.new F Hb4.out).trans hT5 (fun k hk hf => by
              rcases hf with hf | hf | hf | hf
              · exact hf
              · omega
              · omega
              · simp [Value.ownBlock] at hf)
            have hbq : q + 1 + 1 + 1 + 1 + 1 < w5.heap.size := h55.lt
            have HA5 := Lib.hid hA0
            have Hk5 := Lib.hid (hk5.sub h0)
            have Hg5 := Lib.hid hg5
            have H45 := Lib.hid h45
            have H55 := Lib.hid h55
            have H115 := Lib.hid h115
            have HX5 := Lib.hid (And.intro hxw hTw)
            have Htg := Lib.hid (And.intro ht0 (And.intro hm0 hmap0))
            have k0 := cell_row hA0.ct.at' 0
            have Hbq := Lib.hid hbq
            have Hp0 := Lib.hid hp
            clear hA5 hk5 hg5 hx5 hT5 hA0 ht0 hm0 hmap0 hfo h45 h55 h115 hxw hTw hbq HA4 H44 H54 Hb4 H114 hqw h0 hp
            go_wp2_with fail
            refine (over_any (.slice a T.length c) x0 a T.length c rfl _).mono ?_
            rintro r wx ⟨rfl, hwx⟩
            have hbo := ((Below.refl w5.heap.size w5).alloc (Nat.le_refl _) (boxT (.slice a T.length c))).alloc (by simp) (boxI x0)
            have hov : OvA B wx (w5.heap.size + 1) w5.heap.size a c T x0 := by
              rw [hwx]
              exact ⟨by have := row_alloc (w := w5.alloc (boxT (.slice a T.length c))) #[.int .i64 x0] 3 (0, 0); simpa using this, (old_at (by simp)).trans (row_alloc _ _ _), HA5.out.tr.below (hbo.mono HA5.out.lw.size), HA5.out.lw.tz.below hbo (Nat.le_trans HA5.out.lw.three HA5.out.lw.size), HA5.out.lw.three, Nat.le_trans HA5.out.lw.size hbo.size⟩
            rw [← hwx] at hbo
            clear hwx
            have hkl : (keysD [x0] L secret).length = 1 := by rw [keysD_len]; rfl
            obtain ⟨t1, t2, es, tc, t3⟩ := Htg.out
            have hmid : AbMid B s m F L a c T secret w q qf w5.heap.size [x0] F0 va5 vc5 wx :=
              ⟨by rw [hkl]; exact HA5.out.new hbo, by rw [hkl, keysD_one]; exact Hk5.out.new hbo, by rw [hkl]; exact Hg5.out, H45.out.new hbo, H55.out.new hbo, H115.out.new hbo, ⟨hov.t0, fun hf => absurd (HA5.out.lw.ps.lt _ hf) (Nat.lt_irrefl _)⟩,
                okD_snoc (okD_nil _ _ _) Hp0.out, ⟨Hq.out, by have := HB.out; have := Hq.out; omega, Hqf.out, Hbq.out⟩, HX5.out.1.wide hbo.size, HX5.out.2.trans (Turned.new (fun _ => False) hbo) (fun _ _ h => h.elim),
                t1.turn HA5.out.lw.ps.lt (Turned.new (fun _ => False) hbo) (fun _ _ h => h), t2, es, tc, (hbo.block m (HA5.out.lw.ps.lt m t2)).trans t3⟩
            obtain ⟨s4, hs4⟩ : ∃ s, s = w5.heap.size := ⟨_, rfl⟩
            have hsl : s4 < wx.heap.size := by rw [hs4]; exact (Array.getElem?_eq_some_iff.1 hov.t0).1
            rw [← hs4] at hov hmid ⊢
            have hmN : m < wx.heap.size := Nat.lt_of_lt_of_le Hm.out (Nat.le_trans HX5.out.2.size hbo.size)
            have hqN : q + 1 + 1 + 1 + 1 + 1 < wx.heap.size := Nat.lt_of_lt_of_le Hbq.out hbo.size
            have hBN : B ≤ wx.heap.size := hov.sz
            have Hov := Lib.hid hov
            have Hmid := Lib.hid hmid
            have HmN := Lib.hid hmN
            have HqN := Lib.hid hqN
            clear hov hmid hbo hs4 HA5 Hk5 Hg5 H45 H55 H115 HX5 Htg t1 t2 t3 k0 Hbq hkl Hp0
            go_wp2_with fail
            refine (wpIn_wide (n := 6)).1 (wpIn_rangeFunc_ownG rfl (by omega) (gf := 185) (lb := #[.pointer (some ⟨s4 + 1, 0, none⟩), .pointer (some ⟨s4, 0, none⟩)]) rfl trivial (enters_of Tryz.func185 (by kernel_rfl) rfl)
              (over_stops 5 B (s4 + 1) s4 (q + 1 + 1) a c T x0 Hoh.out.1 Hfit.out Hlen.out Hx0.out wx (by omega) Hov.out) kpA_t (kpA_b hBN hsl) (Below.refl _ _) (fun _ => rfl)
              (AbIn B s m F L a c T secret w q qf s4 x0) (AbOut B s m F L T secret w q x0)
              (fun pre W W' row ⟨F', va, vc, hmid⟩ hg hr => ⟨F', va, vc, hmid.grown hmN hqN hg hr⟩)
              (fun j pre W W' row ⟨hj, pre', x, F', e1, e2, e3, hfin, ht⟩ hg hr => ⟨hj, pre', x, F', e1, e2, e3, hfin.grown ht hmN hqN hg hr⟩)
              ⟨F0, va5, vc5, Hmid.out⟩ ?a1 ?assign ?body ?done ?stop)
            case assign =>
              intro l x W K hK
              gi_wp2
              exact hK
            case body =>
              rintro l pre x W ⟨F5, va, vc, hmid⟩ hpl
              have hover := over_len Hoh.out.1 Hx0.out
              have hPl : (x0 :: pre.map Subtype.val).length = pre.length + 1 := by simp
              have hP16 : (x0 :: pre.map Subtype.val).length ≤ 4 := by omega
              have hw2 := climb_way Hway.out _ (by omega : (x0 :: pre.map Subtype.val).length ≤ 16)
              have kf := cell_row hmid.rf.at' 0
              have hsz6 : q + 1 + 1 + 1 + 1 + 1 + 1 ≤ W.heap.size := hmid.r5.lt
              have hmp : (x0 :: (pre ++ [x]).map Subtype.val) = (x0 :: pre.map Subtype.val) ++ [x.1] := by simp
              have hqB : B ≤ q := hmid.qw.2.1
              have hw3 : OnWay (climb (x0 :: pre.map Subtype.val).length L secret).1 (climb (x0 :: pre.map Subtype.val).length L secret).2 3900 := ⟨hw2.good, hw2.may, hw2.there, by have := hw2.len; omega⟩
              have Hmd := Lib.hid hmid
              have Hmp := Lib.hid hmp
              have HPl := Lib.hid hPl
              clear hmid hmp hover hw2
              by_cases hp : pubD T x.1 = pubAt L secret (x0 :: pre.map Subtype.val).length
              · have hcall := stepA_ok B s m F5 (climb (x0 :: pre.map Subtype.val).length L secret).1 a c T q (q + 1 + 1) (q + 1) (q + 1 + 1 + 1) (q + 1 + 1 + 1 + 1 + 1 + 1) (boxes_q hqB) (keysD (x0 :: pre.map Subtype.val) L secret) va vc x.1 (climb (x0 :: pre.map Subtype.val).length L secret).2 hw3 x.2 (by rw [keysD_len]; omega) hp W hsz6 Hmd.out.st Hmd.out.own Hmd.out.fresh
                have Hcall := Lib.hid hcall
                have Hp := Lib.hid hp
                clear hcall hp hw3 hPl hP16 hpl
                gi_wp2_with (refine ⟨trivial, ?_⟩; gi_at_call 47; refine (CallsIn.inRound l (callsIn_wide.2 Hcall.out)).mono ?_; intro e W3 hs3; obtain ⟨rfl, hT3, hnext⟩ := Hmd.out.next Hp.out hs3; have Hnx := Lib.hid hnext; have HT3 := Lib.hid hT3; clear hs3 hnext hT3)
                have hkp := Hmd.out.keeps HmN.out HqN.out HT3.out
                obtain ⟨F2, va2, vc2, hm2⟩ := Hnx.out
                exact ⟨hkp.1, hkp.2, F2, va2, vc2, by rw [Hmp.out]; exact hm2⟩
              · have hcall := stepA_bad B s m F5 (climb (x0 :: pre.map Subtype.val).length L secret).1 a c T q (q + 1 + 1) (q + 1) (q + 1 + 1 + 1) (.slice va (keysD (x0 :: pre.map Subtype.val) L secret).length vc) x.1 (climb (x0 :: pre.map Subtype.val).length L secret).2 hw3 x.2 hp W Hmd.out.st
                have Hcall := Lib.hid hcall
                have Hp := Lib.hid hp
                clear hcall hp hw3 hPl hP16 hpl
                gi_wp2_with (refine ⟨trivial, ?_⟩; gi_at_call 47; refine (CallsIn.inRound l (callsIn_wide.2 Hcall.out)).mono ?_; intro e W3 hs3; obtain ⟨rfl, ⟨F2, v2, y2, hA2, h42, h52⟩, hfin2⟩ := Hmd.out.bad HmN.out HqN.out hs3; have Hfin2 := Lib.hid hfin2; have k3 := cell_row hA2.cl.at' 0; have f3 := free_row hA2.cl.at' 0; have k4 := cell_row h42.at' 0; have f4 := free_row h42.at' 0; have k5 := cell_row h52.at' 0; have f5 := free_row h52.at' 0; clear hs3 hfin2 hA2 h42 h52)
                obtain ⟨F3, hf3, ht3, hk3⟩ := Hfin2.out
                exact ⟨hk3, rfl, pre, x, F3, rfl, Hmd.out.ok, by rw [← HPl.out]; exact Hp.out, by rw [← HPl.out]; exact hf3, ht3⟩
            case done =>
              rintro D xs W hD hxs ⟨F5, va, vc, hmid⟩ hK
              have hans := done_ans Hcond.out hxs hmid.ok
              have hover := over_len Hoh.out.1 Hx0.out
              have hPl : (x0 :: xs.map Subtype.val).length = (overD T x0).length + 1 := by rw [← hxs]; simp
              have hP16 : (x0 :: xs.map Subtype.val).length ≤ 4 := by omega
              have hxlt : ∀ y ∈ (x0 :: xs.map Subtype.val), y < T.length := fun y hy => by
                rcases List.mem_cons.1 hy with rfl | hy
                · exact Hx0.out
                · obtain ⟨z, _, rfl⟩ := List.mem_map.1 hy
                  exact z.2
              generalize (x0 :: xs.map Subtype.val) = P at hans hmid hP16 hxlt hPl
              have hne : keysD P L secret ≠ [] := fun e => by
                have := keysD_len P L secret
                rw [e] at this
                simp at this
                omega
              have hkok : ∀ k ∈ keysD P L secret, i64ok k.1 ∧ i64ok k.2 := fun k hk => by
                unfold keysD at hk
                obtain ⟨i, hi, rfl⟩ := List.mem_map.1 hk
                have hi' := List.mem_range.1 hi
                have hw2 := climb_way Hway.out i (by omega)
                have hnf := node_facts (x := (climb i L secret).2) hw2.good (by have := hw2.len; omega)
                have hy := hxlt (P.getD i 0) (by rw [List.getD_eq_getElem?_getD, List.getElem?_eq_getElem hi']; exact List.getElem_mem _)
                have h1 := hw2.len
                have h2 := Hlen.out
                refine ⟨?_, ?_⟩
                · unfold i64ok; simp only; omega
                · show i64ok (nodeK _ _)
                  unfold i64ok; omega
              have hris : ∀ W', Below W.heap.size W W' → Calls Tryz.prog 49 #[.slice va (keysD P L secret).length vc] W' fun e w8 => ∃ a8 c8, e = .returned (.slice a8 (risingD (keysD P L secret)).length c8) ∧ OwnK (.slice a8 (risingD (keysD P L secret)).length c8) (risingD (keysD P L secret)) w8 ∧ (∀ g, (Value.slice a8 (risingD (keysD P L secret)).length c8).ownBlock = some g → W.heap.size ≤ g) ∧ Below W.heap.size W w8 := by
                intro W' hW'
                refine (rising_any va vc (keysD P L secret) hne (by rw [keysD_len]; omega) hkok W' (KeysAt.below (keysA hmid.own) hW' (Nat.le_refl _))).mono ?_
                rintro e w8 ⟨v, rfl, hv, hvn, hb8⟩
                obtain ⟨a8, c8, rfl⟩ := ownK_len hv
                exact ⟨a8, c8, rfl, hv, fun g hg => Nat.le_trans hW'.size (hvn g hg), hW'.trans (hb8.mono hW'.size)⟩
              have Hris := Lib.hid hris
              have Hans := Lib.hid hans
              have Hmd := Lib.hid hmid
              have HK := Lib.hid hK
              have HD := Lib.hid (show wx.heap.size ≤ D ∧ D < W.heap.size ∧ ¬ F5 D from ⟨hD, (Array.getElem?_eq_some_iff.1 hK).1, fun hf => by
                rcases hmid.tig.1 D hf with e | ⟨cs, t, e, _⟩
                · omega
                · rw [hK] at e; cases e⟩)
              have k3 := cell_row hmid.st.cl.at' 0
              have f3 := free_row hmid.st.cl.at' 0
              have k2 := cell_row hmid.st.cx.at' 0
              have k4 := cell_row hmid.r4.at' 0
              have f4 := free_row hmid.r4.at' 0
              have k5 := cell_row hmid.r5.at' 0
              have f5 := free_row hmid.r5.at' 0
              clear hris hans hmid hK hne hkok hxlt hover hPl hP16 hD hxs
              have Hfin := Lib.hid (fun w8 a8 c8 (hb8 : Below W.heap.size W w8) (hv : OwnK (.slice a8 (risingD (keysD P L secret)).length c8) (risingD (keysD P L secret)) w8) hva => done_fin Hmd.out hb8 hv hva)
              have Hcl := Lib.hid (fun w8 (hb8 : Below W.heap.size W w8) => (show (w8.heap[q + 1 + 1 + 1]? = some (boxK (.slice va (keysD P L secret).length vc)) ∧ w8.heap[q + 1 + 1]? = some (boxI (climb P.length L secret).2) ∧ w8.heap[q + 1 + 1 + 1 + 1]? = some (boxI 0) ∧ w8.heap[q + 1 + 1 + 1 + 1 + 1]? = some (boxE 0) ∧ w8.heap[D]? = some (.deferred (some []))) from
                ⟨(Hmd.out.st.cl.new hb8).at', (Hmd.out.st.cx.new hb8).at', (Hmd.out.r4.new hb8).at', (Hmd.out.r5.new hb8).at', (hb8.block D HD.out.2.1).trans HK.out⟩))
              have Hqd := Lib.hid (show q + 1 + 1 + 1 + 1 + 1 < D by have := HqN.out; have := HD.out.1; omega)
              obtain ⟨ks, hks⟩ : ∃ ks, ks = keysD P L secret := ⟨_, rfl⟩
              rw [← hks] at Hris Hans k3 Hfin Hcl
              have Hks := Lib.hid hks
              clear hks Hmd HK
              generalize (climb P.length L secret).2 = c2 at k2 Hans Hfin Hcl
              generalize (climb P.length L secret).1 = L2 at Hans Hfin
              go_wp2_with fail
              go_region_with (go_at_call 49; refine (Hris.out _ (by exact ⟨rfl, rfl, rfl, Nat.le_refl _, fun _ _ => rfl⟩)).mono ?_; rintro e w8 ⟨a8, c8, rfl, hv, hva, hb8⟩; obtain ⟨b3, b2, b4, b5, bD⟩ := Hcl.out w8 hb8; have HFN := Lib.hid (Hfin.out w8 a8 c8 hb8 hv hva); have HbD := Lib.hid bD; have HvD := Lib.hid hva; clear k2 k3 f3 k4 f4 k5 f5; have k3 := cell_row b3 0; have f3 := free_row b3 0; have k2 := cell_row b2 0; have k4 := cell_row b4 0; have f4 := free_row b4 0; have k5 := cell_row b5 0; have f5 := free_row b5 0; clear hb8 hv hva b3 b2 b4 b5 bD)
              all_goals
                go_wp2_with fail
                refine HFN.out.leavesD Hans.out ?_ Hqd.out HD.out.2.2 (fun g hg e => by have := HvD.out g hg; have := HD.out.2.1; omega) _ rfl rfl rfl
                have hqd := Hqd.out
                exact (Below.heap_setCell _ ⟨q + 1 + 1 + 1 + 1 + 1, 0, none⟩ _ _ (by simp only; omega)).trans ((Below.heap_setCell _ ⟨q + 1 + 1 + 1 + 1, 0, none⟩ _ _ (by simp only; omega)).trans ((Below.heap_setCell _ ⟨q + 1 + 1 + 1, 0, none⟩ _ _ (by simp only; omega)).trans HbD.out))
            case stop =>
              rintro D j pre W hD ⟨rr, hsp⟩ ⟨rfl, pre', x, F5, rfl, ho, hne, hfin, ht⟩ hK
              have hans := stop_ans Hcond.out hsp ho hne
              have hFD : ¬ F5 D := fun hf => by
                rcases ht D hf with e | ⟨cs, t, e, _⟩
                · omega
                · rw [hK] at e; cases e
              gi_wp2
              exact hfin.leavesD hans hK (by omega) hFD (fun g hg => by simp [Value.ownBlock] at hg) _ rfl rfl rfl
          · refine (stepA_bad B s m F L a c T q (q + 1 + 1) (q + 1) (q + 1 + 1 + 1) (.slice none 0 0) x0 secret ⟨Hway.out.good, Hway.out.may, Hway.out.there, by have := Hway.out.len; omega⟩ Hx0.out hp _ HA4.out).mono ?_
            rintro e w5 ⟨rfl, F5, hA5, hx5, hT5⟩
            have h45 := H44.out.step hx5 hT5
            have h55 := H54.out.step hx5 hT5
            have hfin := fin_mk (w := w) (F := F) (e := 12) (c := 0) (ks := []) (va := none) (vc := 0) Hq.out (by have := HB.out; have := Hq.out; omega) hA5 h45 h55 (StO.nil' F5 w5 _ 2) (fun g hg => by simp [Value.ownBlock] at hg)
              (fun k hk => (hx5 k hk).imp id fun h2 => ⟨Nat.le_trans Hb4.out.size h2.1, h2.2⟩) ((Turned.new F Hb4.out).trans hT5 (fun k _ h => h))
            have hans := first_ans Hcond.out hp
            have k3 := cell_row hA5.cl.at' 0
            have f3 := free_row hA5.cl.at' 0
            have k4 := cell_row h45.at' 0
            have f4 := free_row h45.at' 0
            have k5 := cell_row h55.at' 0
            have f5 := free_row h55.at' 0
            have Hfin := Lib.hid hfin
            have Hans := Lib.hid hans
            clear hfin hans hA5 hx5 hT5 h45 h55
            go_wp2_with fail
            exact Hfin.out.leaves0 Hans.out _ rfl rfl rfl
end Go.Proofs.YtedpljclnpiggaaGreatDoor
