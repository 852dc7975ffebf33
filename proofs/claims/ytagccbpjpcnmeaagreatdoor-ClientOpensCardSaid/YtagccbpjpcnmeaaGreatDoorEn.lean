/-
  The executor's steps and calls.
-/
import Derived.Test.YtagccbpjpcnmeaaGreatDoorEm
import Derived.Still
set_option linter.unusedVariables false
set_option linter.unusedSimpArgs false
namespace Go.Proofs.YtagccbpjpcnmeaaGreatDoor.Ex
open Go

/-- What an operation of the program does, a call whole. -/
def OpDoes (P : Program) (o : Oper) (a : Act) (w : World) (Φ : Value → World → Prop) : Prop :=
  match (execOp a.eval o).run P w with
  | .ok (.value v) w' => Φ v w'
  | .ok .skip w' => Φ undef w'
  | .ok (.enter f args) w' => Calls P f args w' fun e w'' => ∃ v, e = .returned v ∧ Φ v w''
  | _ => False

def OneDoes (P : Program) (ops : Array Oper) (o : Oper) (a : Act) (w : World) (Φ : Value → World → Prop) : Prop :=
  if Region.wanted o (yielded ops a.tmps) then OpDoes P o a w Φ else Φ undef w

theorem wp_of_one {P : Program} {ops : Array Oper} {o : Oper} {a : Act} {w : World} {Φ : Value → World → Prop} {K : Act → World → Prop} {Q : Exit → Act → World → Prop} {X : Prop}
    (h : OneDoes P ops o a w Φ) (hk : ∀ v w', Φ v w' → K (a.put o.dst v) w') :
    if Region.wanted o (yielded ops a.tmps) then o.wp P a w K Q ∨ X else K (a.put o.dst undef) w := by
  unfold OneDoes at h
  split
  · rename_i hw
    rw [if_pos hw] at h
    refine .inl ?_
    unfold OpDoes at h
    unfold Oper.wp
    generalize (execOp a.eval o).run P w = r at h ⊢
    cases r with
    | halt x w' => exact h.elim
    | ok n w' =>
      cases n <;> first
        | exact h.elim
        | exact hk _ _ h
        | (refine Calls.mono h ?_
           rintro e w'' ⟨v, rfl, hv⟩
           exact hk _ _ hv)
  · rename_i hw
    rw [if_neg hw] at h
    exact hk _ _ h

section
variable {E : Env} {K : Know E} {B : World} {σ : Sig} {S S' : St} {w : World} {a : AAct} {act : Act}

/-- The operands stand for what they stand for. -/
def Ev (σ : Sig) (a : AAct) (act : Act) (xs : List Operand) : Prop := ∀ x ∈ xs, ∀ v, a.eval x = some v → R σ v (act.eval x)

theorem Ev.mem {xs : List Operand} (h : Ev σ a act xs) {x : Operand} (hx : x ∈ xs) {v : AVal} (hv : a.eval x = some v) : R σ v (act.eval x) := h x hx v hv

theorem evalL_ok : ∀ {xs : List Operand} {vs : List AVal}, Ev σ a act xs → a.evalL xs = some vs → RL σ vs (xs.map act.eval)
  | [], vs, _, h => by unfold AAct.evalL at h; cases h; exact .nil
  | x :: xs, vs, hev, h => by
    unfold AAct.evalL at h
    split at h
    · rename_i v r hv hr
      cases h
      exact .cons (hev.mem (List.mem_cons_self ..) hv) (evalL_ok (fun y hy => hev y (List.mem_cons_of_mem _ hy)) hr)
    · cases h

theorem evalParts_ok : ∀ {xs : List (Nat × Operand)} {vs : List (Nat × AVal)}, Ev σ a act (xs.map (·.2)) → evalParts a xs = some vs → RP σ vs (xs.map fun p => (p.1, act.eval p.2))
  | [], vs, _, h => by unfold evalParts at h; cases h; rfl
  | (i, x) :: xs, vs, hev, h => by
    unfold evalParts at h
    split at h
    · rename_i v r hv hr
      cases h
      exact ⟨act.eval x, _, hev.mem (by simp) hv, evalParts_ok (fun y hy => hev y (by simp at hy ⊢; exact .inr hy)) hr, rfl⟩
    · cases h

/-- What an operation that is no call of a function does. -/
def Stepped (E : Env) (K : Know E) (B : World) (σ : Sig) (act : Act) (o : Oper) (w : World) (v : AVal) (S' : St) : Prop :=
  ∃ τ x w', σ.le τ ∧ R τ v x ∧ Rep E K B τ S' w' ∧ ((execOp act.eval o).run E.P w = .ok (.value x) w' ∨ (x = undef ∧ (execOp act.eval o).run E.P w = .ok .skip w'))

theorem Stepped.of_does {o : Oper} {v : AVal} {s : Sem Value} (he : execOp act.eval o = (do pure (.value (← s)))) (h : Does E K B σ S' v (s.run E.P w)) : Stepped E K B σ act o w v S' := by
  obtain ⟨τ, u, w', h1, h2, h3, h4⟩ := h
  exact ⟨τ, u, w', h2, h3, h4, .inl (by rw [he]; simp [h1])⟩

theorem Stepped.of_same (h : Rep E K B σ S w) {o : Oper} {v : AVal} {s : Sem Value} (he : execOp act.eval o = (do pure (.value (← s)))) (hs : S' = S ∧ ∃ u, s.run E.P w = .ok u w ∧ R σ v u) : Stepped E K B σ act o w v S' := by
  obtain ⟨rfl, u, h1, h2⟩ := hs
  exact ⟨σ, u, w, .refl σ, h2, h, .inl (by rw [he]; simp [h1])⟩

theorem Stepped.of_skip {o : Oper} {v : AVal} {s : Sem Unit} (he : execOp act.eval o = (do s; pure .skip)) (hs : ∃ w', s.run E.P w = .ok () w' ∧ v = aundef ∧ Rep E K B σ S' w') : Stepped E K B σ act o w v S' := by
  obtain ⟨w', h1, rfl, h2⟩ := hs
  exact ⟨σ, undef, w', .refl σ, undef_R σ, h2, .inr ⟨rfl, by rw [he]; simp [h1]⟩⟩

theorem RO.of {x : Option Operand} {l : List AVal} (hev : Ev σ a act x.toList) (h : a.evalL x.toList = some l) : RO σ l.head? (x.map act.eval) := by
  cases x with
  | none => simp [AAct.evalL] at h; subst h; rfl
  | some y =>
    have := evalL_ok hev h
    obtain ⟨v, r, h1, h2, h3⟩ : ∃ v r, l = v :: r ∧ R σ v (act.eval y) ∧ True := by
      simp only [Option.toList, List.map_cons, List.map_nil] at this
      cases l with
      | nil => exact absurd this.of_nil (by simp)
      | cons v r =>
        obtain ⟨x, xs, h1, h2, h3⟩ := this.of_cons
        cases h3
        exact ⟨v, r, rfl, h1, trivial⟩
    subst h1
    exact ⟨_, h2, rfl⟩

theorem step1_ok {rec_ : Rec} (h : Rep E K B σ S w) (o : Oper) {v : AVal} (hnc : ∀ c f, o.op = .call c → c.callee ≠ .value f) (hf : opD o.op E rec_ a S = some (v, S')) (hev : Ev σ a act o.op.operands.toList) : Stepped E K B σ act o w v S' := by
  obtain ⟨dst, op, type, pos, after, guard⟩ := o
  simp only at hf hev hnc
  cases op <;> simp only [opD] at hf <;> simp only [Op.operands] at hev
  case move x =>
    obtain ⟨rfl, hv⟩ := pureV_eq hf
    exact ⟨σ, act.eval x, w, .refl σ, hev.mem (by simp) hv, h, .inl rfl⟩
  case assign x =>
    obtain ⟨rfl, hv⟩ := pureV_eq hf
    exact ⟨σ, act.eval x, w, .refl σ, hev.mem (by simp) hv, h, .inl rfl⟩
  case pick c x y =>
    split at hf
    · rename_i hc
      obtain ⟨rfl, hv⟩ := pureV_eq hf
      have hb := hev.mem (x := c) (by simp) hc
      rw [R] at hb
      exact ⟨σ, act.eval x, w, .refl σ, hev.mem (by simp) hv, h, .inl (by simp [execOp, hb.1, asBool])⟩
    · rename_i hc
      obtain ⟨rfl, hv⟩ := pureV_eq hf
      have hb := hev.mem (x := c) (by simp) hc
      rw [R] at hb
      exact ⟨σ, act.eval y, w, .refl σ, hev.mem (by simp) hv, h, .inl (by simp [execOp, hb.1, asBool])⟩
    · cases hf
  case alloc t =>
    split at hf
    · rename_i z hz
      exact .of_does rfl (alloc1_ok h hz hf)
    · cases hf
  case box t x =>
    split at hf
    · rename_i u hu
      exact .of_does rfl (box1_ok h hf (hev.mem (by simp) hu))
    · cases hf
  case build t ps =>
    split at hf
    · rename_i l hl
      refine .of_does rfl (build1_ok h hf ?_)
      have := evalParts_ok (σ := σ) (act := act) (by simpa using hev) hl
      simpa using this
    · cases hf
  case buildSlice t n ps =>
    split at hf
    · rename_i l hl
      refine .of_does rfl (buildSlice1_ok h hf ?_)
      have := evalParts_ok (σ := σ) (act := act) (by simpa using hev) hl
      simpa using this
    · cases hf
  case insert t m k x =>
    split at hf
    · rename_i p q r hp hq hr
      exact .of_skip rfl (mapUpdate1_ok h hf (hev.mem (by simp) hp) (hev.mem (by simp) hq) (hev.mem (by simp) hr))
    · cases hf
  case mapUpdate t m k x =>
    split at hf
    · rename_i p q r hp hq hr
      exact .of_skip rfl (mapUpdate1_ok h hf (hev.mem (by simp) hp) (hev.mem (by simp) hq) (hev.mem (by simp) hr))
    · cases hf
  case load t x =>
    split at hf
    · rename_i u hu
      exact .of_same h rfl (load1_ok h hf (hev.mem (by simp) hu))
    · cases hf
  case store t x y =>
    split at hf
    · rename_i p q hp hq
      exact .of_skip rfl (store1_ok h hf (hev.mem (by simp) hp) (hev.mem (by simp) hq))
    · cases hf
  case nilCheck x =>
    split at hf
    · rename_i u hu
      have hr := hev.mem (x := x) (by simp) hu
      unfold nilCheck1 at hf
      split at hf
      · cases hf
        have hr' := hr
        rw [R] at hr
        obtain ⟨m, _, hm⟩ := hr
        exact ⟨σ, act.eval x, w, .refl σ, hr', h, .inl (by simp [execOp, hm])⟩
      · cases hf
        have hr' := hr
        rw [R] at hr
        obtain ⟨xs, ys, _, _, hm⟩ := hr
        exact ⟨σ, act.eval x, w, .refl σ, hr', h, .inl (by simp [execOp, hm])⟩
      · cases hf
    · cases hf
  case binOp op t x y yt =>
    split at hf
    · rename_i p q hp hq
      exact .of_same h rfl (bin1_ok h hf (hev.mem (by simp) hp) (hev.mem (by simp) hq))
    · cases hf
  case unOp op t x =>
    split at hf
    · rename_i u hu
      exact .of_same h rfl (un1_ok hf (hev.mem (by simp) hu))
    · cases hf
  case convert s d x =>
    split at hf
    · rename_i u hu
      exact .of_same h rfl (conv1_ok h hf (hev.mem (by simp) hu))
    · cases hf
  case makeInterface t x =>
    split at hf
    · rename_i u hu
      exact .of_does rfl (makeInterface1_ok h hf (hev.mem (by simp) hu))
    · cases hf
  case makeFunc fn xs ys =>
    split at hf
    · rename_i l r hl hr
      cases hf
      have h1 := evalL_ok (σ := σ) (act := act) (fun x hx => hev x (by simp at hx ⊢; exact .inl hx)) hl
      have h2 := evalL_ok (σ := σ) (act := act) (fun x hx => hev x (by simp at hx ⊢; exact .inr hx)) hr
      refine ⟨σ, .func fn (xs.map act.eval) (ys.map act.eval), w, .refl σ, ?_, h, .inl (by simp [execOp, Instr.makeFunc])⟩
      rw [R]
      refine ⟨_, _, h1, h2, ?_⟩
      congr 1 <;> (apply Array.ext'; simp)
    · cases hf
  case makeMap t r =>
    cases r with
    | none => exact .of_does rfl (makeMap1_ok h hf)
    | some x => cases hf
  case makeSlice t x y =>
    split at hf
    · rename_i p q hp hq
      exact .of_does rfl (makeSlice1_ok h hf (hev.mem (by simp) hp) (hev.mem (by simp) hq))
    · cases hf
  case slice t x lo hi mx =>
    split at hf
    · rename_i p l1 l2 l3 hp h1 h2 h3
      refine .of_same h rfl (slice1_ok hf (hev.mem (by simp) hp) (RO.of (fun y hy => hev y ?_) h1) (RO.of (fun y hy => hev y ?_) h2) (RO.of (fun y hy => hev y ?_) h3))
      · cases lo <;> simp_all
      · cases hi <;> simp_all
      · cases mx <;> simp_all
    · cases hf
  case fieldAddr t x i =>
    split at hf
    · rename_i u hu
      exact .of_same h rfl (fieldAddr1_ok hf (hev.mem (by simp) hu))
    · cases hf
  case field t x i =>
    split at hf
    · rename_i u hu
      exact .of_same h rfl (field1_ok hf (hev.mem (by simp) hu))
    · cases hf
  case indexAddr t x i =>
    split at hf
    · rename_i p q hp hq
      exact .of_same h rfl (indexAddr1_ok hf (hev.mem (by simp) hp) (hev.mem (by simp) hq))
    · cases hf
  case index t x i =>
    split at hf
    · rename_i p q hp hq
      exact .of_same h rfl (index1_ok hf (hev.mem (by simp) hp) (hev.mem (by simp) hq))
    · cases hf
  case lookup t x i ok =>
    split at hf
    · rename_i p q hp hq
      exact .of_same h rfl (lookup1_ok h hf (hev.mem (by simp) hp) (hev.mem (by simp) hq))
    · cases hf
  case extract x i =>
    split at hf
    · rename_i u hu
      exact .of_same h rfl (extract1_ok hf (hev.mem (by simp) hu))
    · cases hf
  case call c =>
    obtain ⟨callee, args, argTypes⟩ := c
    cases callee <;> simp only [callOp] at hf
    case value f => exact absurd rfl (hnc _ f rfl)
    case builtin b =>
      split at hf
      · rename_i l hl
        have h1 := evalL_ok (σ := σ) (act := act) (fun x hx => hev x (by simp [Call.operands] at hx ⊢; exact hx)) hl
        obtain ⟨r, hr, hd⟩ := builtin1_ok (ty := type) (cs := args.map fun | .const _ => true | _ => false) h hf h1
        refine .of_does (s := r) ?_ hd
        rw [← hr]
        have e : (args.toList.map act.eval).toArray = args.map act.eval := by apply Array.ext'; simp
        rw [e]
        simp [execOp, resolve, invoke]
        rfl
      · cases hf
    all_goals cases hf
  all_goals cases hf
end
end Go.Proofs.YtagccbpjpcnmeaaGreatDoor.Ex
