/-
  The executor's calls and regions in the text's order.
-/
import Derived.Test.YtagccbpjpcnmeaaGreatDoorEn
set_option linter.unusedVariables false
set_option linter.unusedSimpArgs false
namespace Go.Proofs.YtagccbpjpcnmeaaGreatDoor.Ex
open Go

def AExit.conc : AExit → Exit
  | .normal => .normal
  | .exit id => .exit id
  | .ret => .ret

section
variable {E : Env} {K : Know E} {B : World} {σ τ : Sig} {S S' : St} {w : World} {a a' : AAct} {act : Act}

/-- The slots hold what they stand for. -/
structure RA (E : Env) (σ : Sig) (a : AAct) (act : Act) : Prop where
  defers : act.defers = []
  size : act.tmps.size = a.n
  g : a.g = E.G0
  slot : ∀ t v, a.get t = some v → R σ v (act.tmps.getD t undef)

theorem RA.mono (h : RA E σ a act) (hl : σ.le τ) : RA E τ a act := ⟨h.defers, h.size, h.g, fun t v hv => (h.slot t v hv).mono hl⟩

theorem put_def (d : Option Tmp) (v : AVal) : a.put d v =
    match d with
    | none => some a
    | some t => match Nat.blt t a.n && Nat.blt t 1152921504606846976 with
      | true => some { a with tm := a.tm.ins 64 t (t, v) }
      | false => none := by
  obtain ⟨tm, n, g⟩ := a
  cases d with
  | none => rfl
  | some t =>
    show @Bool.rec (fun _ => Option AAct) none (@Bool.rec (fun _ => Option AAct) none (some ⟨tm.ins 64 t (t, v), n, g⟩) (Nat.blt t 1152921504606846976)) (Nat.blt t n) = _
    simp only
    cases Nat.blt t n <;> cases Nat.blt t 1152921504606846976 <;> rfl

theorem put_eq {d : Option Tmp} {v : AVal} (hp : a.put d v = some a') : a'.n = a.n ∧ a'.g = a.g ∧ (∀ t u, a'.get t = some u → (d = some t ∧ u = v) ∨ (d ≠ some t ∧ a.get t = some u)) ∧ (∀ t, d = some t → t < a.n) ∧ (∀ t u, d ≠ some t → a.get t = some u → a'.get t = some u) ∧ (∀ t, d = some t → a'.get t = some v) := by
  rw [put_def] at hp
  split at hp
  · cases hp; exact ⟨rfl, rfl, fun t u h => .inr ⟨by simp, h⟩, fun t h => (by cases h), fun t u _ h => h, fun t h => by cases h⟩
  · rename_i t
    split at hp
    · rename_i hlt
      cases hp
      rw [Bool.and_eq_true] at hlt
      refine ⟨rfl, rfl, fun s u h => ?_, fun s hs => (by cases hs; exact Nat.le_of_ble_eq_true hlt.1), fun s u hne hs => T.get_ins_ne (Nat.lt_trans (Nat.le_of_ble_eq_true hlt.2) (by decide)) (fun e => hne (e ▸ rfl)) hs, fun s hs => ?_⟩
      case refine_2 =>
        cases hs
        have : (T.ins (63 + 1) a.tm t (t, v)).find t = some (t, v) := T.find_same 63 _ _ _ (Nat.lt_trans (Nat.le_of_ble_eq_true hlt.2) (by decide))
        show T.get (T.ins (63 + 1) a.tm t (t, v)) t = some v
        rw [T.get_eq, this]
        simp
      have h : (a.tm.ins 64 t (t, v)).get s = some u := h
      rcases T.get_ins h with ⟨rfl, rfl⟩ | ⟨hne, h⟩
      · exact .inl ⟨rfl, rfl⟩
      · exact .inr ⟨fun e => hne (Option.some.inj e).symm, h⟩
    · cases hp

theorem act_put_size (d : Option Tmp) (x : Value) : (act.put d x).tmps.size = act.tmps.size := by cases d <;> simp [Act.put]
theorem act_put_defers (d : Option Tmp) (x : Value) : (act.put d x).defers = act.defers := by cases d <;> rfl
theorem act_put_same {t : Tmp} (x : Value) (h : t < act.tmps.size) : (act.put (some t) x).tmps.getD t undef = x := by simp [Act.put, Array.getD, h]
theorem act_put_other {d : Option Tmp} {t : Tmp} (x : Value) (h : d ≠ some t) : (act.put d x).tmps.getD t undef = act.tmps.getD t undef := by
  cases d with
  | none => rfl
  | some s =>
    have : s ≠ t := fun e => h (e ▸ rfl)
    simp [Act.put, Array.getD_eq_getD_getElem?, Array.getElem?_setIfInBounds_ne this]

theorem RA.put (h : RA E σ a act) {d : Option Tmp} {v : AVal} {x : Value} (hp : a.put d v = some a') (hx : R σ v x) : RA E σ a' (act.put d x) := by
  obtain ⟨h1, h2, h3, h4, _, _⟩ := put_eq hp
  refine ⟨by rw [act_put_defers]; exact h.defers, by rw [act_put_size, h1]; exact h.size, by rw [h2]; exact h.g, fun t u hu => ?_⟩
  rcases h3 t u hu with ⟨rfl, rfl⟩ | ⟨hne, hu⟩
  · rw [act_put_same x (by rw [h.size]; exact h4 t rfl)]; exact hx
  · rw [act_put_other x hne]; exact h.slot t u hu

/-- An operand stands for what it stands for, if its slot does. -/
theorem eval_ok (hr : Rep E K B σ S w) (hg : a.g = E.G0) {x : Operand} {v : AVal} (hs : ∀ t, x = .tmp t → ∀ u, a.get t = some u → R σ u (act.tmps.getD t undef)) (hv : a.eval x = some v) : R σ v (act.eval x) := by
  cases x with
  | tmp t => exact hs t rfl v hv
  | const c => exact lift_R hv
  | global g =>
    simp only [AAct.eval] at hv
    split at hv
    · rename_i hlt
      cases hv
      rw [R]
      exact ⟨g, hr.glob g (by rw [← hg]; exact Nat.le_of_ble_eq_true hlt), rfl⟩
    · cases hv
  | func f =>
    simp only [AAct.eval] at hv
    cases hv
    rw [R]
    exact ⟨[], [], .nil, .nil, rfl⟩

theorem RA.ev (h : RA E σ a act) (hr : Rep E K B σ S w) (xs : List Operand) : Ev σ a act xs := fun _ _ _ hv => eval_ok hr h.g (fun t _ u hu => h.slot t u hu) hv

theorem enterA_get : ∀ {l : List AVal} {i : Nat} {t : T AVal} {k : Nat} {v : AVal}, (enterA l i t).get k = some v → (i ≤ k ∧ l[k - i]? = some v) ∨ t.get k = some v
  | [], i, t, k, v, h => .inr h
  | u :: l, i, t, k, v, h => by
    unfold enterA at h
    rcases enterA_get h with ⟨h1, h2⟩ | h
    · refine .inl ⟨by omega, ?_⟩
      have : k - i = (k - (i + 1)) + 1 := by omega
      rw [this]; simpa using h2
    · rcases T.get_ins h with ⟨rfl, rfl⟩ | ⟨_, h⟩
      · exact .inl ⟨Nat.le_refl _, by simp⟩
      · exact .inr h

/-- What runs codes does so rightly. -/
def RecOK (E : Env) (K : Know E) (B : World) (rec_ : Rec) : Prop :=
  ∀ c a S e a' S', rec_ c a S = some (e, a', S') → ∀ σ w act, RA E σ a act → Rep E K B σ S w →
    c.wp E.P (fun e' act' w' => e' = e.conc ∧ ∃ τ, σ.le τ ∧ RA E τ a' act' ∧ Rep E K B τ S' w') act w

/-- A result, read. -/
def resOf (tm : Array Value) : ResultVar → Sem Value
  | .tmp t => pure (tm.getD t undef)
  | .cell p t => do loadVar t (← asAddr (tm.getD p undef))

theorem resultsA_ok (h : Rep E K B σ S w) (ha : RA E σ a act) : ∀ {l : List ResultVar} {vs : List AVal}, resultsA E a S l = some vs →
    ∃ xs, RL σ vs xs ∧ (l.mapM (resOf act.tmps)).run E.P w = .ok xs w
  | [], vs, hf => by unfold resultsA at hf; cases hf; exact ⟨[], .nil, rfl⟩
  | .tmp t :: l, vs, hf => by
    unfold resultsA at hf
    split at hf
    · rename_i v r hv hr
      cases hf
      obtain ⟨xs, h1, h2⟩ := resultsA_ok h ha hr
      refine ⟨_, .cons (ha.slot t v hv) h1, ?_⟩
      rw [List.mapM_cons]
      have h5 : (resOf act.tmps (.tmp t)).run E.P w = .ok (act.tmps.getD t undef) w := rfl
      simp only [Sem.run_bind, h5, h2, Result.andThen_ok, Sem.run_pure]
    · cases hf
  | .cell p t :: l, vs, hf => by
    unfold resultsA at hf
    split at hf
    · rename_i q r hq hr
      split at hf
      · rename_i v S1 hl
        cases hf
        obtain ⟨xs, h1, h2⟩ := resultsA_ok h ha hr
        have hp := ha.slot p q hq
        obtain ⟨rfl, u, h3, h4⟩ := load1_ok h hl hp
        refine ⟨_, .cons h4 h1, ?_⟩
        have h5 : (resOf act.tmps (.cell p t)).run E.P w = .ok u w := by
          unfold resOf
          unfold load1 at hl
          split at hl
          · rw [R] at hp
            obtain ⟨m, _, hm⟩ := hp
            rw [hm] at h3
            simp only [hm]
            simpa [Instr.loadAt, Instr.sureAddr, asAddr] using h3
          · rw [R] at hp
            obtain ⟨m, _, hm⟩ := hp
            rw [hm] at h3
            simp only [hm]
            simpa [Instr.loadAt, Instr.sureAddr, asAddr] using h3
          · cases hl
        rw [List.mapM_cons]
        simp only [Sem.run_bind, h5, h2, Result.andThen_ok, Sem.run_pure]
      · cases hf
    · cases hf

/-- What is said of functions is so. -/
def SummOK (E : Env) (K : Know E) (B : World) : Prop :=
  ∀ f g, E.summ f = some g → ∀ args S v S', g args S = some (v, S') → ∀ σ w xs, RL σ args xs → Rep E K B σ S w →
    (∃ fn, E.P.funcs[f]? = some fn ∧ fn.body.isNone = false) ∧ Calls E.P f xs.toArray w fun e w' => ∃ u, e = .returned u ∧ ∃ τ, σ.le τ ∧ R τ v u ∧ Rep E K B τ S' w'

theorem callA_ok (hsum : SummOK E K B) {rec_ : Rec} (hrec : RecOK E K B rec_) (h : Rep E K B σ S w) {f : FuncId} {args : List AVal} {xs : List Value} {v : AVal} (hf : callA E rec_ f args S = some (v, S')) (hx : RL σ args xs) :
    (∃ fn, E.P.funcs[f]? = some fn ∧ fn.body.isNone = false) ∧ Calls E.P f xs.toArray w fun e w' => ∃ u, e = .returned u ∧ ∃ τ, σ.le τ ∧ R τ v u ∧ Rep E K B τ S' w' := by
  unfold callA at hf
  split at hf
  · rename_i g hg
    exact hsum f g hg args S v S' hf σ w xs hx h
  split at hf
  · rename_i fn hfn
    split at hf
    · rename_i c hbody hle
      refine ⟨⟨fn, hfn, by rw [hbody]; rfl⟩, ?_⟩
      have hle : args.length ≤ fn.ntmps := Nat.le_of_ble_eq_true hle
      have hinit : RA E σ { tm := enterA args 0 .leaf, n := fn.ntmps, g := E.G0 } { tmps := xs.toArray ++ Array.replicate (fn.ntmps - xs.toArray.size) undef, defers := [] } := by
        refine ⟨rfl, by have := hx.len; simp; omega, rfl, fun t u hu => ?_⟩
        rcases enterA_get hu with ⟨_, h1⟩ | h1
        · obtain ⟨y, h2, h3⟩ := hx.at h1
          have hlt := (List.getElem?_eq_some_iff.1 h2).1
          simp only [Nat.sub_zero] at hlt h2
          have : (xs.toArray ++ Array.replicate (fn.ntmps - xs.toArray.size) undef).getD t undef = y := by
            rw [Array.getD_eq_getD_getElem?, Array.getElem?_append_left (by simpa using hlt)]
            simp [h2]
          rw [this]; exact h3
        · rw [T.get_eq, T.find_leaf] at h1; cases h1
      split at hf
      · cases hf
      · rename_i e a1 S1 he hex
        have hw := hrec _ _ _ _ _ _ hex σ w _ hinit h
        have fin : ∀ act' w', (∃ τ, σ.le τ ∧ RA E τ a1 act' ∧ Rep E K B τ S1 w') → act'.defers = [] ∧ ∃ u, (results fn act'.tmps).run E.P w' = .ok u w' ∧ (∃ u', (Ending.returned u) = .returned u' ∧ ∃ τ, σ.le τ ∧ R τ v u' ∧ Rep E K B τ S' w') := by
          rintro act' w' ⟨τ, h1, h2, h3⟩
          refine ⟨h2.defers, ?_⟩
          have conc : ∀ vs, resultsA E a1 S1 fn.results.toList = some vs → ∃ ys, RL τ vs ys ∧ (results fn act'.tmps).run E.P w' = .ok (if h : ys.toArray.size = 1 then ys.toArray[0] else .tuple ys.toArray) w' := by
            intro vs hvs
            obtain ⟨ys, h4, h5⟩ := resultsA_ok h3 h2 hvs
            refine ⟨ys, h4, ?_⟩
            unfold results
            rw [Array.mapM_eq_mapM_toList]
            simp only [Sem.run_bind, Sem.run_map]
            erw [h5]
            rfl
          split at hf
          · rename_i u hu
            cases hf
            obtain ⟨ys, h4, h5⟩ := conc _ hu
            obtain ⟨y, r, h6, h7, rfl⟩ := h4.of_cons
            obtain rfl := h7.of_nil
            exact ⟨y, by simpa using h5, y, rfl, τ, h1, h6, h3⟩
          · rename_i l hl hu
            cases hf
            obtain ⟨ys, h4, h5⟩ := conc _ hu
            have hne : ¬ ys.length = 1 := by
              rw [h4.len]
              intro h1
              match l, h1 with
              | [x], _ => exact hl x rfl
            refine ⟨.tuple ys.toArray, ?_, .tuple ys.toArray, rfl, τ, h1, by rw [R]; exact ⟨ys, h4, rfl⟩, h3⟩
            rw [h5]
            rw [dif_neg (by simpa using hne)]
          · cases hf
        refine calls_of_wp hfn hbody (wp_mono hw ?_)
        rintro e' act' w' ⟨rfl, hτ⟩
        cases e with
        | normal => exact fin act' w' hτ
        | ret => exact fin act' w' hτ
        | exit id => exact (he _ rfl).elim
      · cases hf
    · cases hf
  · cases hf

/-- No function of the program is the one that counts goroutines. -/
def Plain (P : Program) : Prop := ∀ (f : FuncId) (fn : Func), P.funcs[f]? = some fn → (fn.name == "runtime.NumGoroutine") = false

theorem opA_ok (hsum : SummOK E K B) (hP : Plain E.P) {rec_ : Rec} (hrec : RecOK E K B rec_) (h : Rep E K B σ S w) (o : Oper) {v : AVal} (hf : opA E rec_ a o.op S = some (v, S')) (hev : Ev σ a act o.op.operands.toList) :
    OpDoes E.P o act w fun x w' => ∃ τ, σ.le τ ∧ R τ v x ∧ Rep E K B τ S' w' := by
  by_cases hc : ∃ c f, o.op = .call c ∧ c.callee = .value f
  · obtain ⟨dst, op, type, pos, after, guard⟩ := o
    obtain ⟨c, f, hop, hcal⟩ := hc
    simp only at hop
    subst hop
    obtain ⟨callee, args, ts⟩ := c
    simp only at hcal
    subst hcal
    simp only [opA, opD, callOp] at hf
    simp only at hev
    split at hf
    · rename_i fv l hfv hl
      have h1 := hev.mem (x := f) (by simp [Op.operands, Call.operands]) hfv
      have h2 := evalL_ok (σ := σ) (act := act) (fun x hx => hev x (by simp [Op.operands, Call.operands] at hx ⊢; exact .inr hx)) hl
      unfold callV at hf
      split at hf
      · rename_i g first cap
        rw [R] at h1
        obtain ⟨xs, ys, h3, h4, h5⟩ := h1
        obtain ⟨⟨fn, hfn, hb⟩, hcalls⟩ := callA_ok hsum hrec h hf ((h3.append h2).append h4)
        unfold OpDoes
        have hn := hP g fn hfn
        have e : (args.map act.eval) = (args.toList.map act.eval).toArray := by apply Array.ext'; simp
        have hrun : (execOp act.eval ⟨dst, .call { callee := .value f, args := args, argTypes := ts }, type, pos, after, guard⟩).run E.P w = .ok (.enter g (xs ++ args.toList.map act.eval ++ ys).toArray) w := by
          simp only [execOp, resolve, h5, Deferred.ofValue, Sem.run_bind, Sem.run_pure, Result.andThen_ok, invoke, callFunc, run_program, hfn, hn, Bool.false_eq_true, if_false, hb]
          rw [e]
          simp
        rw [hrun]
        refine hcalls.mono ?_
        rintro e' w' ⟨u, rfl, τ, h6, h7, h8⟩
        exact ⟨u, rfl, τ, h6, h7, h8⟩
      · cases hf
    · cases hf
  · obtain ⟨τ, x, w', h1, h2, h3, h4⟩ := step1_ok h o (fun c f h1 h2 => hc ⟨c, f, h1, h2⟩) hf hev
    unfold OpDoes
    rcases h4 with h4 | ⟨rfl, h4⟩ <;> rw [h4] <;> exact ⟨τ, h1, h2, h3⟩

theorem getD_bool {tm : Array Value} {d : Tmp} {b : Bool} (h : tm.getD d undef = .bool b) : tm[d]? = some (.bool b) := by
  rw [Array.getD_eq_getD_getElem?] at h
  cases hd : tm[d]? with
  | none => rw [hd] at h; cases h
  | some x => rw [hd] at h; simp at h; rw [h]

theorem wantedA_ok {ops : Array Oper} {o : Oper} {b : Bool} (hw : wantedA ops a o = some b) (hs : ∀ j, (o.guard.map (·.1)) = some j → ∀ p d, ops[j]? = some p → p.dst = some d → ∀ u, a.get d = some u → R σ u (act.tmps.getD d undef)) :
    Region.wanted o (yielded ops act.tmps) = b := by
  unfold wantedA at hw
  split at hw
  · rename_i hg; cases hw; simp [Region.wanted, hg]
  · rename_i j want hg
    split at hw
    · rename_i p hp
      split at hw
      · rename_i d hd
        have hs' := hs j (by rw [hg]; rfl) p d hp hd
        split at hw
        · rename_i bb hb
          cases hw
          have := hs' _ hb
          rw [R] at this
          have hget := getD_bool this.1
          have hy : yielded ops act.tmps j = some bb := by simp [yielded, hp, hd, hget]
          simp only [Region.wanted, hg, hy]
          cases bb <;> cases want <;> rfl
        · rename_i hb
          cases hw
          have := hs' _ hb
          rw [R] at this
          obtain ⟨l, hl, he⟩ := this
          have hy : yielded ops act.tmps j = none := by
            rw [Array.getD_eq_getD_getElem?] at he
            cases hq : act.tmps[d]? with
            | none => simp [yielded, hp, hd, hq]
            | some x => rw [hq] at he; simp at he; subst he; simp [yielded, hp, hd, hq]
          simp only [Region.wanted, hg, hy]
          cases want <;> rfl
        · cases hw
      · cases hw
    · cases hw

/-- What one operation of a region does, if the slots that it looks at hold what they stand for. -/
theorem oneA_ok (hsum : SummOK E K B) (hP : Plain E.P) {rec_ : Rec} (hrec : RecOK E K B rec_) (h : Rep E K B σ S w) (hg : a.g = E.G0) {ops : Array Oper} (o : Oper) {v : AVal} (hf : oneA E rec_ ops o a S = some (v, S'))
    (hs : ∀ t ∈ o.looksAt ops, ∀ u, a.get t = some u → R σ u (act.tmps.getD t undef)) :
    OneDoes E.P ops o act w fun x w' => ∃ τ, σ.le τ ∧ R τ v x ∧ Rep E K B τ S' w' := by
  have hguard : ∀ j, (o.guard.map (·.1)) = some j → ∀ p d, ops[j]? = some p → p.dst = some d → ∀ u, a.get d = some u → R σ u (act.tmps.getD d undef) := by
    intro j hj p d hp hd u hu
    refine hs d ?_ u hu
    unfold Oper.looksAt
    cases hgd : o.guard with
    | none => rw [hgd] at hj; cases hj
    | some q =>
      rw [hgd] at hj
      obtain ⟨j', want⟩ := q
      obtain rfl : j' = j := by simpa using hj
      simp [hp, hd]
  unfold oneA at hf
  unfold OneDoes
  split at hf
  · rename_i hw
    rw [if_pos (wantedA_ok hw hguard)]
    refine opA_ok hsum hP hrec h o hf fun x hx u hu => eval_ok h hg (fun t ht u hu => hs t ?_ u hu) hu
    subst ht
    unfold Oper.looksAt
    exact List.mem_append_left _ (List.mem_filterMap.2 ⟨.tmp t, hx, rfl⟩)
  · rename_i hw
    cases hf
    rw [if_neg (by rw [wantedA_ok hw hguard]; simp)]
    exact ⟨σ, .refl σ, undef_R σ, h⟩
  · cases hf

theorem listA_ok (hsum : SummOK E K B) (hP : Plain E.P) {rec_ : Rec} (hrec : RecOK E K B rec_) {ops : Array Oper} {Q : Exit → Act → World → Prop} : ∀ (l : List Oper) (a : AAct) (S : St) (σ : Sig) (act : Act) (w : World) (a' : AAct) (S' : St), listA E rec_ ops l a S = some (a', S') →
    RA E σ a act → Rep E K B σ S w → (∀ τ act' w', σ.le τ → RA E τ a' act' → Rep E K B τ S' w' → Q .normal act' w') → wpList E.P ops Q l act w
  | [], a, S, σ, act, w, a', S', hf, ha, hr, hq => by
    rw [listA_nil] at hf
    cases hf
    exact hq σ act w (.refl σ) ha hr
  | o :: l, a, S, σ, act, w, a', S', hf, ha, hr, hq => by
    rw [listA_cons] at hf
    split at hf
    · rename_i v S1 h1
      split at hf
      · rename_i a1 hp
        unfold wpList
        refine wp_of_one (oneA_ok hsum hP hrec hr ha.g o h1 fun t _ u hu => ha.slot t u hu) ?_
        rintro x w' ⟨τ, h2, h3, h4⟩
        exact listA_ok hsum hP hrec l a1 S1 τ _ w' a' S' hf ((ha.mono h2).put hp h3) h4 fun υ act' w'' h5 h6 h7 => hq υ act' w'' (h2.trans h5) h6 h7
      · cases hf
    · cases hf
end
end Go.Proofs.YtagccbpjpcnmeaaGreatDoor.Ex
