/-
  The executor's maps.
-/
import Derived.Test.YtagccbpjpcnmeaaGreatDoorEc
set_option linter.unusedVariables false
set_option linter.unusedSimpArgs false
namespace Go.Proofs.YtagccbpjpcnmeaaGreatDoor.Ex
open Go

def entsFrom (l : List (Value × Value)) (i : Nat) : List MapEntry := (l.zipIdx i).map fun p => { key := p.1.1, val := p.1.2, born := p.2 }

theorem entriesOf_eq (l : List (Value × Value)) : (entriesOf l).toList = entsFrom l 0 := rfl
theorem entsFrom_cons (e : Value × Value) (l : List (Value × Value)) (i : Nat) : entsFrom (e :: l) i = { key := e.1, val := e.2, born := i } :: entsFrom l (i + 1) := rfl
theorem entsFrom_len : ∀ (l : List (Value × Value)) (i : Nat), (entsFrom l i).length = l.length
  | [], _ => rfl
  | e :: l, i => by rw [entsFrom_cons, List.length_cons, entsFrom_len l]; rfl
theorem entsFrom_append : ∀ (l r : List (Value × Value)) (i : Nat), entsFrom (l ++ r) i = entsFrom l i ++ entsFrom r (i + l.length)
  | [], r, i => by simp [entsFrom]
  | e :: l, r, i => by
    rw [List.cons_append, entsFrom_cons, entsFrom_cons, entsFrom_append l r, List.cons_append, List.length_cons]
    congr 3
    omega

theorem equal_now {P : Program} {t : TypeId} {d : TypeDesc} {x y : Value} {r : Bool} (hu : P.underlying t = some d) (h : Instr.sameNow d x y = some r) (w : World) : (Op.equal t x y).run P w = .ok r w := by
  have key : ∀ n, (Op.equalIn (n + 1) t x y).run P w = .ok r w := by
    intro n
    unfold Instr.sameNow at h
    split at h
    · split at h
      · rename_i hk
        cases h
        simp [Op.equalIn, run_underlying hu, hk]
      · cases h
    · cases h; simp [Op.equalIn, run_underlying hu]
    · cases h; simp [Op.equalIn, run_underlying hu]
    · cases h
  exact key 9999

theorem asking_now {P : Program} {t : TypeId} {d : TypeDesc} {x : Value} (hu : P.underlying t = some d) (w : World) : ∀ (es : List MapEntry) (i : Nat) (r : Option (Nat × Value)), Instr.findNow d x es i = some r → (Instr.findAsking t x es i).run P w = .ok r w
  | [], i, r, h => by unfold Instr.findNow at h; cases h; rfl
  | e :: es, i, r, h => by
    unfold Instr.findNow at h
    split at h
    · rename_i hs
      cases h
      simp [Instr.findAsking, equal_now hu hs]
    · rename_i hs
      simp [Instr.findAsking, equal_now hu hs, asking_now hu w es (i + 1) r h]
    · cases h

theorem findKey_run {P : Program} {t : TypeId} {d : TypeDesc} {x : Value} (hu : P.underlying t = some d) (w : World) (es : List MapEntry) : (Instr.findKey t x es).run P w = (Instr.findAsking t x es 0).run P w := by
  unfold Instr.findKey
  simp only [Sem.run_bind, run_underlying hu, Result.andThen_ok]
  cases h : Instr.findNow d x es 0 with
  | none => rfl
  | some r => exact (asking_now hu w es 0 r h).symm

section
variable {E : Env} {K : Know E} {B : World} {σ : Sig} {S S' : St} {w : World}

theorem val_some {a : AVal} {v : Value} {x : Value} (h : a.val = some v) (hr : R σ a x) : v = x := (val_R h hr).symm

theorem sameKey_run {t : TypeId} {a b : AVal} {x y : Value} {r : Bool} (h : sameKey E t a b = some r) (ha : R σ a x) (hb : R σ b y) (w : World) : (Op.equal t x y).run E.P w = .ok r w := by
  unfold sameKey at h
  split at h
  · rename_i v u hv hu
    obtain rfl := val_some hv ha
    obtain rfl := val_some hu hb
    exact pureRun_run h w
  · split at h
    · rename_i k p j q ki hd _
      split at h
      · rename_i hk hp
        cases h
        rw [R] at ha hb
        obtain ⟨z, hz, rfl⟩ := ha
        obtain ⟨z', hz', rfl⟩ := hb
        obtain rfl : p = q := Nat.beq_eq ▸ hp
        obtain rfl : z = z' := Option.some.inj (hz.symm.trans hz')
        obtain rfl : k = j := of_decide_eq_true hk
        have key : ∀ n, (Op.equalIn (n + 1) t (.int k z) (.int k z)).run E.P w = .ok true w := by
          intro n
          simp [Op.equalIn, run_underlying hd]
        exact key 9999
      · cases h
    · cases h

theorem findA_run {t : TypeId} {k : AVal} {x : Value} (hk : R σ k x) (w : World) : ∀ {es : List (AVal × AVal)} {l : List (Value × Value)} {i j : Nat} {r : Option (Nat × AVal)}, findA E t k es i = some r → RE σ es l →
    ∃ r', (Instr.findAsking t x (entsFrom l j) i).run E.P w = .ok r' w ∧ (match r, r' with | none, none => True | some (n, v), some (n', v') => n = n' ∧ R σ v v' | _, _ => False)
  | [], l, i, j, r, h, hr => by
    unfold findA at h
    cases h
    obtain rfl : l = [] := hr
    exact ⟨none, rfl, trivial⟩
  | (k', v) :: es, l, i, j, r, h, hr => by
    obtain ⟨y, z, l', h1, h2, h3, rfl⟩ := hr
    unfold findA at h
    split at h
    · rename_i hs
      cases h
      refine ⟨some (i, z), ?_, rfl, h2⟩
      rw [entsFrom_cons]
      simp [Instr.findAsking, sameKey_run hs hk h1]
    · rename_i hs
      obtain ⟨r', h4, h5⟩ := findA_run hk w (j := j + 1) h h3
      refine ⟨r', ?_, h5⟩
      rw [entsFrom_cons]
      simp [Instr.findAsking, sameKey_run hs hk h1, h4]
    · cases h

theorem okKey_run {e : Bool} {t : TypeId} {k : AVal} {x : Value} (h : okKey E e t k = true) (hk : R σ k x) (w : World) : (Instr.checkKey e 10000 t x).run E.P w = .ok () w := by
  unfold okKey at h
  split at h
  · rename_i v hv
    obtain rfl := val_some hv hk
    split at h
    · rename_i u hu
      exact pureRun_run hu w
    · cases h
  · split at h
    · rename_i kk n ki hd _
      rw [R] at hk
      obtain ⟨z, _, rfl⟩ := hk
      have key : ∀ n, (Instr.checkKey e (n + 1) t (.int kk z)).run E.P w = .ok () w := by
        intro n
        simp [Instr.checkKey, run_underlying hd]
      exact key 9999
    · cases h

theorem RE.len : ∀ {es : List (AVal × AVal)} {l : List (Value × Value)}, RE σ es l → l.length = es.length
  | [], l, h => by obtain rfl : l = [] := h; rfl
  | (k, v) :: es, l, h => by obtain ⟨x, y, r, _, _, h, rfl⟩ := h; simp [RE.len h]

theorem mapOf_ok (h : Rep E K B σ S w) {x : AVal} {y : Value} {es : List (AVal × AVal)} (hf : mapOf S x = some es) (hx : R σ x y) :
    ∃ l, RE σ es l ∧ ((y = .map none ∧ l = []) ∨ ∃ m, y = .map (some m) ∧ w.heap[m]? = some (.map (entriesOf l) l.length)) := by
  unfold mapOf at hf
  split at hf
  · cases hf; rw [R] at hx; obtain ⟨rfl, _⟩ := hx
    exact ⟨[], rfl, .inl ⟨rfl, rfl⟩⟩
  · split at hf
    · rename_i es' hg
      cases hf
      rw [R] at hx; obtain ⟨m, hm, rfl⟩ := hx
      obtain ⟨m', o, h1, h2, ⟨l, h3, rfl⟩, _⟩ := h.has _ _ hg rfl
      obtain rfl : m' = m := Option.some.inj (h1.symm.trans hm)
      exact ⟨l, h3, .inr ⟨m', rfl, h2⟩⟩
    · cases hf
  · cases hf

theorem okKey_desc {e : Bool} {t : TypeId} {k : AVal} (h : okKey E e t k = true) : ∃ d, E.P.underlying t = some d := by
  unfold okKey at h
  split at h
  · split at h
    · rename_i v hv x u hu
      cases hd : E.P.underlying t with
      | some d => exact ⟨d, rfl⟩
      | none =>
        have h1 := pureRun_run hu (default : World)
        have h2 : (underlying t).run E.P (default : World) = .halt (.stuck "no such type") default := by
          simp [underlying, hd]
        have : (Instr.checkKey e (9999 + 1) t v).run E.P default = .halt (.stuck "no such type") default := by
          unfold Instr.checkKey
          simp [h2]
        rw [show (10000 : Nat) = 9999 + 1 from rfl] at h1
        rw [this] at h1
        cases h1
    · cases h
  · split at h
    · rename_i hd _
      exact ⟨_, hd⟩
    · cases h

theorem lookup1_ok (h : Rep E K B σ S w) {t : TypeId} {x k v : AVal} {y kv : Value} {ok : Bool} (hf : lookup1 E t x k ok S = some (v, S')) (hx : R σ x y) (hk : R σ k kv) :
    S' = S ∧ ∃ u, (Instr.lookup t y kv ok).run E.P w = .ok u w ∧ R σ v u := by
  unfold lookup1 at hf
  split at hf
  · rename_i kt et es hu hm
    obtain ⟨l, hl, hy⟩ := mapOf_ok h hm hx
    have hem : (entriesOf l).isEmpty = es.isEmpty := by
      have := hl.len
      have hs : (entriesOf l).size = l.length := by simp [entriesOf]
      cases l <;> cases es <;> simp_all [Array.isEmpty]
    split at hf
    · rename_i n v' hok hfi
      cases hf
      obtain ⟨d, hd⟩ := okKey_desc hok
      obtain ⟨r', h1, h2⟩ := findA_run hk w (j := 0) hfi hl
      cases r' with
      | none => exact h2.elim
      | some p =>
        obtain ⟨n', u⟩ := p
        obtain ⟨rfl, h2⟩ := h2
        have hfk : (Instr.findKey kt kv (entriesOf l).toList).run E.P w = .ok (some (n, u)) w := by rw [findKey_run hd, entriesOf_eq]; exact h1
        have hck := okKey_run hok hk w
        rw [← hem] at hck
        refine ⟨rfl, if ok then .tuple #[u, .bool true] else u, ?_, ?_⟩
        · rcases hy with ⟨rfl, rfl⟩ | ⟨m, rfl, hm⟩
          · have he : (entriesOf []).isEmpty = true := rfl
            rw [he] at hck
            have ht : (entriesOf []).toList = [] := rfl
            rw [ht] at hfk
            cases ok <;> simp [Instr.lookup, run_underlying hu, hck, hfk]
          · have hgo : (getObj m).run E.P w = .ok (.map (entriesOf l) l.length) w := by simp [getObj, Sem.run, hm]
            cases ok <;> simp [Instr.lookup, run_underlying hu, hgo, hck, hfk]
        · cases ok
          · exact h2
          · simp only [if_true]
            rw [R]
            exact ⟨_, .cons h2 (.cons (bool_R σ true) .nil), rfl⟩
    · rename_i hok hfi
      split at hf
      · rename_i z hz
        cases hf
        obtain ⟨d, hd⟩ := okKey_desc hok
        obtain ⟨r', h1, h2⟩ := findA_run hk w (j := 0) hfi hl
        cases r' with
        | some p => exact h2.elim
        | none =>
          have hfk : (Instr.findKey kt kv (entriesOf l).toList).run E.P w = .ok none w := by rw [findKey_run hd, entriesOf_eq]; exact h1
          have hck := okKey_run hok hk w
          rw [← hem] at hck
          obtain ⟨u, hzu, hzR⟩ := zero_run hz w
          refine ⟨rfl, if ok then .tuple #[u, .bool false] else u, ?_, ?_⟩
          · rcases hy with ⟨rfl, rfl⟩ | ⟨m, rfl, hm⟩
            · have he : (entriesOf []).isEmpty = true := rfl
              rw [he] at hck
              have ht : (entriesOf []).toList = [] := rfl
              rw [ht] at hfk
              cases ok <;> simp [Instr.lookup, run_underlying hu, hck, hfk, hzu]
            · have hgo : (getObj m).run E.P w = .ok (.map (entriesOf l) l.length) w := by simp [getObj, Sem.run, hm]
              cases ok <;> simp [Instr.lookup, run_underlying hu, hgo, hck, hfk, hzu]
          · cases ok
            · exact hzR σ
            · simp only [if_true]
              rw [R]
              exact ⟨_, .cons (hzR σ) (.cons (bool_R σ false) .nil), rfl⟩
      · cases hf
    · cases hf
  · cases hf

theorem RE.at : ∀ {es : List (AVal × AVal)} {l : List (Value × Value)} {i : Nat} {k v : AVal}, RE σ es l → es[i]? = some (k, v) → ∃ x y, l[i]? = some (x, y) ∧ R σ k x ∧ R σ v y
  | [], l, i, k, v, _, hv => by simp at hv
  | (k0, v0) :: es, l, 0, k, v, h, hv => by
    obtain ⟨x, y, r, h1, h2, h3, rfl⟩ := h
    simp at hv
    obtain ⟨rfl, rfl⟩ := hv
    exact ⟨x, y, rfl, h1, h2⟩
  | (k0, v0) :: es, l, i + 1, k, v, h, hv => by
    obtain ⟨x, y, r, h1, h2, h3, rfl⟩ := h
    simp at hv
    simpa using RE.at h3 hv

theorem RE.setAt {k v : AVal} {x y : Value} (hk : R σ k x) (hv : R σ v y) : ∀ {es : List (AVal × AVal)} {l : List (Value × Value)} {i : Nat}, RE σ es l → RE σ (Ex.setAt k v es i) (l.set i (x, y))
  | [], l, i, h => by obtain rfl : l = [] := h; unfold Ex.setAt; rfl
  | (k0, v0) :: es, l, 0, h => by
    obtain ⟨x', y', r, h1, h2, h3, rfl⟩ := h
    exact ⟨x, y, r, hk, hv, h3, rfl⟩
  | (k0, v0) :: es, l, i + 1, h => by
    obtain ⟨x', y', r, h1, h2, h3, rfl⟩ := h
    exact ⟨x', y', r.set i (x, y), h1, h2, RE.setAt hk hv h3, rfl⟩

theorem RE.append {k v : AVal} {x y : Value} (hk : R σ k x) (hv : R σ v y) : ∀ {es : List (AVal × AVal)} {l : List (Value × Value)}, RE σ es l → RE σ (es ++ [(k, v)]) (l ++ [(x, y)])
  | [], l, h => by obtain rfl : l = [] := h; exact ⟨x, y, [], hk, hv, rfl, rfl⟩
  | (k0, v0) :: es, l, h => by
    obtain ⟨x', y', r, h1, h2, h3, rfl⟩ := h
    exact ⟨x', y', _, h1, h2, RE.append hk hv h3, rfl⟩

theorem ents_modify (x y : Value) : ∀ (l : List (Value × Value)) (i j : Nat), (entsFrom l j).modify i (fun e => { e with key := x, val := y }) = entsFrom (l.set i (x, y)) j
  | [], i, j => by simp [entsFrom]
  | e :: l, 0, j => by rw [entsFrom_cons]; simp [entsFrom]
  | e :: l, i + 1, j => by
    rw [entsFrom_cons, List.modify_succ_cons, ents_modify x y l i (j + 1)]
    rfl

theorem mapUpdate1_ok (h : Rep E K B σ S w) {t : TypeId} {x k u v : AVal} {y kv uv : Value} (hf : mapUpdate1 E t x k u S = some (v, S')) (hx : R σ x y) (hk : R σ k kv) (hu' : R σ u uv) :
    ∃ w', (Instr.mapUpdate t y kv uv).run E.P w = .ok () w' ∧ v = aundef ∧ Rep E K B σ S' w' := by
  unfold mapUpdate1 at hf
  split at hf
  · rename_i kt et b hu
    rw [R] at hx; obtain ⟨m, hm, rfl⟩ := hx
    split at hf
    · rename_i es hg
      obtain ⟨m', o, h1, h2, ⟨l, hl, rfl⟩, _⟩ := h.has _ _ hg rfl
      obtain rfl : m' = m := Option.some.inj (h1.symm.trans hm)
      have hlt := (Array.getElem?_eq_some_iff.1 h2).1
      have hgo : (getObj m').run E.P w = .ok (.map (entriesOf l) l.length) w := by simp [getObj, Sem.run, h2]
      have hso : ∀ o, (setObj m' o).run E.P w = .ok () { w with heap := w.heap.setIfInBounds m' o } := fun o => by simp [setObj, Sem.run, h2]
      split at hf
      · rename_i i _ hok hfi
        obtain ⟨d, hd⟩ := okKey_desc hok
        obtain ⟨r', h3, h4⟩ := findA_run hk w (j := 0) hfi hl
        cases r' with
        | none => exact h4.elim
        | some p =>
          obtain ⟨n', u'⟩ := p
          obtain ⟨rfl, h4⟩ := h4
          have hfk : (Instr.findKey kt kv (entriesOf l).toList).run E.P w = .ok (some (i, u')) w := by rw [findKey_run hd, entriesOf_eq]; exact h3
          have hck := okKey_run hok hk w
          split at hf
          · rename_i hsb
            cases hf
            have hkeys : ∃ yk y0 : Value, l[i]? = some (yk, y0) ∧ (Instr.keyThatStays yk kv).run E.P w = .ok kv w := by
              unfold sameBits1 at hsb
              split at hsb
              · rename_i k' v' he
                obtain ⟨x0, y0, h5, h6, h7⟩ := hl.at he
                split at hsb
                · rename_i xk yk hxk hyk
                  obtain rfl := val_some hxk hk
                  obtain rfl := val_some hyk h6
                  exact ⟨yk, y0, h5, by simp [Instr.keyThatStays, hsb]⟩
                · split at hsb
                  · rw [R] at hk h6
                    obtain ⟨z, hz, rfl⟩ := hk
                    obtain ⟨z', hz', rfl⟩ := h6
                    simp only [Bool.and_eq_true] at hsb
                    have e1 := of_decide_eq_true hsb.1
                    have e2 := Nat.eq_of_beq_eq_true hsb.2
                    subst e1 e2
                    obtain rfl : z = z' := Option.some.inj (hz.symm.trans hz')
                    refine ⟨_, y0, h5, ?_⟩
                    simp [Instr.keyThatStays, Instr.sameBits]
                  · cases hsb
              · cases hsb
            obtain ⟨yk, y0, h5, hst⟩ := hkeys
            have hes : ((entriesOf l)[i]?).map (·.key) = some yk := by
              have hei : (entriesOf l)[i]? = some { key := yk, val := y0, born := i } := by
                simp [entriesOf, List.getElem?_zipIdx, h5]
              rw [hei]; rfl
            refine ⟨{ w with heap := w.heap.setIfInBounds m' (.map (entriesOf (l.set i (kv, uv))) (l.set i (kv, uv)).length) }, ?_, rfl, ?_⟩
            · have hmod : (entriesOf l).modify i (fun e => { e with key := kv, val := uv }) = entriesOf (l.set i (kv, uv)) := by
                apply Array.ext'
                rw [Array.toList_modify, entriesOf_eq, entriesOf_eq, ents_modify]
              simp only [Instr.mapUpdate, Sem.run_bind, run_underlying hu, Result.andThen_ok, hgo, hck, hfk, hes, Option.getD_some, hst, hso, hmod, List.length_set]
            · refine h.update hg rfl hm (blk' := .map (setAt k u es i)) ⟨_, RE.setAt hk hu' hl, rfl⟩ ?_ ?_ (by simp)
              · simp [hlt]
              · intro q hq
                simp [Array.getElem?_setIfInBounds_ne (Ne.symm hq)]
          · cases hf
      · rename_i hok hfi
        cases hf
        obtain ⟨d, hd⟩ := okKey_desc hok
        obtain ⟨r', h3, h4⟩ := findA_run hk w (j := 0) hfi hl
        cases r' with
        | some p => exact h4.elim
        | none =>
          have hfk : (Instr.findKey kt kv (entriesOf l).toList).run E.P w = .ok none w := by rw [findKey_run hd, entriesOf_eq]; exact h3
          have hck := okKey_run hok hk w
          have hpush : (entriesOf l).push { key := kv, val := uv, born := l.length } = entriesOf (l ++ [(kv, uv)]) := by
            apply Array.ext'
            rw [Array.toList_push, entriesOf_eq, entriesOf_eq, entsFrom_append]
            simp [entsFrom]
          refine ⟨{ w with heap := w.heap.setIfInBounds m' (.map (entriesOf (l ++ [(kv, uv)])) (l ++ [(kv, uv)]).length) }, ?_, rfl, ?_⟩
          · simp only [Instr.mapUpdate, Sem.run_bind, run_underlying hu, Result.andThen_ok, hgo, hck, hfk, hso, hpush, List.length_append, List.length_singleton]
          · refine h.update hg rfl hm (blk' := .map (es ++ [(k, u)])) ⟨_, RE.append hk hu' hl, rfl⟩ ?_ ?_ (by simp)
            · simp [hlt]
            · intro q hq
              simp [Array.getElem?_setIfInBounds_ne (Ne.symm hq)]
      · cases hf
    · cases hf
  · cases hf
end
end Go.Proofs.YtagccbpjpcnmeaaGreatDoor.Ex
