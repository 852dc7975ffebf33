/-
  The executor's operations, on.
-/
import Derived.Test.YtagccbpjpcnmeaaGreatDoorEo
set_option linter.unusedVariables false
set_option linter.unusedSimpArgs false
namespace Go.Proofs.YtagccbpjpcnmeaaGreatDoor.Ex
open Go

def repeatV (z : List Value) : Nat → List Value
  | 0 => []
  | n + 1 => z ++ repeatV z n

theorem repeat_R {σ : Sig} {z : List AVal} {k : List Value} (h : RL σ z k) : ∀ n, RL σ (repeatL z n) (repeatV k n)
  | 0 => .nil
  | n + 1 => h.append (repeat_R h n)

theorem repeat_len (k : List Value) : ∀ n, (repeatV k n).length = n * k.length
  | 0 => by simp [repeatV]
  | n + 1 => by simp [repeatV, repeat_len k n, Nat.add_mul, Nat.add_comm]

theorem repeat_range (k : List Value) : ∀ n, (List.range (n * k.length)).map (fun i => k.toArray[i % k.length]!) = repeatV k n
  | 0 => by simp [repeatV]
  | n + 1 => by
    have e : (n + 1) * k.length = k.length + n * k.length := by rw [Nat.add_mul]; omega
    rw [e, List.range_add, List.map_append, repeatV]
    congr 1
    · apply List.ext_getElem?
      intro i
      by_cases hi : i < k.length
      · simp [hi, Nat.mod_eq_of_lt hi]
      · simp [hi, List.getElem?_eq_none (Nat.le_of_not_lt hi)]
    · rw [List.map_map, ← repeat_range k n]
      apply List.map_congr_left
      intro i _
      simp

theorem zeroCells_eq (z : Array Value) (n : Nat) : Builtin.zeroCells z n = (repeatV z.toList n).toArray := by
  unfold Builtin.zeroCells
  apply Array.ext'
  have := repeat_range z.toList n
  simpa using this

section
variable {E : Env} {K : Know E} {B : World} {σ : Sig} {S S' : St} {w : World}

theorem range_cells (z : Array Value) (len n : Nat) (hz : z.size = n) : (Array.range (len * n)).map (fun i => z[i % z.size]!) = (repeatV z.toList len).toArray := by
  rw [← zeroCells_eq]
  unfold Builtin.zeroCells
  rw [hz]

theorem buildSlice1_ok (h : Rep E K B σ S w) {t : TypeId} {len : Nat} {ps : List (Nat × AVal)} {v : AVal} {l : Array (Nat × Value)} (hf : buildSlice1 E t len ps S = some (v, S')) (hp : RP σ ps l.toList) :
    Does E K B σ S' v ((Instr.buildSlice t len l).run E.P w) := by
  unfold buildSlice1 at hf
  split at hf
  · rename_i e he
    split at hf
    · rename_i n z hn hz
      split at hf
      · rename_i c hb hc
        split at hf
        · rename_i b S1 hS
          cases hf
          simp only [Bool.and_eq_true] at hb
          obtain ⟨u, h1, h2⟩ := zero_run hz w
          have hzl : u.cells.size = n := by
            have := (h2 σ).cells.len
            rw [Array.length_toList] at this
            rw [this]; exact Nat.beq_eq ▸ hb.2
          obtain ⟨k', h3, h4⟩ := fill_ok hc (repeat_R (h2 σ).cells len) hp
          obtain ⟨τ, w', h5, h6, h7, h8⟩ := newCells_ok h hS h4 (w' := w) rfl
          refine ⟨τ, _, w', ?_, h6, by rw [R]; exact ⟨_, len, h7, ⟨rfl, Nat.le_refl _⟩, rfl⟩, h8⟩
          have hle : ¬ (16777216 < len * n) := Nat.not_lt_of_le (Nat.le_of_ble_eq_true hb.1)
          have hr := range_cells u.cells len n hzl
          by_cases h0 : len * n = 0
          · have hk : repeatV u.cells.toList len = [] := by
              have := repeat_len u.cells.toList len
              rw [show u.cells.toList.length = n from hzl, h0] at this
              exact List.length_eq_zero_iff.1 this
            rw [hk] at h3
            have hr0 : (Array.range 0 : Array Nat) = #[] := rfl
            simp only [Instr.buildSlice, Sem.run_bind, run_underlying (elem_ok he), sizeOf_run hn, Result.andThen_ok, h0, hr0, Array.map_empty, h3]
            simp [h5]
          · rw [← hr] at h3
            simp [Instr.buildSlice, run_underlying (elem_ok he), sizeOf_run hn, hle, h0, h1, h3, h5]
        · cases hf
      · cases hf
    · cases hf
  · cases hf

theorem fn_R {v : AVal} {x : Value} {fn : Fn} {f c : List AVal} (hv : v = .func fn f c) (h : R σ v x) : ∃ xs ys, RL σ f xs ∧ RL σ c ys ∧ x = .func fn xs.toArray ys.toArray := by
  subst hv; simpa only [R] using h

theorem makeInterface1_ok (h : Rep E K B σ S w) {t : TypeId} {x v : AVal} {y : Value} (hf : makeInterface1 E t x S = some (v, S')) (hx : R σ x y) :
    Does E K B σ S' v ((Instr.makeInterface t y).run E.P w) := by
  unfold makeInterface1 at hf
  split at hf
  · cases hf
  · rename_i d hd hu
    cases hf
    refine ⟨σ, .iface t y, w, ?_, .refl σ, by rw [R]; exact ⟨y, hx, rfl⟩, h⟩
    simp only [Instr.makeInterface, Sem.run_bind, run_underlying hu, Result.andThen_ok]
    cases d <;> first | rfl | exact absurd rfl (hd _)
  · cases hf

theorem lift1_val {r : Value} {v : AVal} (h : pureV (lift1 r) S = some (v, S')) : S' = S ∧ ∀ σ, R σ v r := by
  unfold pureV at h
  split at h
  · rename_i x hx
    cases h
    exact ⟨rfl, fun σ => lift1_R hx⟩
  · cases h

theorem eq_of_key {t : TypeId} {x y : Value} {xo yo : Operand} (key : ∀ d, (Op.equalIn (d + 1) t x y).run E.P w = .ok false w)
    (h1 : binOp .eql t x y = (do pure (.bool (← Op.equal t x y)))) (h2 : binOp .neq t x y = (do pure (.bool (!(← Op.equal t x y)))))
    (g1 : eqGuard .eql t xo yo x y = pure ()) (g2 : eqGuard .neq t xo yo x y = pure ()) :
    (do eqGuard .eql t xo yo x y; binOp .eql t x y : Sem Value).run E.P w = .ok (.bool false) w ∧ (do eqGuard .neq t xo yo x y; binOp .neq t x y : Sem Value).run E.P w = .ok (.bool true) w := by
  have he : (Op.equal t x y).run E.P w = .ok false w := key 9999
  rw [g1, g2, h1, h2]
  constructor <;> simp [he]

theorem nonNil_run {t : TypeId} {a b : AVal} {x y : Value} (hn : nonNil (E.P.underlying t) a b = true) (ha : R σ a x) (hb : R σ b y) (xo yo : Operand) (w : World) :
    (do eqGuard .eql t xo yo x y; binOp .eql t x y : Sem Value).run E.P w = .ok (.bool false) w ∧ (do eqGuard .neq t xo yo x y; binOp .neq t x y : Sem Value).run E.P w = .ok (.bool true) w := by
  unfold nonNil at hn
  split at hn
  all_goals first
    | (cases hn; done)
    | skip
  all_goals
    rename_i hu
    simp only [R] at ha hb
  · obtain ⟨m, _, rfl⟩ := ha; obtain ⟨rfl, _⟩ := hb
    exact eq_of_key (fun d => by simp [Op.equalIn, run_underlying hu]) rfl rfl rfl rfl
  · obtain ⟨m, _, rfl⟩ := hb; obtain ⟨rfl, _⟩ := ha
    exact eq_of_key (fun d => by simp [Op.equalIn, run_underlying hu]) rfl rfl rfl rfl
  · obtain ⟨m, q, _, _, rfl⟩ := ha; obtain ⟨rfl, _⟩ := hb
    exact eq_of_key (fun d => by simp [Op.equalIn, run_underlying hu]) rfl rfl rfl rfl
  · obtain ⟨m, q, _, _, rfl⟩ := hb; obtain ⟨rfl, _⟩ := ha
    exact eq_of_key (fun d => by simp [Op.equalIn, run_underlying hu]) rfl rfl rfl rfl
  · obtain ⟨m, _, rfl⟩ := ha; obtain ⟨rfl, _⟩ := hb
    exact eq_of_key (fun d => by simp [Op.equalIn, run_underlying hu]) rfl rfl rfl rfl
  · obtain ⟨m, _, rfl⟩ := hb; obtain ⟨rfl, _⟩ := ha
    exact eq_of_key (fun d => by simp [Op.equalIn, run_underlying hu]) rfl rfl rfl rfl
  · obtain ⟨m, q, _, _, rfl⟩ := ha; obtain ⟨rfl, _⟩ := hb
    exact eq_of_key (fun d => by simp [Op.equalIn, run_underlying hu]) rfl rfl rfl rfl
  · obtain ⟨m, q, _, _, rfl⟩ := hb; obtain ⟨rfl, _⟩ := ha
    exact eq_of_key (fun d => by simp [Op.equalIn, run_underlying hu]) rfl rfl rfl rfl
  · obtain ⟨m, _, rfl⟩ := ha; obtain ⟨rfl, _⟩ := hb
    exact eq_of_key (fun d => by simp [Op.equalIn, run_underlying hu]) rfl rfl rfl rfl
  · obtain ⟨m, _, rfl⟩ := hb; obtain ⟨rfl, _⟩ := ha
    exact eq_of_key (fun d => by simp [Op.equalIn, run_underlying hu]) rfl rfl rfl rfl

theorem bool_R (σ : Sig) (b : Bool) : R σ (.s (.bool b)) (.bool b) := by rw [R]; exact ⟨rfl, rfl⟩
theorem int_R (σ : Sig) (k : IntKind) (n : Int) : R σ (.s (.int k n)) (.int k n) := by rw [R]; exact ⟨rfl, rfl⟩

theorem bin1_ok (h : Rep E K B σ S w) {op : BinOp} {t : TypeId} {xo yo : Operand} {a b v : AVal} {x y : Value} (hf : bin1 E op t xo yo a b S = some (v, S')) (ha : R σ a x) (hb : R σ b y) :
    S' = S ∧ ∃ u, (do eqGuard op t xo yo x y; binOp op t x y : Sem Value).run E.P w = .ok u w ∧ R σ v u := by
  unfold bin1 at hf
  split at hf
  · rename_i p q hp hq
    obtain rfl := val_R hp ha
    obtain rfl := val_R hq hb
    split at hf
    · rename_i r hr
      obtain ⟨h1, h2⟩ := lift1_val hf
      exact ⟨h1, r, pureRun_run hr w, h2 σ⟩
    · cases hf
  · split at hf
    · rename_i r hr
      cases hf
      obtain ⟨u, h1, h2⟩ := K.bin op a b _ hr σ x y h.base ha hb t xo yo w
      exact ⟨rfl, u, h1, h2⟩
    · split at hf
      · rename_i hn _
        cases hf
        exact ⟨rfl, _, (nonNil_run hn ha hb xo yo w).1, bool_R σ _⟩
      · rename_i hn _
        cases hf
        exact ⟨rfl, _, (nonNil_run hn ha hb xo yo w).2, bool_R σ _⟩
      · cases hf

theorem un1_ok {op : UnOp} {a v : AVal} {x : Value} (hf : un1 E op a S = some (v, S')) (ha : R σ a x) : S' = S ∧ ∃ u, (Op.unary op x).run E.P w = .ok u w ∧ R σ v u := by
  unfold un1 at hf
  split at hf
  · rw [R] at ha
    obtain ⟨rfl, _⟩ := ha
    split at hf
    · rename_i r hr
      obtain ⟨h1, h2⟩ := lift1_val hf
      exact ⟨h1, r, pureRun_run hr w, h2 σ⟩
    · cases hf
  · cases hf

theorem conv1_ok (h : Rep E K B σ S w) {src dst : TypeId} {a v : AVal} {x : Value} (hf : conv1 E src dst a S = some (v, S')) (ha : R σ a x) : S' = S ∧ ∃ u, (convert src dst x).run E.P w = .ok u w ∧ R σ v u := by
  unfold conv1 at hf
  split at hf
  · rename_i n
    rw [R] at ha
    obtain ⟨z, hz, rfl⟩ := ha
    split at hf
    · rename_i d hs hd
      cases hf
      refine ⟨rfl, .int .i64 z, ?_, by rw [R]; exact ⟨z, hz, rfl⟩⟩
      have hr := h.syms n z hz
      have hw : IntKind.i64.wrap z = z := by rw [IntKind.wrap_i64]; omega
      simp [convert, run_underlying hs, run_underlying hd, Conv.intToInt, hw]
    · cases hf
  · rw [R] at ha
    obtain ⟨rfl, _⟩ := ha
    split at hf
    · rename_i r hr
      obtain ⟨h1, h2⟩ := lift1_val hf
      exact ⟨h1, r, pureRun_run hr w, h2 σ⟩
    · cases hf
  · cases hf

theorem asNat_R {a : AVal} {x : Value} {n : Nat} (h : asNat a = some n) (ha : R σ a x) : ∃ k, x = .int k (n : Int) := by
  unfold asNat at h
  split at h
  · rename_i k z
    rw [R] at ha
    obtain ⟨rfl, _⟩ := ha
    split at h
    · cases h; exact ⟨k, rfl⟩
    · cases h
  · cases h

def RO (σ : Sig) : Option AVal → Option Value → Prop
  | none, y => y = none
  | some v, y => ∃ x, R σ v x ∧ y = some x

theorem bound_run {v : AVal} {x : Value} {y y' n d : Nat} {code : BoundsCode} (h : bound1 (some v) y d = some n) (hx : R σ v x) (hy : y ≤ y') (P : Program) (w : World) :
    (Instr.sliceBound x y' code).run P w = .ok n w ∧ n ≤ y := by
  simp only [bound1] at h
  split at h
  · rename_i m hm
    split at h
    · rename_i hb
      cases h
      obtain ⟨k, rfl⟩ := asNat_R hm hx
      have hle : n ≤ y := Nat.le_of_ble_eq_true hb
      have h1 : (n : Int) ≤ (y' : Int) := by omega
      simp [Instr.sliceBound, asIntOf, h1, hle]
    · cases h
  · cases h

theorem bnds_run {n c q l h : Nat} {m : Option Nat} {lo hi mx : Option AVal} {lo' hi' mx' : Option Value} {isS : Bool} (hb : bnds n c lo hi mx = some (l, h, m)) (h1 : RO σ lo lo') (h2 : RO σ hi hi') (h3 : RO σ mx mx')
    (hc : c ≤ q) (hn : n ≤ c) (P : Program) (w : World) : (Instr.sliceBounds isS n q lo' hi' mx').run P w = .ok (l, h, m.getD q) w ∧ l ≤ h ∧ h ≤ m.getD c ∧ m.getD c ≤ c ∧ (m = none → mx' = none) := by
  have low : ∀ (h l : Nat), bound1 lo h 0 = some l → (match lo' with | some v => (Instr.sliceBound v h (if mx'.isSome then BoundsCode.slice3C else .sliceB)) | none => (pure 0 : Sem Nat)).run P w = .ok l w ∧ l ≤ h := by
    intro h l hl
    cases lo with
    | none =>
      obtain rfl : lo' = none := h1
      simp only [bound1] at hl
      cases hl
      exact ⟨rfl, Nat.zero_le _⟩
    | some v =>
      obtain ⟨x, hx, rfl⟩ := h1
      exact bound_run hl hx (Nat.le_refl _) P w
  unfold bnds at hb
  split at hb
  · obtain rfl : mx' = none := h3
    split at hb
    · rename_i h' hh
      split at hb
      · rename_i l' hl
        cases hb
        obtain ⟨h4, h5⟩ := low h l hl
        simp only [Option.isSome_none, Bool.false_eq_true, if_false] at h4
        cases hi with
        | none =>
          obtain rfl : hi' = none := h2
          simp only [bound1] at hh
          cases hh
          refine ⟨?_, h5, hn, Nat.le_refl _, fun _ => rfl⟩
          cases lo' <;> simp_all [Instr.sliceBounds]
        | some u =>
          obtain ⟨x, hx, rfl⟩ := h2
          obtain ⟨h6, h7⟩ := bound_run (code := if isS then .sliceAcap else .sliceAlen) hh hx hc P w
          refine ⟨?_, h5, h7, Nat.le_refl _, fun _ => rfl⟩
          cases lo' <;> simp_all [Instr.sliceBounds]
      · cases hb
    · cases hb
  · rename_i v u
    obtain ⟨x, hx, rfl⟩ := h3
    obtain ⟨y, hy, rfl⟩ := h2
    split at hb
    · rename_i m' hm
      split at hb
      · rename_i h' hh
        split at hb
        · rename_i l' hl
          cases hb
          obtain ⟨h4, h5⟩ := low h l hl
          simp only [Option.isSome_some, if_true] at h4
          obtain ⟨h6, h7⟩ := bound_run (code := if isS then .slice3Acap else .slice3Alen) hm hx hc P w
          obtain ⟨h8, h9⟩ := bound_run (code := .slice3B) hh hy (Nat.le_refl _) P w
          refine ⟨?_, h5, h9, h7, fun h => by cases h⟩
          cases lo' <;> simp_all [Instr.sliceBounds]
        · cases hb
      · cases hb
    · cases hb
  · cases hb
end
end Go.Proofs.YtagccbpjpcnmeaaGreatDoor.Ex
