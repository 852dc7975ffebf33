/-
  The executor's other builtins, and its maps.
-/
import Derived.Test.YtagccbpjpcnmeaaGreatDoorEb
set_option linter.unusedVariables false
set_option linter.unusedSimpArgs false
namespace Go.Proofs.YtagccbpjpcnmeaaGreatDoor.Ex
open Go

section
variable {E : Env} {K : Know E} {B : World} {σ : Sig} {S S' : St} {w : World}

theorem copy1_ok (h : Rep E K B σ S w) {ts : List TypeId} {ty : TypeId} {args : List AVal} {ys : List Value} {v : AVal} (hf : copy1 E ts args S = some (v, S')) (ha : RL σ args ys) :
    Does E K B σ S' v ((Builtin.copy_ ts.toArray ty ys.toArray).run E.P w) := by
  unfold copy1 at hf
  split at hf
  · rename_i dt r d x
    obtain ⟨dv, r1, hd, hr1, rfl⟩ := ha.of_cons
    obtain ⟨yv, r2, hx, hr2, rfl⟩ := hr1.of_cons
    obtain rfl := hr2.of_nil
    split at hf
    · rename_i e he
      split at hf
      · rename_i z hz
        split at hf
        · rename_i p hs
          obtain ⟨m, xs⟩ := p
          cases hf
          obtain ⟨hl, k, h1, h2, h3⟩ := source_ok h hs hx
          rw [R] at hd
          obtain ⟨rfl, _⟩ := hd
          have h4 := h3 0 (Nat.zero_le _) w rfl
          refine ⟨σ, .int .i64 0, w, ?_, .refl σ, int_R σ _ _, h⟩
          simp [Builtin.copy_, run_underlying (elem_ok he), hl, sizeOf_run hz, h4, goInt, Nat.min_def]
        · rename_i b o n c m xs hs
          split at hf
          · rename_i l hl'
            split at hf
            · rename_i S1 hw
              cases hf
              obtain ⟨hl, k, h1, h2, h3⟩ := source_ok h hs hx
              rw [R] at hd
              obtain ⟨m0, q, hm0, _, rfl⟩ := hd
              have h4 := h3 (Nat.min m n) (Nat.min_le_left _ _) w rfl
              obtain ⟨h5, h6, h7⟩ := RL.take h1 hl'
              obtain ⟨w', h8, h9⟩ := store_run (E := E) h hw h5 hm0
              refine ⟨σ, .int .i64 (Nat.min m n : Nat), w', ?_, .refl σ, int_R σ _ _, h9⟩
              simp [Builtin.copy_, run_underlying (elem_ok he), hl, sizeOf_run hz, h4, goInt, h8]
            · cases hf
          · cases hf
        · cases hf
      · cases hf
    · cases hf
  · cases hf

theorem clear1_ok (h : Rep E K B σ S w) {ts : List TypeId} {ty : TypeId} {args : List AVal} {ys : List Value} {v : AVal} (hf : clear1 E ts args S = some (v, S')) (ha : RL σ args ys) :
    Does E K B σ S' v ((Builtin.clear_ ts.toArray ty ys.toArray).run E.P w) := by
  unfold clear1 at hf
  split at hf
  · rename_i t r b o n c
    obtain ⟨dv, r1, hd, hr1, rfl⟩ := ha.of_cons
    obtain rfl := hr1.of_nil
    split at hf
    · rename_i e he
      split at hf
      · rename_i z k hz hk
        split at hf
        · rename_i S1 hb hw
          cases hf
          rw [R] at hd
          obtain ⟨m0, q, hm0, _, rfl⟩ := hd
          obtain ⟨u, h1, h2⟩ := zero_run hz w
          obtain ⟨w', h8, h9⟩ := store_run (E := E) h hw (repeat_R (h2 σ).cells (n + 1)) hm0
          refine ⟨σ, undef, w', ?_, .refl σ, undef_R σ, h9⟩
          have hr := zeroCells_eq u.cells (n + 1)
          simp [Builtin.clear_, run_underlying (elem_ok he), h1, hr, h8, undef]
        · cases hf
      · cases hf
    · cases hf
  · cases hf

theorem lenOf1_ok (h : Rep E K B σ S w) {t ty : TypeId} {r : List TypeId} {x : AVal} {y : Value} {n : Nat} (hf : lenOf1 S (E.P.underlying t) x = some n) (hx : R σ x y) :
    (Builtin.len_ (t :: r).toArray ty #[y]).run E.P w = .ok (.int .i64 n) w := by
  unfold lenOf1 at hf
  split at hf
  · rename_i hu; cases hf; rw [R] at hx; obtain ⟨rfl, _⟩ := hx
    simp [Builtin.len_, run_underlying hu, goInt]
  · rename_i hu; cases hf; rw [R] at hx; obtain ⟨m, q, _, _, rfl⟩ := hx
    simp [Builtin.len_, run_underlying hu, goInt]
  · rename_i hu; cases hf; rw [R] at hx; obtain ⟨rfl, _⟩ := hx
    simp [Builtin.len_, run_underlying hu, goInt]
  · rename_i hu; cases hf
    cases y <;> simp [Builtin.len_, run_underlying hu, goInt]
  · rename_i hu; cases hf; rw [R] at hx; obtain ⟨rfl, _⟩ := hx
    simp [Builtin.len_, run_underlying hu, goInt]
  · rename_i hu
    split at hf
    · rename_i es hg
      cases hf
      rw [R] at hx; obtain ⟨m, hm, rfl⟩ := hx
      obtain ⟨m', o, h1, h2, ⟨l, h3, rfl⟩, _⟩ := h.has _ _ hg rfl
      obtain rfl : m' = m := Option.some.inj (h1.symm.trans hm)
      have hlen : ∀ (es : List (AVal × AVal)) (l : List (Value × Value)), RE σ es l → l.length = es.length := by
        intro es
        induction es with
        | nil => intro l hl; rw [show l = [] from hl]; rfl
        | cons e es ih => intro l hl; obtain ⟨x, y, r, _, _, h, rfl⟩ := hl; simp [ih r h]
      have := hlen es l h3
      have hz : (entriesOf l).size = es.length := by simp [entriesOf, this]
      have hgo : (getObj m').run E.P w = .ok (.map (entriesOf l) l.length) w := by simp [getObj, Sem.run, h2]
      simp [Builtin.len_, run_underlying hu, goInt, hgo, hz]
    · cases hf
  · cases hf

theorem capOf1_ok {t ty : TypeId} {r : List TypeId} {x : AVal} {y : Value} {n : Nat} (hf : capOf1 (E.P.underlying t) x = some n) (hx : R σ x y) :
    (Builtin.cap_ (t :: r).toArray ty #[y]).run E.P w = .ok (.int .i64 n) w := by
  unfold capOf1 at hf
  split at hf
  · rename_i hu; cases hf; rw [R] at hx; obtain ⟨rfl, _⟩ := hx
    simp [Builtin.cap_, run_underlying hu, goInt]
  · rename_i hu; cases hf; rw [R] at hx; obtain ⟨m, q, _, ⟨rfl, _⟩, rfl⟩ := hx
    simp [Builtin.cap_, run_underlying hu, goInt]
  · cases hf

theorem builtin1_ok (h : Rep E K B σ S w) {b : Builtin} {ts : List TypeId} {ty : TypeId} {args : List AVal} {ys : List Value} {v : AVal} {cs : Array Bool} (hf : builtin1 b E ts args S = some (v, S')) (ha : RL σ args ys) :
    ∃ r, (builtin b ts.toArray ty cs ys.toArray) = (do pure (.value (← r))) ∧ Does E K B σ S' v (r.run E.P w) := by
  cases b <;> simp only [builtin1] at hf
  case append => exact ⟨_, rfl, append1_ok h hf ha⟩
  case copy => exact ⟨_, rfl, copy1_ok h hf ha⟩
  case clear => exact ⟨_, rfl, clear1_ok h hf ha⟩
  case len =>
    unfold len1 at hf
    split at hf
    · rename_i k
      obtain ⟨xv, r1, hx, hr1, rfl⟩ := ha.of_cons
      obtain rfl := hr1.of_nil
      split at hf
      · rename_i n e hn hu
        cases hf
        cases ts with
        | nil => simp at hu
        | cons t r =>
          obtain ⟨u, h1, h2⟩ := K.len k _ hn σ xv h.base hx t e r ty w (by simpa using hu)
          exact ⟨_, rfl, σ, u, w, h1, .refl σ, h2, h⟩
      · cases hf
    · obtain ⟨xv, r1, hx, hr1, rfl⟩ := ha.of_cons
      obtain rfl := hr1.of_nil
      split at hf
      · rename_i n hn
        cases hf
        cases ts with
        | nil => simp [lenOf1] at hn
        | cons t r => exact ⟨_, rfl, σ, _, w, lenOf1_ok h hn hx, .refl σ, int_R σ _ _, h⟩
      · cases hf
    · cases hf
  case cap =>
    unfold cap1 at hf
    split at hf
    · obtain ⟨xv, r1, hx, hr1, rfl⟩ := ha.of_cons
      obtain rfl := hr1.of_nil
      split at hf
      · rename_i n hn
        cases hf
        cases ts with
        | nil => simp [capOf1] at hn
        | cons t r => exact ⟨_, rfl, σ, _, w, capOf1_ok hn hx, .refl σ, int_R σ _ _, h⟩
      · cases hf
    · cases hf
  case min =>
    unfold min1 at hf
    split at hf
    · obtain ⟨xv, r1, hx, hr1, rfl⟩ := ha.of_cons
      obtain ⟨yv, r2, hy, hr2, rfl⟩ := hr1.of_cons
      obtain rfl := hr2.of_nil
      rw [R] at hx hy
      obtain ⟨rfl, _⟩ := hx
      obtain ⟨rfl, _⟩ := hy
      split at hf
      · rename_i r hr
        obtain ⟨rfl, h2⟩ := lift1_val hf
        exact ⟨_, rfl, σ, _, w, pureRun_run hr w, .refl σ, h2 σ, h⟩
      · cases hf
    · cases hf
  case max =>
    unfold max1 at hf
    split at hf
    · obtain ⟨xv, r1, hx, hr1, rfl⟩ := ha.of_cons
      obtain ⟨yv, r2, hy, hr2, rfl⟩ := hr1.of_cons
      obtain rfl := hr2.of_nil
      rw [R] at hx hy
      obtain ⟨rfl, _⟩ := hx
      obtain ⟨rfl, _⟩ := hy
      split at hf
      · rename_i r hr
        obtain ⟨rfl, h2⟩ := lift1_val hf
        exact ⟨_, rfl, σ, _, w, pureRun_run hr w, .refl σ, h2 σ, h⟩
      · cases hf
    · cases hf
  all_goals cases hf
end
end Go.Proofs.YtagccbpjpcnmeaaGreatDoor.Ex
