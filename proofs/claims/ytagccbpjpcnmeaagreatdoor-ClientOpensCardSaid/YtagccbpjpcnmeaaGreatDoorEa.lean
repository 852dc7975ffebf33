/-
  The executor's append, copy, clear, len, cap.
-/
import Derived.Test.YtagccbpjpcnmeaaGreatDoorEq
import Derived.Laws.Append
set_option linter.unusedVariables false
set_option linter.unusedSimpArgs false
namespace Go.Proofs.YtagccbpjpcnmeaaGreatDoor.Ex
open Go

section
variable {E : Env} {K : Know E} {B : World} {σ : Sig} {S S' : St} {w : World}

theorem bytes_vals (s : ByteArray) : RL σ (s.data.toList.map fun b => AVal.s (.int .u8 b.toNat)) (s.data.toList.map fun b => Value.int .u8 b.toNat) := by
  generalize s.data.toList = l
  induction l with
  | nil => exact .nil
  | cons b l ih => exact .cons (int_R σ _ _) ih

/-- The cells that are appended or copied, as the model reads them. -/
theorem source_ok (h : Rep E K B σ S w) {z n : Nat} {x : AVal} {y : Value} {xs : List AVal} (hs : sourceOf E S z x = some (n, xs)) (hx : R σ x y) :
    Builtin.lenOf y = pure n ∧ ∃ k, RL σ xs k ∧ k.length = n * z ∧ ∀ m, m ≤ n → ∀ w', w'.heap = w.heap → (Builtin.firstCells z m y).run E.P w' = .ok (k.take (m * z)).toArray w' := by
  unfold sourceOf at hs
  split at hs
  · cases hs
    rw [R] at hx
    obtain ⟨rfl, _⟩ := hx
    exact ⟨rfl, [], .nil, by simp, fun m hm w' _ => by simp [Builtin.firstCells]⟩
  · rename_i b o n' c
    split at hs
    · rename_i l hl
      cases hs
      rw [R] at hx
      obtain ⟨m0, q, hm0, _, rfl⟩ := hx
      obtain ⟨k, h1, h2, h3⟩ := h.read hl hm0
      refine ⟨rfl, k, h1, h2, fun m hm w' hw => ?_⟩
      have hle : m * z ≤ k.length := by rw [h2]; exact Nat.mul_le_mul_right _ hm
      have := run_firstCells_some (P := E.P) w' z m ⟨m0, o, none⟩ n q (k.take (m * z)) (by simp [hle]) fun j v hj => by
        rw [List.getElem?_take] at hj
        split at hj
        · have := h3 j v hj
          rw [addr_add]
          unfold World.cell? at this ⊢
          rw [hw]; exact this
        · cases hj
      exact this
    · cases hs
  · rename_i s
    split at hs
    · rename_i hz
      cases hs
      have hz1 : z = 1 := Nat.beq_eq ▸ hz
      subst hz1
      rw [R] at hx
      obtain ⟨rfl, _⟩ := hx
      refine ⟨rfl, _, bytes_vals s, by simp, fun m hm w' _ => ?_⟩
      simp only [Builtin.firstCells, Sem.run_pure, Nat.mul_one]
      congr 1
      apply Array.ext'
      have e : (s.extract 0 m).data = s.data.extract 0 m := by simp
      rw [e]
      simp [List.extract_eq_take_drop, List.map_take]
    · cases hs
  · cases hs

theorem zeros_cases {xt : List TypeId} {b : Bool} (h : zeros1 E xt = some b) :
    (∃ t r k, xt = t :: r ∧ E.P.underlying t = some (.int k) ∧ b = true) ∨ (∃ t r k, xt = t :: r ∧ E.P.underlying t = some (.slice k) ∧ b = false) ∨ (∃ t r, xt = t :: r ∧ E.P.underlying t = some .string ∧ b = false) := by
  unfold zeros1 at h
  split at h
  · cases h
  · rename_i t r
    split at h
    · rename_i k hu; cases h; exact .inl ⟨t, r, k, rfl, hu, rfl⟩
    · rename_i k hu; cases h; exact .inr (.inl ⟨t, r, k, rfl, hu, rfl⟩)
    · rename_i hu; cases h; exact .inr (.inr ⟨t, r, rfl, hu, rfl⟩)
    · cases h

section
variable {st e ty : TypeId} {xt : List TypeId} {z by_ n sLen sCap : Nat} {zv : AVal} {base : Option Addr} {y : Value} {k : List Value} {b : Bool} {w' : World}

/-- The cells to be appended: read from the argument, or so many noughts. -/
def Src (E : Env) (z n : Nat) (zv : Value) (y : Value) (k : List Value) (b : Bool) (w : World) : Prop :=
  (b = false ∧ Builtin.lenOf y = pure n ∧ ∀ w', w'.heap = w.heap → (Builtin.firstCells z n y).run E.P w' = .ok k.toArray w') ∨
  (b = true ∧ (∃ kk, y = .int kk (n : Int)) ∧ k = repeatV zv.cells.toList n)

/-- What append does where there is room. -/
def roomEnd (P : Program) (base : Option Addr) (o : Nat) (k : List Value) (v : Value) (w : World) : Result Value :=
  match base with
  | some a => ((storeCells (a.add o) k).run P w).andThen fun _ w' => .ok v w'
  | none => .ok v w

set_option maxHeartbeats 1600000 in
theorem app_room {zu : Value} (he : elem? E st = some e) (hz : size? E e = some z) (hb : bytes? E e = some (by_ + 1)) (hzv : ∀ w, (zeroValue e).run E.P w = .ok zu w) (hzl : zu.cells.size = z)
    (hxt : zeros1 E xt = some b) (hs : Src E z n zu y k b w) (hfit : (sLen + n) * (by_ + 1) ≤ 70368744177664) (hroom : sLen + n ≤ sCap)
    (hst : ∀ a, base = some a → (storeCells (a.add (sLen * z)) k).run E.P w = .ok () w') (hst0 : base = none → w' = w) :
    (Builtin.append_ (st :: xt).toArray ty #[.slice base sLen sCap, y]).run E.P w = .ok (.slice base (sLen + n) sCap) w' := by
  have hu := elem_ok he
  obtain ⟨i, hi, hib⟩ := bytes_ok hb
  have hneed : sLen + n ≤ 70368744177664 := Nat.le_trans (Nat.le_mul_of_pos_right _ (Nat.succ_pos _)) hfit
  have hnb : n * (by_ + 1) ≤ 70368744177664 := Nat.le_trans (Nat.mul_le_mul_right _ (Nat.le_add_left _ _)) hfit
  have hsz := sizeOf_run hz w
  have key : (Builtin.append_ (st :: xt).toArray ty #[.slice base sLen sCap, y]).run E.P w =
      roomEnd E.P base (sLen * z) k (.slice base (sLen + n) sCap) w := by
    clear hst hst0
    unfold roomEnd
    rcases zeros_cases hxt with ⟨t, r, kk, rfl, hut, rfl⟩ | ⟨t, r, kk, rfl, hut, rfl⟩ | ⟨t, r, rfl, hut, rfl⟩
    · obtain ⟨hb, _⟩ | ⟨_, ⟨kk', rfl⟩, rfl⟩ := hs
      · cases hb
      · have wn : IntKind.i64.wrap (n : Int) = n := by rw [IntKind.wrap_i64]; omega
        have g1 : ¬ ((n : Int) < 0) := by omega
        have g2 : ¬ ((281474976710656 : Int) < (n : Int) * (i.bytes : Int)) := by
          rw [hib]
          have : ((n * (by_ + 1) : Nat) : Int) ≤ ((70368744177664 : Nat) : Int) := Int.ofNat_le.2 hnb
          rw [Int.natCast_mul] at this
          omega
        have hr := zeroCells_eq zu.cells n
        have hti : (typeInfo e).run E.P w = .ok i w := by simp [typeInfo, hi]
        by_cases h0 : n * z = 0
        · have hk : repeatV zu.cells.toList n = [] := by
            have := repeat_len zu.cells.toList n
            rw [show zu.cells.toList.length = z from hzl, h0] at this
            exact List.length_eq_zero_iff.1 this
          rw [hk]
          have h0' : n = 0 ∨ z = 0 := Nat.mul_eq_zero.1 h0
          cases base <;> simp [Builtin.append_, run_underlying hu, run_underlying hut, hsz, asInt, asIntOf, wn, g1, g2, hti, hroom, h0, h0']
        · have h0' : ¬ (n = 0 ∨ z = 0) := fun h => h0 (Nat.mul_eq_zero.2 h)
          cases base <;> simp [Builtin.append_, run_underlying hu, run_underlying hut, hsz, asInt, asIntOf, wn, g1, g2, hti, hroom, h0, h0', hzv, hr]
    · obtain ⟨_, hl, hf⟩ | ⟨hb, _⟩ := hs
      · have hf := hf w rfl
        cases base <;> simp [Builtin.append_, run_underlying hu, run_underlying hut, hsz, hl, hroom, hf]
      · cases hb
    · obtain ⟨_, hl, hf⟩ | ⟨hb, _⟩ := hs
      · have hf := hf w rfl
        cases base <;> simp [Builtin.append_, run_underlying hu, run_underlying hut, hsz, hl, hroom, hf]
      · cases hb
  rw [key]
  unfold roomEnd
  cases base with
  | none => simp only [hst0 rfl]
  | some a => simp only [hst a rfl, Result.andThen_ok]

set_option maxHeartbeats 1600000 in
theorem app_grow {zu : Value} {olds : List Value} (he : elem? E st = some e) (hz : size? E e = some z) (hb : bytes? E e = some (by_ + 1)) (hzv : ∀ w, (zeroValue e).run E.P w = .ok zu w) (hzl : zu.cells.size = z)
    (hxt : zeros1 E xt = some b) (hs : Src E z n zu y k b w) (hfit : (sLen + n) * (by_ + 1) ≤ 70368744177664) (hroom : ¬ sLen + n ≤ sCap)
    (hold : ∀ w', w'.heap = w.heap → (Builtin.firstCells z sLen (.slice base sLen sCap)).run E.P w' = .ok olds.toArray w') :
    ∃ c, sLen + n ≤ c ∧ (Builtin.append_ (st :: xt).toArray ty #[.slice base sLen sCap, y]).run E.P w =
      .ok (.slice (some ⟨w.heap.size, 0, none⟩) (sLen + n) c) (w.drew.alloc (.cells (olds ++ k ++ repeatV zu.cells.toList (c - (sLen + n))).toArray e)) := by
  have hu := elem_ok he
  obtain ⟨i, hi, hib⟩ := bytes_ok hb
  have hneed : sLen + n ≤ 70368744177664 := Nat.le_trans (Nat.le_mul_of_pos_right _ (Nat.succ_pos _)) hfit
  have hnb : n * (by_ + 1) ≤ 70368744177664 := Nat.le_trans (Nat.mul_le_mul_right _ (Nat.le_add_left _ _)) hfit
  have hsz := sizeOf_run hz w
  refine ⟨grownCap w (sLen + n) sCap e, Nat.le_add_right _ _, ?_⟩
  have g3 : ¬ ((9223372036854775807 : Int) < (sLen : Int) + (n : Int)) := by omega
  have g4 : ¬ (281474976710656 < Builtin.nextslicecap (sLen + n) sCap * (by_ + 1)) := by
    have := growslice_fits (need := sLen + n) (old := sCap) (bytes := by_ + 1) (by omega) (by omega)
    omega
  have g5 : ¬ (i.bytes = 0) := by omega
  rw [← hib] at g4
  have hr := fun m => zeroCells_eq zu.cells m
  have hti : (typeInfo e).run E.P w = .ok i w := by simp [typeInfo, hi]
  have htd : (typeInfo e).run E.P w.drew = .ok i w.drew := by simp [typeInfo, hi]
  have hod := hold w.drew rfl
  have fin : ∀ c : Nat, World.alloc w.drew (.cells (olds.toArray ++ (k.toArray ++ (repeatV zu.cells.toList c).toArray)) e) = World.alloc w.drew (.cells (olds ++ k ++ repeatV zu.cells.toList c).toArray e) := by
    intro c
    congr 2
    apply Array.ext'
    simp
  have fin2 : ∀ c : Nat, World.alloc w.drew (.cells (olds.toArray ++ k.toArray ++ (repeatV zu.cells.toList c).toArray) e) = World.alloc w.drew (.cells (olds ++ k ++ repeatV zu.cells.toList c).toArray e) := by
    intro c
    congr 2
    apply Array.ext'
    simp
  rcases zeros_cases hxt with ⟨t, r, kk, rfl, hut, rfl⟩ | ⟨t, r, kk, rfl, hut, rfl⟩ | ⟨t, r, rfl, hut, rfl⟩
  · obtain ⟨hb, _⟩ | ⟨_, ⟨kk', rfl⟩, rfl⟩ := hs
    · cases hb
    · have wn : IntKind.i64.wrap (n : Int) = n := by rw [IntKind.wrap_i64]; omega
      have g1 : ¬ ((n : Int) < 0) := by omega
      have g2 : ¬ ((281474976710656 : Int) < (n : Int) * (i.bytes : Int)) := by
        rw [hib]
        have : ((n * (by_ + 1) : Nat) : Int) ≤ ((70368744177664 : Nat) : Int) := Int.ofNat_le.2 hnb
        rw [Int.natCast_mul] at this
        omega
      by_cases h0 : n * z = 0
      · have hk : repeatV zu.cells.toList n = [] := by
          have := repeat_len zu.cells.toList n
          rw [show zu.cells.toList.length = z from hzl, h0] at this
          exact List.length_eq_zero_iff.1 this
        rw [hk] at fin fin2 ⊢
        have h0' : n = 0 ∨ z = 0 := Nat.mul_eq_zero.1 h0
        simp [Builtin.append_, run_underlying hu, run_underlying hut, hsz, asInt, asIntOf, wn, g1, g2, g3, g4, g5, hti, htd, hroom, h0, h0', hzv, hr, hod, Question.forced, newRow, grownCap]
      · have h0' : ¬ (n = 0 ∨ z = 0) := fun h => h0 (Nat.mul_eq_zero.2 h)
        simp [Builtin.append_, run_underlying hu, run_underlying hut, hsz, asInt, asIntOf, wn, g1, g2, g3, g4, g5, hti, htd, hroom, h0, h0', hzv, hr, hod, Question.forced, newRow, grownCap]
  · obtain ⟨_, hl, hf⟩ | ⟨hb, _⟩ := hs
    · have hf := hf w.drew rfl
      simp [Builtin.append_, run_underlying hu, run_underlying hut, hsz, hl, hroom, hf, g3, g4, g5, hti, htd, hzv, hr, hod, Question.forced, newRow, grownCap]
    · cases hb
  · obtain ⟨_, hl, hf⟩ | ⟨hb, _⟩ := hs
    · have hf := hf w.drew rfl
      simp [Builtin.append_, run_underlying hu, run_underlying hut, hsz, hl, hroom, hf, g3, g4, g5, hti, htd, hzv, hr, hod, Question.forced, newRow, grownCap]
    · cases hb
end
end
end Go.Proofs.YtagccbpjpcnmeaaGreatDoor.Ex
