/-
  ClientOpens by the executor: the other calls do what is said of them.
-/
import Derived.Test.YtagccbpjpcnmeaaGreatDoorSyS
import Derived.Test.YtagccbpjpcnmeaaGreatDoorLvC
set_option linter.unusedVariables false
set_option linter.unusedSimpArgs false
namespace Go.Proofs.YtagccbpjpcnmeaaGreatDoor
open Go Go.RowKit

set_option maxRecDepth 100000 in
theorem same_gen (mp x : Nat) (z : Int) (l : List Int) (F : Nat → Prop) (hx : x < l.length) (hz : l.getD x 0 = z) (hn : l.length ≤ 100000) (w : World) (h : MapOf w mp l F) :
    Calls Tryz.prog 19 #[.pointer (some ⟨mp, 0, none⟩), .int .i64 x, .int .i64 z] w fun e w' => e = .returned (.bool true) ∧ w' = w := by
  obtain ⟨v, hrow, hown, _⟩ := h
  obtain ⟨va, vc, rfl, _⟩ := ownI_len hown
  obtain ⟨gb, go, rfl, hc⟩ := ownI_at hown x hx
  rw [hz] at hc
  have c0 : w.cell? ⟨mp, 0, none⟩ = some (.slice (some ⟨gb, go, none⟩) l.length vc) := by rw [cell_row hrow]; rfl
  clear hown hrow hz
  have hxn : (x : Int) < l.length := by omega
  go_enter Tryz.func19, Tryz.ntmps19
  go_wp2
  go_ret
  exact ⟨rfl, rfl⟩

theorem acS_keep {L M : List TermD} (hok : ∀ k, k ≤ L.length → (acS L M k).1.length = k + 1) {i j : Nat} (hj : j ≤ i) : ∀ n, i + n ≤ L.length → (acS L M (i + n)).1.getD j 0 = (acS L M i).1.getD j 0
  | 0, _ => rfl
  | n + 1, hn => by
    have ih := acS_keep hok hj n (by omega)
    have hlen := hok (i + n) (by omega)
    rw [show i + (n + 1) = i + n + 1 by omega, acS_succ (List.getElem?_eq_getElem (by omega : i + n < L.length))]
    unfold acF
    rw [List.getD_eq_getElem?_getD, List.getElem?_append_left (by omega), ← List.getD_eq_getElem?_getD]
    exact ih

theorem acS_at {L M : List TermD} (hok : ∀ k, k ≤ L.length → (acS L M k).1.length = k + 1) {i : Nat} {t : TermD} (hi : L[i]? = some t) : (acS L M L.length).1.getD (i + 1) 0 = makeN (acS L M i).2 (turnT (acS L M i).1 t) := by
  have hlt := (List.getElem?_eq_some_iff.1 hi).1
  have h1 := acS_keep hok (Nat.le_refl (i + 1)) (L.length - (i + 1)) (by omega)
  rw [show i + 1 + (L.length - (i + 1)) = L.length by omega] at h1
  have hlen := hok i (by omega)
  rw [h1, acS_succ hi]
  unfold acF
  rw [List.getD_eq_getElem?_getD, List.getElem?_append_right (by omega), hlen]
  simp
end Go.Proofs.YtagccbpjpcnmeaaGreatDoor

namespace Go.Proofs.YtagccbpjpcnmeaaGreatDoor.Ex
open Go Go.RowKit Go.Proofs.YtagccbpjpcnmeaaGreatDoor

section
variable {g : Given} {B : World} {σ : Sig} {S S' : St} {w : World} {xs : List Value} {v : AVal} {args : List AVal}

def Sig.built (σ : Sig) (s : Nat) (F : Nat → Prop) : Sig := { σ with blk := fun b => if b = 1 then some (s + 1) else if b = 2 then some (s + 2) else σ.blk b, foot := F }
def Sig.crossed (σ : Sig) (mp : Nat) (F : Nat → Prop) : Sig := { σ with blk := fun b => if b = 3 then some mp else σ.blk b, foot := F }

def Sig.give (σ : Sig) (n : Nat) (d : TermD) : Sig := { σ with opq := fun y => if n ≤ y ∧ y < n + 4 then d.vals[y - n]? else σ.opq y }

theorem Sig.le_give {n : Nat} {d : TermD} (h : ∀ x, n ≤ x → σ.opq x = none) : σ.le (σ.give n d) := ⟨fun _ _ h => ⟨h, rfl⟩, fun _ _ h => h, fun k v hk => by
  have : ¬ (n ≤ k ∧ k < n + 4) := fun e => by rw [h k e.1] at hk; cases hk
  simp [Sig.give, this, hk]⟩

theorem give_R {n : Nat} {d : TermD} : R (σ.give n d) (.agg [.opq n, .opq (n + 1), .opq (n + 2), .opq (n + 3)]) (.agg d.arr) := by
  rw [R]
  have one : ∀ j u, j < 4 → d.vals[j]? = some u → R (σ.give n d) (.opq (n + j)) u := fun j u hj hu => by
    rw [R]
    refine ⟨?_, four_one d u (List.mem_of_getElem? hu)⟩
    simp only [Sig.give]
    rw [if_pos (by omega), show n + j - n = j by omega, hu]
  exact ⟨d.vals, .cons (one 0 _ (by omega) rfl) (.cons (one 1 _ (by omega) rfl) (.cons (one 2 _ (by omega) rfl) (.cons (one 3 _ (by omega) rfl) .nil))), rfl⟩

theorem Rep.give (h : Rep g.env (knowC g) B σ S w) {w' : World} (hb : Below w.heap.size w w') (d : TermD) : Rep g.env (knowC g) B (σ.give S.nsym d) { S with nsym := S.nsym + 4 } w' := by
  have hle : σ.le (σ.give S.nsym d) := Sig.le_give fun x hx => (h.free x hx).2
  refine h.outer hle rfl (fun b m hb => .inl hb) (fun i hi _ => hb.block i hi) hb.size ⟨hb.os, hb.tape, hb.output⟩ (fun i hi => ⟨.inl hi, Nat.lt_of_lt_of_le (h.foot i hi).2 hb.size⟩) ?_ ?_ h.syms ?_
  · obtain ⟨⟨b, b0⟩, hterm, hd⟩ := h.base
    exact ⟨⟨hle.opq _ _ b, b0⟩, hterm, hd⟩
  · exact resC_mono σ _ _ w w' hle (fun _ _ => rfl) rfl (fun i hi => hb.block i (h.foot i hi).2) h.res
  · intro x hx
    have hx : S.nsym + 4 ≤ x := hx
    have := h.free x (by omega)
    refine ⟨this.1, ?_⟩
    simp only [Sig.give]
    rw [if_neg (by omega)]
    exact this.2

theorem zero_agg {τ : Sig} : R τ (.agg [.s (.int .u8 0), i0, i0, i0]) (.agg zeroT.arr) := by
  rw [R]
  exact ⟨[.int .u8 0, .int .i64 0, .int .i64 0, .int .i64 0], .cons (int_R _ _ _) (.cons (int_R _ _ _) (.cons (int_R _ _ _) (.cons (int_R _ _ _) .nil))), rfl⟩

theorem Rep.below' (h : Rep g.env (knowC g) B σ S w) {w' : World} (hb : Below w.heap.size w w') : Rep g.env (knowC g) B σ S w' :=
  h.outer (.refl σ) rfl (fun b m hb => .inl hb) (fun i hi _ => hb.block i hi) hb.size ⟨hb.os, hb.tape, hb.output⟩ (fun i hi => ⟨.inl hi, Nat.lt_of_lt_of_le (h.foot i hi).2 hb.size⟩) h.base
    (resC_mono σ _ _ w w' (.refl σ) (fun _ _ => rfl) rfl (fun i hi => hb.block i (h.foot i hi).2) h.res) h.syms h.free

theorem get_zero (L : List TermD) : getT L 0 = zeroT := by unfold getT; rw [zero_there]; rfl

theorem sum_get0 (hf : sGet 0 args S = some (v, S')) (hx : RL σ args xs) (h : Rep g.env (knowC g) B σ S w) : Says g B 52 σ xs w v S' := by
  unfold sGet at hf
  split at hf
  · rename_i p n
    obtain ⟨x, y, hx1, hx2, rfl⟩ := two_of hx
    split at hf
    · rename_i h1 h2
      cases hf
      obtain ⟨rfl, ho, hn⟩ := open_eq (b := true) (c := true) h1
      obtain ⟨m0, m1, F0, F1, L, A, B', ⟨b1, b2, b3⟩, ⟨s1, s2⟩, hap, hft, hL, hc⟩ := ResC.open_ h.res ho
      obtain ⟨m, hm, rfl⟩ := ptr_of hx1
      obtain rfl : m0 = m := Option.some.inj (b1.symm.trans hm)
      obtain ⟨z, rfl, hz⟩ := hc.there hL (by omega) (.inl rfl) h2 hx2
      have hz : thereD A.length z = true := hz
      refine (sget_any m0 F0 A z w s1 (side_len hL hc hn).1).mono ?_
      rintro e w' ⟨rfl, hb⟩
      rw [hz]
      exact ⟨_, rfl, σ.give S.nsym (getT A z), Sig.le_give fun x hx => (h.free x hx).2, pair_R give_R (bool_R _ _), h.give hb _⟩
    · rename_i h1 h2 _
      cases hf
      obtain ⟨rfl, ho, hn⟩ := open_eq (b := true) (c := true) h1
      obtain ⟨m0, m1, F0, F1, L, A, B', ⟨b1, b2, b3⟩, ⟨s1, s2⟩, hap, hft, hL, hc⟩ := ResC.open_ h.res ho
      obtain ⟨m, hm, rfl⟩ := ptr_of hx1
      obtain rfl : m0 = m := Option.some.inj (b1.symm.trans hm)
      obtain rfl := zero_of h2 hx2
      refine (sget_any m0 F0 A 0 w s1 (side_len hL hc hn).1).mono ?_
      rintro e w' ⟨rfl, hb⟩
      rw [zero_there, get_zero]
      exact ⟨_, rfl, σ, .refl σ, pair_R zero_agg (bool_R _ _), h.below' hb⟩
    · cases hf
  · cases hf

theorem sum_get1 (hf : sGet 1 args S = some (v, S')) (hx : RL σ args xs) (h : Rep g.env (knowC g) B σ S w) : Says g B 166 σ xs w v S' := by
  unfold sGet at hf
  split at hf
  · rename_i p n
    obtain ⟨x, y, hx1, hx2, rfl⟩ := two_of hx
    split at hf
    · rename_i h1 h2
      cases hf
      obtain ⟨rfl, ho, hn⟩ := open_eq (b := true) (c := true) h1
      obtain ⟨m0, m1, F0, F1, L, A, B', ⟨b1, b2, b3⟩, ⟨s1, s2⟩, hap, hft, hL, hc⟩ := ResC.open_ h.res ho
      obtain ⟨m, hm, rfl⟩ := ptr_of hx1
      obtain rfl : m1 = m := Option.some.inj (b2.symm.trans hm)
      obtain ⟨z, rfl, hz⟩ := hc.there hL (by omega) (.inr rfl) h2 hx2
      have hz : thereD B'.length z = true := hz
      refine (rget_any m1 F1 B' z w s2 (side_len hL hc hn).2).mono ?_
      rintro e w' ⟨rfl, hb⟩
      rw [hz]
      exact ⟨_, rfl, σ.give S.nsym (getT B' z), Sig.le_give fun x hx => (h.free x hx).2, pair_R give_R (bool_R _ _), h.give hb _⟩
    · rename_i h1 h2 _
      cases hf
      obtain ⟨rfl, ho, hn⟩ := open_eq (b := true) (c := true) h1
      obtain ⟨m0, m1, F0, F1, L, A, B', ⟨b1, b2, b3⟩, ⟨s1, s2⟩, hap, hft, hL, hc⟩ := ResC.open_ h.res ho
      obtain ⟨m, hm, rfl⟩ := ptr_of hx1
      obtain rfl : m1 = m := Option.some.inj (b2.symm.trans hm)
      obtain rfl := zero_of h2 hx2
      refine (rget_any m1 F1 B' 0 w s2 (side_len hL hc hn).2).mono ?_
      rintro e w' ⟨rfl, hb⟩
      rw [zero_there, get_zero]
      exact ⟨_, rfl, σ, .refl σ, pair_R zero_agg (bool_R _ _), h.below' hb⟩
    · cases hf
  · cases hf

theorem sum_lives (hf : sLives args S = some (v, S')) (hx : RL σ args xs) (h : Rep g.env (knowC g) B σ S w) : Says g B 7 σ xs w v S' := by
  unfold sLives at hf
  split at hf
  · cases hf
    obtain rfl := hx.of_nil
    have h1 : 1 ≤ w.heap.size := Nat.le_trans (show 1 ≤ B.heap.size from h.fits) h.size
    refine (lives_ok w h1).mono ?_
    rintro e w' ⟨rfl, ho, hsz, hk⟩
    refine ⟨_, rfl, σ, .refl σ, bool_R _ _, ?_⟩
    exact h.outer (.refl σ) rfl (fun b m hb => .inl hb) (fun i hi _ => hk i hi) hsz ho (fun i hi => ⟨.inl hi, Nat.lt_of_lt_of_le (h.foot i hi).2 hsz⟩) h.base
      (resC_mono σ _ _ w w' (.refl σ) (fun _ _ => rfl) rfl (fun i hi => hk i (h.foot i hi).2) h.res) h.syms h.free
  · cases hf

theorem sum_build {f : Nat → TermD} (hT : Terms B g.a g.n f) (hok : ∀ i, i < g.n → (f i).ok) (hf : sBuild (decide (2000 < g.n)) args S = some (v, S')) (hx : RL σ args xs) (h : Rep g.env (knowC g) B σ S w) : Says g B 8 σ xs w v S' := by
  unfold sBuild at hf
  split at hf
  · rename_i hfar hhist
    cases hf
    simp only [decide_eq_false_iff_not] at hfar
    obtain ⟨x, hx1, rfl⟩ := one_of hx
    rw [R] at hx1
    obtain rfl := Option.some.inj (h.base.1.1.symm.trans hx1.1)
    have hTw : Terms w g.a g.n f := fun i hi => by
      obtain ⟨b, o, e, c0, c1, c2, c3⟩ := hT i hi
      have hlt : b < B.heap.size := World.block_lt_of_cell? B _ c0
      have hh := h.below b hlt
      exact ⟨b, o, e, (World.cell?_of_block (w := B) (a := ⟨b, o + i * 4, none⟩) hh).trans c0, (World.cell?_of_block (w := B) (a := ⟨b, o + i * 4 + 1, none⟩) hh).trans c1, (World.cell?_of_block (w := B) (a := ⟨b, o + i * 4 + 2, none⟩) hh).trans c2, (World.cell?_of_block (w := B) (a := ⟨b, o + i * 4 + 3, none⟩) hh).trans c3⟩
    have hres := h.res
    rw [hhist] at hres
    obtain ⟨hnf, n1, n2, n3⟩ := hres
    refine (build_any g.a g.n g.c f (by omega) hok w hTw).mono ?_
    rintro e w' ⟨rfl, ⟨F, G, hp⟩, hb⟩
    have hle : σ.le (σ.built w.heap.size fun i => F i ∨ G i) := ⟨fun b m hb => by
      have e1 : b ≠ 1 := fun e => by rw [e, n1] at hb; cases hb
      have e2 : b ≠ 2 := fun e => by rw [e, n2] at hb; cases hb
      simp [Sig.built, e1, e2, hb], fun _ _ h => h, fun _ _ h => h⟩
    refine ⟨_, rfl, _, hle, ?_, ?_⟩
    · rw [R]
      exact ⟨[_, _, _], .cons (by rw [R]; exact ⟨_, rfl, rfl⟩) (.cons (by rw [R]; exact ⟨_, rfl, rfl⟩) (.cons (bool_R _ _) .nil)), rfl⟩
    · refine h.outer hle rfl ?_ (fun i hi _ => hb.block i hi) hb.size ⟨hb.os, hb.tape, hb.output⟩ ?_ h.base ?_ h.syms h.free
      · intro b m hbm
        by_cases e1 : b = 1
        · exact .inr (by rw [e1]; show _ < 16; decide)
        · by_cases e2 : b = 2
          · exact .inr (by rw [e2]; show _ < 16; decide)
          · simp only [Sig.built, if_neg e1, if_neg e2] at hbm
            exact .inl hbm
      · rintro i (hi | hi)
        · exact ⟨.inr (hp.lf i hi), hp.ps.lt i hi⟩
        · exact ⟨.inr (hp.lg i hi), hp.rs.lt i hi⟩
      · have hfa := buildL_facts (termsL g.n f) (termsL_ok hok)
        refine Stores.resC (σ := σ.built w.heap.size fun i => F i ∨ G i) (h := [⟨9, [], 0⟩]) ⟨_, _, F, G, _, _, _, ⟨rfl, rfl, n3⟩, ⟨hp.ps, hp.rs⟩, hp.ap, fun i => Iff.rfl, ⟨hfa.1, buildL_may _, ?_⟩, .inl ⟨rfl, rfl, rfl, rfl⟩⟩
        have := hfa.2
        rw [termsL_len] at this
        omega
  · cases hf

theorem sum_across (hf : sAcross args S = some (v, S')) (hx : RL σ args xs) (h : Rep g.env (knowC g) B σ S w) : Says g B 17 σ xs w v S' := by
  unfold sAcross at hf
  split at hf
  · split at hf
    · rename_i h1
      cases hf
      simp only [Bool.and_eq_true] at h1
      obtain ⟨ho, hn⟩ := h1
      have hn : S.hist.length < 900 := Nat.le_of_ble_eq_true hn
      obtain ⟨x, y, hx1, hx2, rfl⟩ := two_of hx
      obtain ⟨m0, m1, F0, F1, L, A, B', ⟨b1, b2, b3⟩, ⟨s1, s2⟩, hap, hft, hL, hc⟩ := ResC.open_ h.res ho
      obtain ⟨m, hm, rfl⟩ := ptr_of hx1
      obtain rfl : m0 = m := Option.some.inj (b1.symm.trans hm)
      obtain ⟨m, hm, rfl⟩ := ptr_of hx2
      obtain rfl : m1 = m := Option.some.inj (b2.symm.trans hm)
      obtain ⟨f1, f2⟩ := hc.fine hL
      refine (across_gen m0 m1 A B' F0 F1 f1.good f1.may f2.good f2.may (by have := f1.len; omega) (by have := f2.len; omega) w s1 s2 hap).mono ?_
      rintro e w' ⟨mp, rfl, hmap, hT⟩
      have hle : σ.le (σ.crossed mp fun i => w.heap.size ≤ i ∧ i < w'.heap.size) := ⟨fun b m hb => by
        have e1 : b ≠ 3 := fun e => by rw [e, b3] at hb; cases hb
        simp [Sig.crossed, e1, hb], fun _ _ h => h, fun _ _ h => h⟩
      refine ⟨_, rfl, _, hle, pair_R (by rw [R]; exact ⟨_, rfl, rfl⟩) (bool_R _ _), ?_⟩
      refine h.outer hle rfl ?_ (fun i hi hn => hT.block i hi fun hF => hn ((hft i).2 (.inr hF))) hT.size ⟨hT.os, hT.tape, hT.output⟩ (fun i hi => ⟨.inr hi.1, hi.2⟩) h.base ?_ h.syms h.free
      · intro b m hbm
        by_cases e1 : b = 3
        · exact .inr (by rw [e1]; show _ < 16; decide)
        · simp only [Sig.crossed, if_neg e1] at hbm
          exact .inl hbm
      · exact ⟨mp, L, A, B', rfl, hmap, hL, hc.mono hle, by omega⟩
    · cases hf
  · cases hf

theorem term_parts {k m a b : AVal} {d : TermD} (h : R σ (.agg [k, m, a, b]) (.agg d.arr)) : R σ k (.int .u8 d.kind) ∧ R σ m (.int .i64 d.n) ∧ R σ a (.int .i64 d.a) ∧ R σ b (.int .i64 d.b) := by
  obtain ⟨l, hl, e⟩ := agg_of h
  obtain ⟨x, y, z, u, h1, h2, h3, h4, rfl⟩ := four_of hl
  simp only [TermD.arr, Value.agg.injEq, List.toArray_eq_iff, Array.mk.injEq, List.cons.injEq, and_true] at e
  obtain ⟨rfl, rfl, rfl, rfl⟩ := e
  exact ⟨h1, h2, h3, h4⟩

theorem corr_ok {L : List TermD} {h : List HEnt} {A B' : List TermD} (hL : Fine 0 L) (hc : Chain σ L h A B') (hn : h.length ≤ 1000) : ∀ (n : Nat) (a b : AVal), corr h n a b = true → ∀ x y, R σ a x → R σ b y →
    ∃ (i : Nat) (z : Int), x = .int .i64 i ∧ y = .int .i64 z ∧ i ≤ A.length ∧ (acS A B' A.length).1.getD i 0 = z
  | 0, a, b, hco, _, _, _, _ => by unfold corr at hco; cases hco
  | n + 1, a, b, hco, x, y, hx, hy => by
    obtain ⟨f1, f2⟩ := hc.fine hL
    have hAl : A.length ≤ 3000 := by have := f1.len; omega
    have hBl : B'.length ≤ 3000 := by have := f2.len; omega
    have hac := acS_ok f1.good f1.may f2.good f2.may (by omega)
    have hlen : ∀ k, k ≤ A.length → (acS A B' k).1.length = k + 1 := fun k hk => (hac k hk).len
    unfold corr at hco
    split at hco
    · cases hco
    · rename_i n' xa xb en
      obtain rfl : n = n' := by omega
      split at hco
      · rename_i k m pa pb k' m' pa' pb' e1 e2
        simp only [Bool.and_eq_true] at hco
        obtain ⟨⟨⟨hk, hm⟩, ha⟩, hb⟩ := hco
        obtain ⟨d, i, g1, g2, g3, g4⟩ := hc.find0 hL hn e1
        obtain ⟨d', j, g1', g2', g3', g4'⟩ := hc.find1 hL hn e2
        obtain ⟨p1, p2, p3, p4⟩ := term_parts g2
        obtain ⟨q1, q2, q3, q4⟩ := term_parts g2'
        rw [AVal.eqv_eq _ _ hk] at p1
        rw [AVal.eqv_eq _ _ hm] at p2
        have ek := int_det p1 q1
        have en := int_det p2 q2
        obtain ⟨ia, za, r1, r2, r3, r4⟩ := corr_ok hL hc hn n pa pa' ha _ _ p3 q3
        obtain ⟨ib, zb, t1, t2, t3, t4⟩ := corr_ok hL hc hn n pb pb' hb _ _ p4 q4
        have r1 : d.a = ia := by injection r1
        have r2 : d'.a = za := by injection r2
        have t1 : d.b = ib := by injection t1
        have t2 : d'.b = zb := by injection t2
        have hi := (List.getElem?_eq_some_iff.1 g1).1
        have hpr := f1.good.parts i d g1
        have hai := hac i (by omega)
        have ka := acS_keep hlen (show ia ≤ i by omega) (A.length - i) (by omega)
        have kb := acS_keep hlen (show ib ≤ i by omega) (A.length - i) (by omega)
        rw [show i + (A.length - i) = A.length by omega] at ka kb
        have htu : turnT (acS A B' i).1 d = d' := by
          have ea : (acS A B' i).1.getD d.a.toNat 0 = d'.a := by rw [r1, Int.toNat_natCast, ← ka, r4, r2]
          have eb : (acS A B' i).1.getD d.b.toNat 0 = d'.b := by rw [t1, Int.toNat_natCast, ← kb, t4, t2]
          unfold turnT
          rw [ea, eb, ek, en]
        obtain ⟨y1, _⟩ := hai.turn g3 (f1.may d (List.mem_of_getElem? g1)) hpr.1.2 hpr.2.2 (by omega)
        rw [htu] at y1
        have hmk := (make_there hai.good (pre_at hai.pre g1') y1).1
        have hat := acS_at hlen g1
        rw [htu, hmk] at hat
        obtain ⟨z1, s1, rfl⟩ := sym_of hx
        obtain ⟨z2, s2, rfl⟩ := sym_of hy
        obtain rfl := Option.some.inj (s1.symm.trans g4)
        obtain rfl := Option.some.inj (s2.symm.trans g4')
        exact ⟨i + 1, _, by simp, rfl, by omega, hat⟩
      · cases hco
    · simp only [Bool.and_eq_true] at hco
      obtain rfl := zero_of hco.1 hx
      obtain rfl := zero_of hco.2 hy
      exact ⟨0, 0, rfl, rfl, Nat.zero_le _, (hac A.length (Nat.le_refl _)).zero⟩

theorem sum_same (hf : sSame args S = some (v, S')) (hx : RL σ args xs) (h : Rep g.env (knowC g) B σ S w) : Says g B 19 σ xs w v S' := by
  unfold sSame at hf
  split at hf
  · rename_i a b e l hhist
    split at hf
    · rename_i h1
      cases hf
      simp only [Bool.and_eq_true] at h1
      obtain ⟨h8, hco⟩ := h1
      have h8 : e.st = 8 := Nat.eq_of_beq_eq_true h8
      have hres := h.res
      rw [hhist] at hres
      have hres : (if e.st = 8 then Gone σ l w else Stores σ (e :: l) w) := hres
      rw [if_pos h8] at hres
      obtain ⟨mp, L, A, B', b3, hmap, hL, hc, hn⟩ := hres
      obtain ⟨x, y, z, hx1, hx2, hx3, rfl⟩ := three_of hx
      obtain ⟨m, hm, rfl⟩ := ptr_of hx1
      obtain rfl : mp = m := Option.some.inj (b3.symm.trans hm)
      obtain ⟨i, z, rfl, rfl, hi, hat⟩ := corr_ok hL hc hn 200 a b hco _ _ hx2 hx3
      obtain ⟨f1, f2⟩ := hc.fine hL
      have hl1 := f1.len
      have hl2 := f2.len
      have hlen := (acS_ok f1.good f1.may f2.good f2.may (by omega) A.length (Nat.le_refl _)).len
      refine (same_gen mp i z _ σ.foot (by omega) hat (by omega) w hmap).mono ?_
      rintro e w' ⟨rfl, rfl⟩
      exact ⟨_, rfl, σ, .refl σ, bool_R _ _, h⟩
    · cases hf
  · cases hf
end
end Go.Proofs.YtagccbpjpcnmeaaGreatDoor.Ex
