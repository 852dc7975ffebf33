/-
  ClientOpens by the executor: the stores' methods do what is said of them.
-/
import Derived.Test.YtagccbpjpcnmeaaGreatDoorSyT
set_option linter.unusedVariables false
set_option linter.unusedSimpArgs false
namespace Go.Proofs.YtagccbpjpcnmeaaGreatDoor.Ex
open Go Go.RowKit Go.Proofs.YtagccbpjpcnmeaaGreatDoor

section
variable {g : Given} {B : World} {σ : Sig} {S S' : St} {w : World} {xs : List Value} {v : AVal} {args : List AVal} {bd : Bool}

/-- What is said of a call. -/
def Says (g : Given) (B : World) (f : FuncId) (σ : Sig) (xs : List Value) (w : World) (v : AVal) (S' : St) : Prop :=
  Calls Tryz.prog f xs.toArray w fun e w' => ∃ u, e = .returned u ∧ ∃ τ, σ.le τ ∧ R τ v u ∧ Rep g.env (knowC g) B τ S' w'

theorem int_R' {τ : Sig} {n : Nat} {z : Int} (h : τ.sym n = some z) : R τ (.sym .i64 n) (.int .i64 z) := by rw [R]; exact ⟨z, h, rfl⟩
theorem pair_R {τ : Sig} {a b : AVal} {x y : Value} (h : R τ a x) (h' : R τ b y) : R τ (.tuple [a, b]) (.tuple #[x, y]) := by
  rw [R]
  exact ⟨[x, y], .cons h (.cons h' .nil), rfl⟩

theorem open_eq {h : List HEnt} {p q : Nat} {b c : Bool} (hb : (Nat.beq p q && open_ h && Nat.blt h.length 900) = true) : p = q ∧ open_ h = true ∧ h.length < 900 := by
  simp only [Bool.and_eq_true] at hb
  refine ⟨Nat.eq_of_beq_eq_true hb.1.1, hb.1.2, ?_⟩
  have := hb.2
  unfold Nat.blt at this
  exact Nat.le_of_ble_eq_true this

theorem sum_make0 (hf : sMake (decide (g.draw < 0)) 0 args S = some (v, S')) (hx : RL σ args xs) (h : Rep g.env (knowC g) B σ S w) : Says g B 26 σ xs w v S' := by
  unfold sMake at hf
  split at hf
  · rename_i p t
    split at hf
    · rename_i h1 h2
      cases hf
      obtain ⟨rfl, ho, hn⟩ := open_eq (b := true) (c := true) h1
      obtain ⟨x, y, hx1, hx2, rfl⟩ := two_of hx
      obtain ⟨m0, m1, F0, F1, L, A, B', ⟨b1, b2, b3⟩, ⟨s1, s2⟩, hap, hft, hL, hc⟩ := ResC.open_ h.res ho
      obtain ⟨m, hm, rfl⟩ := ptr_of hx1
      obtain rfl : m0 = m := Option.some.inj (b1.symm.trans hm)
      obtain ⟨l, hl, rfl⟩ := agg_of hx2
      obtain ⟨d, rfl, hd, hmay⟩ := mayA_ok h.base h.syms hL hc (by omega) (.inl rfl) h2 hl
      have hmay : mayD A.length d = true := hmay
      have hfi := (hc.fine hL).1
      have hA : A.length < 1048576 := by have := hfi.len; omega
      have hmk := make_ok hmay hA
      have hbd := there_bounds hmk.2
      have hml := makeL_len A d
      refine (smake_any m0 F0 A d hd hfi.good hA w s1).mono ?_
      rintro e w' ⟨rfl, F0', hext, hst, hT⟩
      rw [hmk.1]
      refine ⟨_, rfl, σ.more S.nsym (makeN A d) (fun i => F0' i ∨ F1 i), Sig.le_more (h.free _ (Nat.le_refl _)).1, pair_R (int_R' (by simp [Sig.more])) (int_R _ _ _), ?_⟩
      have hle := Sig.le_more (z := makeN A d) (F := fun i => F0' i ∨ F1 i) (h.free S.nsym (Nat.le_refl _)).1
      refine h.more (by omega) (fun i hi hn => hT.block i hi fun hF => hn ((hft i).2 (.inl hF))) hT.size ⟨hT.os, hT.tape, hT.output⟩ ?_ ?_
      · rintro i (hi | hi)
        · refine ⟨?_, hst.lt i hi⟩
          rcases hext i hi with h3 | h3
          · exact .inl ((hft i).2 (.inl h3))
          · exact .inr h3.1
        · exact ⟨.inl ((hft i).2 (.inr hi)), Nat.lt_of_lt_of_le (s2.lt i hi) hT.size⟩
      · refine Stores.resC ⟨m0, m1, F0', F1, L, makeL A d, B', ⟨b1, b2, b3⟩, ⟨hst, s2.kept hT fun k hk hf => hap k hf hk⟩, ?_, fun i => Iff.rfl, hL, .inr (.inl ⟨rfl, A, d, hc.mono hle, ?_, hd, hmay, rfl, ?_⟩)⟩
        · intro k hk hk'
          rcases hext k hk with h3 | h3
          · exact hap k h3 hk'
          · have := s2.lt k hk'; omega
        · exact R.mono hle hx2
        · simp [Sig.more]
    · cases hf
  · cases hf

theorem sum_make1 (hf : sMake (decide (g.draw < 0)) 1 args S = some (v, S')) (hx : RL σ args xs) (h : Rep g.env (knowC g) B σ S w) : Says g B 27 σ xs w v S' := by
  unfold sMake at hf
  split at hf
  · rename_i p t
    split at hf
    · rename_i h1 h2
      cases hf
      obtain ⟨rfl, ho, hn⟩ := open_eq (b := true) (c := true) h1
      obtain ⟨x, y, hx1, hx2, rfl⟩ := two_of hx
      obtain ⟨m0, m1, F0, F1, L, A, B', ⟨b1, b2, b3⟩, ⟨s1, s2⟩, hap, hft, hL, hc⟩ := ResC.open_ h.res ho
      obtain ⟨m, hm, rfl⟩ := ptr_of hx1
      obtain rfl : m1 = m := Option.some.inj (b2.symm.trans hm)
      obtain ⟨l, hl, rfl⟩ := agg_of hx2
      obtain ⟨d, rfl, hd, hmay⟩ := mayA_ok h.base h.syms hL hc (by omega) (.inr rfl) h2 hl
      have hmay : mayD B'.length d = true := hmay
      have hfi := (hc.fine hL).2
      have hA : B'.length < 1048576 := by have := hfi.len; omega
      have hmk := make_ok hmay hA
      have hbd := there_bounds hmk.2
      have hml := makeL_len B' d
      refine (rmake_any m1 F1 B' d hd hfi.good hA w s2).mono ?_
      rintro e w' ⟨rfl, F1', hext, hst, hT⟩
      rw [hmk.1]
      refine ⟨_, rfl, σ.more S.nsym (makeN B' d) (fun i => F0 i ∨ F1' i), Sig.le_more (h.free _ (Nat.le_refl _)).1, pair_R (int_R' (by simp [Sig.more])) (int_R _ _ _), ?_⟩
      have hle := Sig.le_more (z := makeN B' d) (F := fun i => F0 i ∨ F1' i) (h.free S.nsym (Nat.le_refl _)).1
      refine h.more (by omega) (fun i hi hn => hT.block i hi fun hF => hn ((hft i).2 (.inr hF))) hT.size ⟨hT.os, hT.tape, hT.output⟩ ?_ ?_
      · rintro i (hi | hi)
        · exact ⟨.inl ((hft i).2 (.inl hi)), Nat.lt_of_lt_of_le (s1.lt i hi) hT.size⟩
        · refine ⟨?_, hst.lt i hi⟩
          rcases hext i hi with h3 | h3
          · exact .inl ((hft i).2 (.inr h3))
          · exact .inr h3.1
      · refine Stores.resC ⟨m0, m1, F0, F1', L, A, makeL B' d, ⟨b1, b2, b3⟩, ⟨s1.kept hT fun k hk hf => hap k hk hf, hst⟩, ?_, fun i => Iff.rfl, hL, .inr (.inr ⟨rfl, B', d, hc.mono hle, ?_, hd, hmay, rfl, ?_⟩)⟩
        · intro k hk hk'
          rcases hext k hk' with h3 | h3
          · exact hap k hk h3
          · have := s1.lt k hk; omega
        · exact R.mono hle hx2
        · simp [Sig.more]
    · cases hf
  · cases hf

theorem side_len {h : List HEnt} {L A B' : List TermD} (hL : Fine 0 L) (hc : Chain σ L h A B') (hn : h.length < 900) : A.length ≤ 2000000 ∧ B'.length ≤ 2000000 := by
  obtain ⟨h1, h2⟩ := hc.fine hL
  have := h1.len
  have := h2.len
  omega

theorem zero_there (n : Nat) : thereD n 0 = false := by simp [thereD]

theorem sum_there0 (hf : sThere 0 args S = some (v, S')) (hx : RL σ args xs) (h : Rep g.env (knowC g) B σ S w) : Says g B 112 σ xs w v S' := by
  unfold sThere at hf
  split at hf
  · rename_i p n
    obtain ⟨x, y, hx1, hx2, rfl⟩ := two_of hx
    split at hf
    · rename_i h1 h2
      cases hf
      obtain ⟨rfl, ho, hn⟩ := open_eq (b := true) (c := true) h1
      obtain ⟨m0, m1, F0, F1, L, A, B', ⟨b1, b2, b3⟩, ⟨s1, s2⟩, hap, hft, hL, hc⟩ := ResC.open_ h.res ho
      obtain ⟨m, hm, rfl⟩ := ptr_of hx1
      obtain rfl : m0 = m := Option.some.inj (b1.symm.trans hm)
      obtain ⟨z, rfl, hz⟩ := hc.there hL (by omega) (.inl rfl) h2 hx2
      have hz : thereD A.length z = true := hz
      refine (sthere_any m0 F0 A z w s1 (side_len hL hc hn).1).mono ?_
      rintro e w' ⟨rfl, rfl⟩
      rw [hz]
      exact ⟨_, rfl, σ, .refl σ, bool_R _ _, h⟩
    · rename_i h1 h2 _
      cases hf
      obtain ⟨rfl, ho, hn⟩ := open_eq (b := true) (c := true) h1
      obtain ⟨m0, m1, F0, F1, L, A, B', ⟨b1, b2, b3⟩, ⟨s1, s2⟩, hap, hft, hL, hc⟩ := ResC.open_ h.res ho
      obtain ⟨m, hm, rfl⟩ := ptr_of hx1
      obtain rfl : m0 = m := Option.some.inj (b1.symm.trans hm)
      obtain rfl := zero_of h2 hx2
      refine (sthere_any m0 F0 A 0 w s1 (side_len hL hc hn).1).mono ?_
      rintro e w' ⟨rfl, rfl⟩
      rw [zero_there]
      exact ⟨_, rfl, σ, .refl σ, bool_R _ _, h⟩
    · cases hf
  · cases hf

theorem sum_there1 (hf : sThere 1 args S = some (v, S')) (hx : RL σ args xs) (h : Rep g.env (knowC g) B σ S w) : Says g B 120 σ xs w v S' := by
  unfold sThere at hf
  split at hf
  · rename_i p n
    obtain ⟨x, y, hx1, hx2, rfl⟩ := two_of hx
    split at hf
    · rename_i h1 h2
      cases hf
      obtain ⟨rfl, ho, hn⟩ := open_eq (b := true) (c := true) h1
      obtain ⟨m0, m1, F0, F1, L, A, B', ⟨b1, b2, b3⟩, ⟨s1, s2⟩, hap, hft, hL, hc⟩ := ResC.open_ h.res ho
      obtain ⟨m, hm, rfl⟩ := ptr_of hx1
      obtain rfl : m1 = m := Option.some.inj (b2.symm.trans hm)
      obtain ⟨z, rfl, hz⟩ := hc.there hL (by omega) (.inr rfl) h2 hx2
      have hz : thereD B'.length z = true := hz
      refine (rthere_any m1 F1 B' z w s2 (side_len hL hc hn).2).mono ?_
      rintro e w' ⟨rfl, rfl⟩
      rw [hz]
      exact ⟨_, rfl, σ, .refl σ, bool_R _ _, h⟩
    · rename_i h1 h2 _
      cases hf
      obtain ⟨rfl, ho, hn⟩ := open_eq (b := true) (c := true) h1
      obtain ⟨m0, m1, F0, F1, L, A, B', ⟨b1, b2, b3⟩, ⟨s1, s2⟩, hap, hft, hL, hc⟩ := ResC.open_ h.res ho
      obtain ⟨m, hm, rfl⟩ := ptr_of hx1
      obtain rfl : m1 = m := Option.some.inj (b2.symm.trans hm)
      obtain rfl := zero_of h2 hx2
      refine (rthere_any m1 F1 B' 0 w s2 (side_len hL hc hn).2).mono ?_
      rintro e w' ⟨rfl, rfl⟩
      rw [zero_there]
      exact ⟨_, rfl, σ, .refl σ, bool_R _ _, h⟩
    · cases hf
  · cases hf

theorem sum_made (hf : sMade args S = some (v, S')) (hx : RL σ args xs) (h : Rep g.env (knowC g) B σ S w) : Says g B 32 σ xs w v S' := by
  unfold sMade at hf
  split at hf
  · obtain ⟨x, hx1, rfl⟩ := one_of hx
    split at hf
    · rename_i ho
      cases hf
      obtain ⟨m0, m1, F0, F1, L, A, B', ⟨b1, b2, b3⟩, ⟨s1, s2⟩, hap, hft, hL, hc⟩ := ResC.open_ h.res ho
      obtain ⟨m, hm, rfl⟩ := ptr_of hx1
      obtain rfl : m0 = m := Option.some.inj (b1.symm.trans hm)
      refine (smade_any m0 F0 A w s1).mono ?_
      rintro e w' ⟨rfl, rfl⟩
      exact ⟨_, rfl, σ, .refl σ, bool_R _ _, h⟩
    · cases hf
  · cases hf
    obtain ⟨x, hx1, rfl⟩ := one_of hx
    obtain rfl := lit_of hx1
    refine (smade_nil w).mono ?_
    rintro e w' ⟨rfl, rfl⟩
    exact ⟨_, rfl, σ, .refl σ, bool_R _ _, h⟩
  · cases hf
end
end Go.Proofs.YtagccbpjpcnmeaaGreatDoor.Ex
