/- phratrylaw01's Book: Apart answers true. -/
import Derived.Test.YtedpljclnpiggaaGreatDoorV46
import Derived.Test.YtedpljclnpiggaaGreatDoorV44
import Derived.Test.YtedpljclnpiggaaGreatDoorV47
set_option linter.unusedVariables false
set_option linter.unusedSimpArgs false
set_option maxRecDepth 100000
set_option maxHeartbeats 12800000
namespace Go.Proofs.YtedpljclnpiggaaGreatDoor
section
open Go Go.RowKit
theorem updF_updF {α : Type} (f : Nat → α) (i : Nat) (x y : α) : updF (updF f i x) i y = updF f i y := by
 funext k
 by_cases h : k = i
 · subst h; rw [uSm, uSm]
 · rw [uOt h, uOt h, uOt h]
theorem updF_self {α : Type} (f : Nat → α) (i : Nat) : updF f i (f i) = f := by
 funext k
 by_cases h : k = i
 · subst h; rw [uSm]
 · rw [uOt h]
def KindAt (ht et : TypeId) (sz : Nat) (mk : Nat → List Value) (w : World) (v : Value) (n0 m : Nat) (P : Nat → Prop) (Kb : Nat) (full : Bool) : Prop :=
 (m = 0 ∧ v = .slice none 0 0) ∨
 ∃ g cap V K X, v = .slice (some ⟨g, 0, none⟩) m cap ∧ HeldR ht et sz w g n0 m V K X ∧ (∀ k, HFoot g m V k → P k) ∧ (∀ i, i < m → K i ≤ Kb) ∧ (full = true → ∀ i, i < m → X i = marksV (mk (n0 + i)) (K i))
theorem KindAt.kept {ht et : TypeId} {sz : Nat} {mk : Nat → List Value} {w w' : World} {v : Value} {n0 m : Nat} {P G : Nat → Prop} {Kb : Nat} {full : Bool} (h : KindAt ht et sz mk w v n0 m P Kb full) (hT : Turned G w w') (hd : ∀ k, P k → ¬ G k) : KindAt ht et sz mk w' v n0 m P Kb full := by
 rcases h with h | ⟨g, cap, V, K, X, e, hh, hP, hK, hX⟩
 · exact .inl h
 · exact .inr ⟨g, cap, V, K, X, e, hh.kept hT (fun k hk => hd k (hP k hk)), hP, hK, hX⟩
def bkHt : Nat → TypeId | 0 => 199 | 1 => 196 | 2 => 194 | _ => 296
def bkEt : Nat → TypeId | 0 => 3 | 1 => 143 | 2 => 123 | _ => 125
def bkSz : Nat → Nat | 0 => 1 | 1 => 3 | 2 => 2 | _ => 4
def bkMk : Nat → Nat → List Value | 0 => mkNumber | 1 => mkSeal | 2 => mkKey | _ => mkNode
def bookM (n : Int) (v : Nat → Value) : Array Value :=
 #[.int .i64 n, .slice none 0 0, v 0, .slice none 0 0, .slice none 0 0, .slice none 0 0, v 1, v 2, .slice none 0 0, .slice none 0 0, .slice none 0 0, .slice none 0 0, .slice none 0 0, .slice none 0 0, .slice none 0 0,
  .slice none 0 0, .slice none 0 0, .slice none 0 0, .slice none 0 0, v 3, .slice none 0 0, .slice none 0 0, .slice none 0 0, .slice none 0 0, .slice none 0 0, .slice none 0 0, .slice none 0 0, .slice none 0 0, .slice none 0 0, .slice none 0 0,
  .slice none 0 0, .slice none 0 0, .slice none 0 0, .slice none 0 0, .slice none 0 0]
abbrev BookM (w : World) (b : Nat) (n : Int) (v : Nat → Value) : Prop := w.heap[b]? = some (.cells (bookM n v) 96 (0, 0))
structure BkSt (B : Nat) (w : World) (b : Nat) (n : Int) (v : Nat → Value) (n0 m : Nat → Nat) (P : Nat → Nat → Prop) (Kb : Nat → Nat) (full : Nat → Bool) : Prop where
 row : BookM w b n v
 kind : ∀ j, j < 4 → KindAt (bkHt j) (bkEt j) (bkSz j) (bkMk j) w (v j) (n0 j) (m j) (P j) (Kb j) (full j)
 lt : ∀ j, j < 4 → ∀ k, P j k → k < w.heap.size
 low : ∀ j, j < 4 → ∀ k, P j k → B ≤ k
 bB : B ≤ b
 nb : ∀ j, j < 4 → ¬ P j b
 dis : ∀ i j, i < 4 → j < 4 → i ≠ j → ∀ k, P i k → ¬ P j k
theorem BkSt.blt {B : Nat} {w : World} {b : Nat} {n : Int} {v : Nat → Value} {n0 m : Nat → Nat} {P : Nat → Nat → Prop} {Kb : Nat → Nat} {full : Nat → Bool} (h : BkSt B w b n v n0 m P Kb full) : b < w.heap.size := (Array.getElem?_eq_some_iff.1 h.row).1
theorem BkSt.step {B : Nat} {w w' : World} {b : Nat} {n : Int} {v : Nat → Value} {n0 m : Nat → Nat} {P : Nat → Nat → Prop} {Kb : Nat → Nat} {full : Nat → Bool} (h : BkSt B w b n v n0 m P Kb full) {j : Nat} (hj : j < 4) {Q : Nat → Prop} {kb : Nat} {fl : Bool}
    (hT : Turned (P j) w w') (hx : Ext (P j) Q w w') (hQ : ∀ k, Q k → k < w'.heap.size) (hkd : KindAt (bkHt j) (bkEt j) (bkSz j) (bkMk j) w' (v j) (n0 j) (m j) Q kb fl) :
    BkSt B w' b n v n0 m (updF P j Q) (updF Kb j kb) (updF full j fl) := by
 have hPQ : ∀ i, i < 4 → i ≠ j → ∀ k, P i k → ¬ Q k := fun i hi hne k hp hq => by
  rcases hx k hq with h1 | h1
  · exact h.dis i j hi hj hne k hp h1
  · have := h.lt i hi k hp; omega
 refine ⟨(hT.block b h.blt (h.nb j hj)).trans h.row, fun i hi => ?_, fun i hi k hk => ?_, fun i hi k hk => ?_, h.bB, fun i hi => ?_, fun i i' hi hi' hne k hk => ?_⟩
 · by_cases e : i = j
   · subst e; rw [uSm, uSm, uSm]; exact hkd
   · rw [uOt e, uOt e, uOt e]
     exact (h.kind i hi).kept hT (h.dis i j hi hj e)
 · by_cases e : i = j
   · subst e; rw [uSm] at hk; exact hQ k hk
   · rw [uOt e] at hk
     exact Nat.lt_of_lt_of_le (h.lt i hi k hk) hT.size
 · by_cases e : i = j
   · subst e
     rw [uSm] at hk
     rcases hx k hk with h1 | h1
     · exact h.low i hi k h1
     · have := h.blt; have := h.bB; omega
   · rw [uOt e] at hk
     exact h.low i hi k hk
 · by_cases e : i = j
   · subst e; rw [uSm]
     intro hq
     rcases hx b hq with h1 | h1
     · exact h.nb i hi h1
     · have := h.blt; omega
   · rw [uOt e]; exact h.nb i hi
 · by_cases e : i = j
   · subst e
     rw [uSm] at hk
     rw [uOt (Ne.symm hne)]
     exact fun hp => hPQ i' hi' (Ne.symm hne) k hp hk
   · rw [uOt e] at hk
     by_cases e' : i' = j
     · subst e'
       rw [uSm]
       exact hPQ i hi e k hk
     · rw [uOt e']
       exact h.dis i i' hi hi' hne k hk
theorem BkSt.same {B : Nat} {w w' : World} {b : Nat} {n : Int} {v : Nat → Value} {n0 m : Nat → Nat} {P : Nat → Nat → Prop} {Kb : Nat → Nat} {full : Nat → Bool} (h : BkSt B w b n v n0 m P Kb full) (hb : Below w.heap.size w w') : BkSt B w' b n v n0 m P Kb full :=
 ⟨(hb.block b h.blt).trans h.row, fun i hi => (h.kind i hi).kept (Turned.new (fun _ => False) hb) (fun _ _ h => h), fun i hi k hk => Nat.lt_of_lt_of_le (h.lt i hi k hk) hb.size, h.low, h.bB, h.nb, h.dis⟩
theorem held_row {ht et : TypeId} {sz : Nat} {w : World} {b n0 m : Nat} {v : Value} {V : Nat → Value} (hm : 0 < m) (h : w.ownsRow b ht 2 v m ((List.range m).flatMap fun i => [V i, .int .i64 ((n0 + i : Nat) : Int)])) {K : Nat → Nat} {X : Nat → List Value} (hown : ∀ i, i < m → w.ownsRow 0 et sz (V i) (K i) (X i))
    (hap : ∀ i j, i < m → j < m → i ≠ j → ∀ x, (V i).ownBlock = some x → (V j).ownBlock ≠ some x) (hne : ∀ i, i < m → ∀ x, (V i).ownBlock = some x → x < b) :
    ∃ g cap, v = .slice (some ⟨g, 0, none⟩) m cap ∧ b ≤ g ∧ HeldR ht et sz w g n0 m V K X := by
 rcases h.2 with ⟨_, h0⟩ | ⟨g, cap, cur, rfl, hg, hh, hn, hmx, hs, ht'⟩
 · omega
 · refine ⟨g, cap, rfl, hg, ⟨cur, hh, fun i hi => ?_⟩, hown, hap, fun i hi e => by have := hne i hi g e; omega⟩
   have hc : ∀ j, j < 2 → cur[i * 2 + j]? = ([V i, .int .i64 ((n0 + i : Nat) : Int)] : List Value)[j]? := fun j hj => by
    rw [← flat_get (fun i => ([V i, .int .i64 ((n0 + i : Nat) : Int)] : List Value)) 2 (fun _ => rfl) m i j hi hj, ← ht', List.getElem?_take, if_pos (by omega), Array.getElem?_toList]
   exact ⟨hc 0 (by omega), hc 1 (by omega)⟩
end
section
open Go Go.RowKit
theorem kfillNumber (B b : Nat) (n : Int) (v : Nat → Value) (n0 m : Nat → Nat) (P : Nat → Nat → Prop) (Kb : Nat → Nat) (full : Nat → Bool) (w : World) (h : BkSt B w b n v n0 m P Kb full) (hn : n0 0 + m 0 ≤ 1000) (hK : Kb 0 ≤ 100000) :
    Calls Tryz.prog 70 #[.pointer (some ⟨b, 0, none⟩)] w fun e w' => e = .returned (.tuple #[]) ∧ BkSt B w' b n v n0 m P Kb (updF full 0 true) ∧ Below B w w' := by
 have hB : B ≤ w.heap.size := Nat.le_of_lt (Nat.lt_of_le_of_lt h.bB h.blt)
 have hc : w.cell? ⟨b, 2, none⟩ = some (v 0) := (cRw h.row 2).trans rfl
 have hkd : KindAt 199 3 1 mkNumber w (v 0) (n0 0) (m 0) (P 0) (Kb 0) (full 0) := h.kind 0 (by omega)
 rcases hkd with ⟨hm, hv⟩ | ⟨g, cap, V, K, X, hv, hh, hP, hKb, hX⟩
 · rw [hv] at hc
   refine (fillNumber_nil b w hc).mono ?_
   rintro e w' ⟨rfl, rfl⟩
   have hs := h.step (j := 0) (by omega) (Turned.refl _ _) (Ext.refl _ _ _) (h.lt 0 (by omega)) (kb := Kb 0) (fl := true) (.inl ⟨hm, hv⟩)
   rw [updF_self, updF_self] at hs
   exact ⟨rfl, hs, Below.refl _ _⟩
 · rw [hv] at hc
   refine (fillNumber_any b g (n0 0) (m 0) cap V K X hn (fun i hi => Nat.le_trans (hKb i hi) hK) w hc (fun hf => h.nb 0 (by omega) (hP b hf)) hh).mono ?_
   rintro e w' ⟨rfl, h2, hT⟩
   have hT2 : Turned (P 0) w w' := hT.mono (fun k _ hk => hP k hk)
   have hs := h.step (j := 0) (by omega) hT2 (Ext.refl _ _ _) (fun k hk => Nat.lt_of_lt_of_le (h.lt 0 (by omega) k hk) hT.size) (kb := Kb 0) (fl := true) (.inr ⟨g, cap, V, K, _, hv, h2, hP, hKb, fun _ i hi => rfl⟩)
   rw [updF_self, updF_self] at hs
   exact ⟨rfl, hs, hT2.below hB (h.low 0 (by omega))⟩
theorem kgrowNumber (B b : Nat) (n : Int) (v : Nat → Value) (n0 m : Nat → Nat) (P : Nat → Nat → Prop) (Kb : Nat → Nat) (full : Nat → Bool) (w : World) (h : BkSt B w b n v n0 m P Kb full) (hn : n0 0 + m 0 ≤ 1000) (hK : Kb 0 ≤ 100000) (hfl : full 0 = true) :
    Calls Tryz.prog 103 #[.pointer (some ⟨b, 0, none⟩)] w fun e w' => e = .returned (.tuple #[]) ∧ ∃ Q, BkSt B w' b n v n0 m (updF P 0 Q) (updF Kb 0 (Kb 0 + 3)) full ∧ Below B w w' := by
 have hB : B ≤ w.heap.size := Nat.le_of_lt (Nat.lt_of_le_of_lt h.bB h.blt)
 have hc : w.cell? ⟨b, 2, none⟩ = some (v 0) := (cRw h.row 2).trans rfl
 have hkd : KindAt 199 3 1 mkNumber w (v 0) (n0 0) (m 0) (P 0) (Kb 0) (full 0) := h.kind 0 (by omega)
 rcases hkd with ⟨hm, hv⟩ | ⟨g, cap, V, K, X, hv, hh, hP, hKb, hX⟩
 · rw [hv] at hc
   refine (growNumber_nil b w hc).mono ?_
   rintro e w' ⟨rfl, rfl⟩
   have hs := h.step (j := 0) (by omega) (Turned.refl _ _) (Ext.refl _ _ _) (h.lt 0 (by omega)) (kb := Kb 0 + 3) (fl := full 0) (.inl ⟨hm, hv⟩)
   rw [updF_self full] at hs
   exact ⟨rfl, _, hs, Below.refl _ _⟩
 · rw [hv] at hc
   refine (growNumber_any b g (n0 0) (m 0) cap V K hn (fun i hi => Nat.le_trans (hKb i hi) hK) w hc (fun hf => h.nb 0 (by omega) (hP b hf)) (hh.congr (fun _ _ => rfl) (fun i hi => (hX hfl i hi).symm))).mono ?_
   rintro e w' ⟨rfl, V2, K2, h2, hK2, hT, hx⟩
   have hT2 : Turned (P 0) w w' := hT.mono (fun k _ hk => hP k hk)
   have hs := h.step (j := 0) (by omega) (Q := HFoot g (m 0) V2) hT2 (fun k hk => (hx k hk).imp (hP k) id) h2.lt (kb := Kb 0 + 3) (fl := full 0) (.inr ⟨g, cap, V2, K2, _, hv, h2, fun k hk => hk, fun i hi => Nat.le_trans (hK2 i hi) (Nat.add_le_add_right (hKb i hi) 3), fun _ i hi => rfl⟩)
   rw [updF_self full] at hs
   exact ⟨rfl, _, hs, hT2.below hB (h.low 0 (by omega))⟩
theorem klookNumber (B b : Nat) (n : Int) (v : Nat → Value) (n0 m : Nat → Nat) (P : Nat → Nat → Prop) (Kb : Nat → Nat) (full : Nat → Bool) (w : World) (h : BkSt B w b n v n0 m P Kb full) (hn : n0 0 + m 0 ≤ 1000) (hK : Kb 0 ≤ 100010) (hfl : full 0 = true) :
    Calls Tryz.prog 137 #[.pointer (some ⟨b, 0, none⟩)] w fun e w' => e = .returned (.bool true) ∧ BkSt B w' b n v n0 m P Kb full ∧ Below B w w' := by
 have hB : B ≤ w.heap.size := Nat.le_of_lt (Nat.lt_of_le_of_lt h.bB h.blt)
 have hc : w.cell? ⟨b, 2, none⟩ = some (v 0) := (cRw h.row 2).trans rfl
 have hkd : KindAt 199 3 1 mkNumber w (v 0) (n0 0) (m 0) (P 0) (Kb 0) (full 0) := h.kind 0 (by omega)
 rcases hkd with ⟨hm, hv⟩ | ⟨g, cap, V, K, X, hv, hh, hP, hKb, hX⟩
 · rw [hv] at hc
   refine (lookNumber_nil b w hc).mono ?_
   rintro e w' ⟨rfl, rfl⟩
   exact ⟨rfl, h, Below.refl _ _⟩
 · rw [hv] at hc
   refine (lookNumber_any b g (n0 0) (m 0) cap V K hn (fun i hi => Nat.le_trans (hKb i hi) hK) w hc (hh.congr (fun _ _ => rfl) (fun i hi => (hX hfl i hi).symm))).mono ?_
   rintro e w' ⟨rfl, hb⟩
   exact ⟨rfl, h.same hb, hb.mono hB⟩
theorem kfillSeal (B b : Nat) (n : Int) (v : Nat → Value) (n0 m : Nat → Nat) (P : Nat → Nat → Prop) (Kb : Nat → Nat) (full : Nat → Bool) (w : World) (h : BkSt B w b n v n0 m P Kb full) (hn : n0 1 + m 1 ≤ 1000) (hK : Kb 1 ≤ 100000) :
    Calls Tryz.prog 74 #[.pointer (some ⟨b, 0, none⟩)] w fun e w' => e = .returned (.tuple #[]) ∧ BkSt B w' b n v n0 m P Kb (updF full 1 true) ∧ Below B w w' := by
 have hB : B ≤ w.heap.size := Nat.le_of_lt (Nat.lt_of_le_of_lt h.bB h.blt)
 have hc : w.cell? ⟨b, 6, none⟩ = some (v 1) := (cRw h.row 6).trans rfl
 have hkd : KindAt 196 143 3 mkSeal w (v 1) (n0 1) (m 1) (P 1) (Kb 1) (full 1) := h.kind 1 (by omega)
 rcases hkd with ⟨hm, hv⟩ | ⟨g, cap, V, K, X, hv, hh, hP, hKb, hX⟩
 · rw [hv] at hc
   refine (fillSeal_nil b w hc).mono ?_
   rintro e w' ⟨rfl, rfl⟩
   have hs := h.step (j := 1) (by omega) (Turned.refl _ _) (Ext.refl _ _ _) (h.lt 1 (by omega)) (kb := Kb 1) (fl := true) (.inl ⟨hm, hv⟩)
   rw [updF_self, updF_self] at hs
   exact ⟨rfl, hs, Below.refl _ _⟩
 · rw [hv] at hc
   refine (fillSeal_any b g (n0 1) (m 1) cap V K X hn (fun i hi => Nat.le_trans (hKb i hi) hK) w hc (fun hf => h.nb 1 (by omega) (hP b hf)) hh).mono ?_
   rintro e w' ⟨rfl, h2, hT⟩
   have hT2 : Turned (P 1) w w' := hT.mono (fun k _ hk => hP k hk)
   have hs := h.step (j := 1) (by omega) hT2 (Ext.refl _ _ _) (fun k hk => Nat.lt_of_lt_of_le (h.lt 1 (by omega) k hk) hT.size) (kb := Kb 1) (fl := true) (.inr ⟨g, cap, V, K, _, hv, h2, hP, hKb, fun _ i hi => rfl⟩)
   rw [updF_self, updF_self] at hs
   exact ⟨rfl, hs, hT2.below hB (h.low 1 (by omega))⟩
theorem kgrowSeal (B b : Nat) (n : Int) (v : Nat → Value) (n0 m : Nat → Nat) (P : Nat → Nat → Prop) (Kb : Nat → Nat) (full : Nat → Bool) (w : World) (h : BkSt B w b n v n0 m P Kb full) (hn : n0 1 + m 1 ≤ 1000) (hK : Kb 1 ≤ 100000) (hfl : full 1 = true) :
    Calls Tryz.prog 107 #[.pointer (some ⟨b, 0, none⟩)] w fun e w' => e = .returned (.tuple #[]) ∧ ∃ Q, BkSt B w' b n v n0 m (updF P 1 Q) (updF Kb 1 (Kb 1 + 3)) full ∧ Below B w w' := by
 have hB : B ≤ w.heap.size := Nat.le_of_lt (Nat.lt_of_le_of_lt h.bB h.blt)
 have hc : w.cell? ⟨b, 6, none⟩ = some (v 1) := (cRw h.row 6).trans rfl
 have hkd : KindAt 196 143 3 mkSeal w (v 1) (n0 1) (m 1) (P 1) (Kb 1) (full 1) := h.kind 1 (by omega)
 rcases hkd with ⟨hm, hv⟩ | ⟨g, cap, V, K, X, hv, hh, hP, hKb, hX⟩
 · rw [hv] at hc
   refine (growSeal_nil b w hc).mono ?_
   rintro e w' ⟨rfl, rfl⟩
   have hs := h.step (j := 1) (by omega) (Turned.refl _ _) (Ext.refl _ _ _) (h.lt 1 (by omega)) (kb := Kb 1 + 3) (fl := full 1) (.inl ⟨hm, hv⟩)
   rw [updF_self full] at hs
   exact ⟨rfl, _, hs, Below.refl _ _⟩
 · rw [hv] at hc
   refine (growSeal_any b g (n0 1) (m 1) cap V K hn (fun i hi => Nat.le_trans (hKb i hi) hK) w hc (fun hf => h.nb 1 (by omega) (hP b hf)) (hh.congr (fun _ _ => rfl) (fun i hi => (hX hfl i hi).symm))).mono ?_
   rintro e w' ⟨rfl, V2, K2, h2, hK2, hT, hx⟩
   have hT2 : Turned (P 1) w w' := hT.mono (fun k _ hk => hP k hk)
   have hs := h.step (j := 1) (by omega) (Q := HFoot g (m 1) V2) hT2 (fun k hk => (hx k hk).imp (hP k) id) h2.lt (kb := Kb 1 + 3) (fl := full 1) (.inr ⟨g, cap, V2, K2, _, hv, h2, fun k hk => hk, fun i hi => Nat.le_trans (hK2 i hi) (Nat.add_le_add_right (hKb i hi) 3), fun _ i hi => rfl⟩)
   rw [updF_self full] at hs
   exact ⟨rfl, _, hs, hT2.below hB (h.low 1 (by omega))⟩
theorem klookSeal (B b : Nat) (n : Int) (v : Nat → Value) (n0 m : Nat → Nat) (P : Nat → Nat → Prop) (Kb : Nat → Nat) (full : Nat → Bool) (w : World) (h : BkSt B w b n v n0 m P Kb full) (hn : n0 1 + m 1 ≤ 1000) (hK : Kb 1 ≤ 100010) (hfl : full 1 = true) :
    Calls Tryz.prog 141 #[.pointer (some ⟨b, 0, none⟩)] w fun e w' => e = .returned (.bool true) ∧ BkSt B w' b n v n0 m P Kb full ∧ Below B w w' := by
 have hB : B ≤ w.heap.size := Nat.le_of_lt (Nat.lt_of_le_of_lt h.bB h.blt)
 have hc : w.cell? ⟨b, 6, none⟩ = some (v 1) := (cRw h.row 6).trans rfl
 have hkd : KindAt 196 143 3 mkSeal w (v 1) (n0 1) (m 1) (P 1) (Kb 1) (full 1) := h.kind 1 (by omega)
 rcases hkd with ⟨hm, hv⟩ | ⟨g, cap, V, K, X, hv, hh, hP, hKb, hX⟩
 · rw [hv] at hc
   refine (lookSeal_nil b w hc).mono ?_
   rintro e w' ⟨rfl, rfl⟩
   exact ⟨rfl, h, Below.refl _ _⟩
 · rw [hv] at hc
   refine (lookSeal_any b g (n0 1) (m 1) cap V K hn (fun i hi => Nat.le_trans (hKb i hi) hK) w hc (hh.congr (fun _ _ => rfl) (fun i hi => (hX hfl i hi).symm))).mono ?_
   rintro e w' ⟨rfl, hb⟩
   exact ⟨rfl, h.same hb, hb.mono hB⟩
theorem kfillKey (B b : Nat) (n : Int) (v : Nat → Value) (n0 m : Nat → Nat) (P : Nat → Nat → Prop) (Kb : Nat → Nat) (full : Nat → Bool) (w : World) (h : BkSt B w b n v n0 m P Kb full) (hn : n0 2 + m 2 ≤ 1000) (hK : Kb 2 ≤ 100000) :
    Calls Tryz.prog 75 #[.pointer (some ⟨b, 0, none⟩)] w fun e w' => e = .returned (.tuple #[]) ∧ BkSt B w' b n v n0 m P Kb (updF full 2 true) ∧ Below B w w' := by
 have hB : B ≤ w.heap.size := Nat.le_of_lt (Nat.lt_of_le_of_lt h.bB h.blt)
 have hc : w.cell? ⟨b, 7, none⟩ = some (v 2) := (cRw h.row 7).trans rfl
 have hkd : KindAt 194 123 2 mkKey w (v 2) (n0 2) (m 2) (P 2) (Kb 2) (full 2) := h.kind 2 (by omega)
 rcases hkd with ⟨hm, hv⟩ | ⟨g, cap, V, K, X, hv, hh, hP, hKb, hX⟩
 · rw [hv] at hc
   refine (fillKey_nil b w hc).mono ?_
   rintro e w' ⟨rfl, rfl⟩
   have hs := h.step (j := 2) (by omega) (Turned.refl _ _) (Ext.refl _ _ _) (h.lt 2 (by omega)) (kb := Kb 2) (fl := true) (.inl ⟨hm, hv⟩)
   rw [updF_self, updF_self] at hs
   exact ⟨rfl, hs, Below.refl _ _⟩
 · rw [hv] at hc
   refine (fillKey_any b g (n0 2) (m 2) cap V K X hn (fun i hi => Nat.le_trans (hKb i hi) hK) w hc (fun hf => h.nb 2 (by omega) (hP b hf)) hh).mono ?_
   rintro e w' ⟨rfl, h2, hT⟩
   have hT2 : Turned (P 2) w w' := hT.mono (fun k _ hk => hP k hk)
   have hs := h.step (j := 2) (by omega) hT2 (Ext.refl _ _ _) (fun k hk => Nat.lt_of_lt_of_le (h.lt 2 (by omega) k hk) hT.size) (kb := Kb 2) (fl := true) (.inr ⟨g, cap, V, K, _, hv, h2, hP, hKb, fun _ i hi => rfl⟩)
   rw [updF_self, updF_self] at hs
   exact ⟨rfl, hs, hT2.below hB (h.low 2 (by omega))⟩
theorem kgrowKey (B b : Nat) (n : Int) (v : Nat → Value) (n0 m : Nat → Nat) (P : Nat → Nat → Prop) (Kb : Nat → Nat) (full : Nat → Bool) (w : World) (h : BkSt B w b n v n0 m P Kb full) (hn : n0 2 + m 2 ≤ 1000) (hK : Kb 2 ≤ 100000) (hfl : full 2 = true) :
    Calls Tryz.prog 108 #[.pointer (some ⟨b, 0, none⟩)] w fun e w' => e = .returned (.tuple #[]) ∧ ∃ Q, BkSt B w' b n v n0 m (updF P 2 Q) (updF Kb 2 (Kb 2 + 3)) full ∧ Below B w w' := by
 have hB : B ≤ w.heap.size := Nat.le_of_lt (Nat.lt_of_le_of_lt h.bB h.blt)
 have hc : w.cell? ⟨b, 7, none⟩ = some (v 2) := (cRw h.row 7).trans rfl
 have hkd : KindAt 194 123 2 mkKey w (v 2) (n0 2) (m 2) (P 2) (Kb 2) (full 2) := h.kind 2 (by omega)
 rcases hkd with ⟨hm, hv⟩ | ⟨g, cap, V, K, X, hv, hh, hP, hKb, hX⟩
 · rw [hv] at hc
   refine (growKey_nil b w hc).mono ?_
   rintro e w' ⟨rfl, rfl⟩
   have hs := h.step (j := 2) (by omega) (Turned.refl _ _) (Ext.refl _ _ _) (h.lt 2 (by omega)) (kb := Kb 2 + 3) (fl := full 2) (.inl ⟨hm, hv⟩)
   rw [updF_self full] at hs
   exact ⟨rfl, _, hs, Below.refl _ _⟩
 · rw [hv] at hc
   refine (growKey_any b g (n0 2) (m 2) cap V K hn (fun i hi => Nat.le_trans (hKb i hi) hK) w hc (fun hf => h.nb 2 (by omega) (hP b hf)) (hh.congr (fun _ _ => rfl) (fun i hi => (hX hfl i hi).symm))).mono ?_
   rintro e w' ⟨rfl, V2, K2, h2, hK2, hT, hx⟩
   have hT2 : Turned (P 2) w w' := hT.mono (fun k _ hk => hP k hk)
   have hs := h.step (j := 2) (by omega) (Q := HFoot g (m 2) V2) hT2 (fun k hk => (hx k hk).imp (hP k) id) h2.lt (kb := Kb 2 + 3) (fl := full 2) (.inr ⟨g, cap, V2, K2, _, hv, h2, fun k hk => hk, fun i hi => Nat.le_trans (hK2 i hi) (Nat.add_le_add_right (hKb i hi) 3), fun _ i hi => rfl⟩)
   rw [updF_self full] at hs
   exact ⟨rfl, _, hs, hT2.below hB (h.low 2 (by omega))⟩
theorem klookKey (B b : Nat) (n : Int) (v : Nat → Value) (n0 m : Nat → Nat) (P : Nat → Nat → Prop) (Kb : Nat → Nat) (full : Nat → Bool) (w : World) (h : BkSt B w b n v n0 m P Kb full) (hn : n0 2 + m 2 ≤ 1000) (hK : Kb 2 ≤ 100010) (hfl : full 2 = true) :
    Calls Tryz.prog 142 #[.pointer (some ⟨b, 0, none⟩)] w fun e w' => e = .returned (.bool true) ∧ BkSt B w' b n v n0 m P Kb full ∧ Below B w w' := by
 have hB : B ≤ w.heap.size := Nat.le_of_lt (Nat.lt_of_le_of_lt h.bB h.blt)
 have hc : w.cell? ⟨b, 7, none⟩ = some (v 2) := (cRw h.row 7).trans rfl
 have hkd : KindAt 194 123 2 mkKey w (v 2) (n0 2) (m 2) (P 2) (Kb 2) (full 2) := h.kind 2 (by omega)
 rcases hkd with ⟨hm, hv⟩ | ⟨g, cap, V, K, X, hv, hh, hP, hKb, hX⟩
 · rw [hv] at hc
   refine (lookKey_nil b w hc).mono ?_
   rintro e w' ⟨rfl, rfl⟩
   exact ⟨rfl, h, Below.refl _ _⟩
 · rw [hv] at hc
   refine (lookKey_any b g (n0 2) (m 2) cap V K hn (fun i hi => Nat.le_trans (hKb i hi) hK) w hc (hh.congr (fun _ _ => rfl) (fun i hi => (hX hfl i hi).symm))).mono ?_
   rintro e w' ⟨rfl, hb⟩
   exact ⟨rfl, h.same hb, hb.mono hB⟩
theorem kfillNode (B b : Nat) (n : Int) (v : Nat → Value) (n0 m : Nat → Nat) (P : Nat → Nat → Prop) (Kb : Nat → Nat) (full : Nat → Bool) (w : World) (h : BkSt B w b n v n0 m P Kb full) (hn : n0 3 + m 3 ≤ 1000) (hK : Kb 3 ≤ 100000) :
    Calls Tryz.prog 87 #[.pointer (some ⟨b, 0, none⟩)] w fun e w' => e = .returned (.tuple #[]) ∧ BkSt B w' b n v n0 m P Kb (updF full 3 true) ∧ Below B w w' := by
 have hB : B ≤ w.heap.size := Nat.le_of_lt (Nat.lt_of_le_of_lt h.bB h.blt)
 have hc : w.cell? ⟨b, 19, none⟩ = some (v 3) := (cRw h.row 19).trans rfl
 have hkd : KindAt 296 125 4 mkNode w (v 3) (n0 3) (m 3) (P 3) (Kb 3) (full 3) := h.kind 3 (by omega)
 rcases hkd with ⟨hm, hv⟩ | ⟨g, cap, V, K, X, hv, hh, hP, hKb, hX⟩
 · rw [hv] at hc
   refine (fillNode_nil b w hc).mono ?_
   rintro e w' ⟨rfl, rfl⟩
   have hs := h.step (j := 3) (by omega) (Turned.refl _ _) (Ext.refl _ _ _) (h.lt 3 (by omega)) (kb := Kb 3) (fl := true) (.inl ⟨hm, hv⟩)
   rw [updF_self, updF_self] at hs
   exact ⟨rfl, hs, Below.refl _ _⟩
 · rw [hv] at hc
   refine (fillNode_any b g (n0 3) (m 3) cap V K X hn (fun i hi => Nat.le_trans (hKb i hi) hK) w hc (fun hf => h.nb 3 (by omega) (hP b hf)) hh).mono ?_
   rintro e w' ⟨rfl, h2, hT⟩
   have hT2 : Turned (P 3) w w' := hT.mono (fun k _ hk => hP k hk)
   have hs := h.step (j := 3) (by omega) hT2 (Ext.refl _ _ _) (fun k hk => Nat.lt_of_lt_of_le (h.lt 3 (by omega) k hk) hT.size) (kb := Kb 3) (fl := true) (.inr ⟨g, cap, V, K, _, hv, h2, hP, hKb, fun _ i hi => rfl⟩)
   rw [updF_self, updF_self] at hs
   exact ⟨rfl, hs, hT2.below hB (h.low 3 (by omega))⟩
theorem kgrowNode (B b : Nat) (n : Int) (v : Nat → Value) (n0 m : Nat → Nat) (P : Nat → Nat → Prop) (Kb : Nat → Nat) (full : Nat → Bool) (w : World) (h : BkSt B w b n v n0 m P Kb full) (hn : n0 3 + m 3 ≤ 1000) (hK : Kb 3 ≤ 100000) (hfl : full 3 = true) :
    Calls Tryz.prog 120 #[.pointer (some ⟨b, 0, none⟩)] w fun e w' => e = .returned (.tuple #[]) ∧ ∃ Q, BkSt B w' b n v n0 m (updF P 3 Q) (updF Kb 3 (Kb 3 + 3)) full ∧ Below B w w' := by
 have hB : B ≤ w.heap.size := Nat.le_of_lt (Nat.lt_of_le_of_lt h.bB h.blt)
 have hc : w.cell? ⟨b, 19, none⟩ = some (v 3) := (cRw h.row 19).trans rfl
 have hkd : KindAt 296 125 4 mkNode w (v 3) (n0 3) (m 3) (P 3) (Kb 3) (full 3) := h.kind 3 (by omega)
 rcases hkd with ⟨hm, hv⟩ | ⟨g, cap, V, K, X, hv, hh, hP, hKb, hX⟩
 · rw [hv] at hc
   refine (growNode_nil b w hc).mono ?_
   rintro e w' ⟨rfl, rfl⟩
   have hs := h.step (j := 3) (by omega) (Turned.refl _ _) (Ext.refl _ _ _) (h.lt 3 (by omega)) (kb := Kb 3 + 3) (fl := full 3) (.inl ⟨hm, hv⟩)
   rw [updF_self full] at hs
   exact ⟨rfl, _, hs, Below.refl _ _⟩
 · rw [hv] at hc
   refine (growNode_any b g (n0 3) (m 3) cap V K hn (fun i hi => Nat.le_trans (hKb i hi) hK) w hc (fun hf => h.nb 3 (by omega) (hP b hf)) (hh.congr (fun _ _ => rfl) (fun i hi => (hX hfl i hi).symm))).mono ?_
   rintro e w' ⟨rfl, V2, K2, h2, hK2, hT, hx⟩
   have hT2 : Turned (P 3) w w' := hT.mono (fun k _ hk => hP k hk)
   have hs := h.step (j := 3) (by omega) (Q := HFoot g (m 3) V2) hT2 (fun k hk => (hx k hk).imp (hP k) id) h2.lt (kb := Kb 3 + 3) (fl := full 3) (.inr ⟨g, cap, V2, K2, _, hv, h2, fun k hk => hk, fun i hi => Nat.le_trans (hK2 i hi) (Nat.add_le_add_right (hKb i hi) 3), fun _ i hi => rfl⟩)
   rw [updF_self full] at hs
   exact ⟨rfl, _, hs, hT2.below hB (h.low 3 (by omega))⟩
theorem klookNode (B b : Nat) (n : Int) (v : Nat → Value) (n0 m : Nat → Nat) (P : Nat → Nat → Prop) (Kb : Nat → Nat) (full : Nat → Bool) (w : World) (h : BkSt B w b n v n0 m P Kb full) (hn : n0 3 + m 3 ≤ 1000) (hK : Kb 3 ≤ 100010) (hfl : full 3 = true) :
    Calls Tryz.prog 154 #[.pointer (some ⟨b, 0, none⟩)] w fun e w' => e = .returned (.bool true) ∧ BkSt B w' b n v n0 m P Kb full ∧ Below B w w' := by
 have hB : B ≤ w.heap.size := Nat.le_of_lt (Nat.lt_of_le_of_lt h.bB h.blt)
 have hc : w.cell? ⟨b, 19, none⟩ = some (v 3) := (cRw h.row 19).trans rfl
 have hkd : KindAt 296 125 4 mkNode w (v 3) (n0 3) (m 3) (P 3) (Kb 3) (full 3) := h.kind 3 (by omega)
 rcases hkd with ⟨hm, hv⟩ | ⟨g, cap, V, K, X, hv, hh, hP, hKb, hX⟩
 · rw [hv] at hc
   refine (lookNode_nil b w hc).mono ?_
   rintro e w' ⟨rfl, rfl⟩
   exact ⟨rfl, h, Below.refl _ _⟩
 · rw [hv] at hc
   refine (lookNode_any b g (n0 3) (m 3) cap V K hn (fun i hi => Nat.le_trans (hKb i hi) hK) w hc (hh.congr (fun _ _ => rfl) (fun i hi => (hX hfl i hi).symm))).mono ?_
   rintro e w' ⟨rfl, hb⟩
   exact ⟨rfl, h.same hb, hb.mono hB⟩
def BitsOut (w : World) (i : Value) (wr : World) : Prop := ∃ k : Nat, k ≤ 8 ∧ i = .int .u64 k ∧ wr = w
theorem apartM_any (B b : Nat) (n : Int) (v : Nat → Value) (n0 m : Nat → Nat) (P : Nat → Nat → Prop) (Kb : Nat → Nat) (full : Nat → Bool) (w : World) (h : BkSt B w b n v n0 m P Kb full) (hsm : ∀ j, j < 4 → n0 j + m j ≤ 1000 ∧ Kb j ≤ 100000) :
    Calls Tryz.prog 31 #[.pointer (some ⟨b, 0, none⟩)] w fun e w' => e = .returned (.bool true) ∧ Below B w w' := by
 have hsm0 := hsm 0 (by omega)
 have hsm1 := hsm 1 (by omega)
 have hsm2 := hsm 2 (by omega)
 have hsm3 := hsm 3 (by omega)
 have Hm := hQ (And.intro hsm0 (And.intro hsm1 (And.intro hsm2 hsm3)))
 have Hs0 := hQ h
 have Hb0 := hQ (Below.refl B w)
 clear h hsm hsm0 hsm1 hsm2 hsm3
 go_enter Tryz.func31, Tryz.ntmps31
 go_wp2_with fail
 refine (kfillNumber B b n v n0 m _ _ _ _ Hs0.out Hm.out.1.1 Hm.out.1.2).mono ?_
 rintro e w1 ⟨rfl, hs, hb⟩
 have Hs1 := hQ hs
 have Hb1 := hQ (Hb0.out.trans hb)
 clear hs hb Hs0 Hb0
 go_wp2_with fail
 refine fillWide_nil.go (cRw Hs1.out.row 3) ?_
 go_wp2_with fail
 refine fillText_nil.go (cRw Hs1.out.row 4) ?_
 go_wp2_with fail
 refine fillTerm_nil.go (cRw Hs1.out.row 5) ?_
 go_wp2_with fail
 refine (kfillSeal B b n v n0 m _ _ _ _ Hs1.out Hm.out.2.1.1 Hm.out.2.1.2).mono ?_
 rintro e w2 ⟨rfl, hs, hb⟩
 have Hs2 := hQ hs
 have Hb2 := hQ (Hb1.out.trans hb)
 clear hs hb Hs1 Hb1
 go_wp2_with fail
 refine (kfillKey B b n v n0 m _ _ _ _ Hs2.out Hm.out.2.2.1.1 Hm.out.2.2.1.2).mono ?_
 rintro e w3 ⟨rfl, hs, hb⟩
 have Hs3 := hQ hs
 have Hb3 := hQ (Hb2.out.trans hb)
 clear hs hb Hs2 Hb2
 go_wp2_with fail
 refine fillAdd_nil.go (cRw Hs3.out.row 8) ?_
 go_wp2_with fail
 refine fillJoin_nil.go (cRw Hs3.out.row 9) ?_
 go_wp2_with fail
 refine fillPast_nil.go (cRw Hs3.out.row 10) ?_
 go_wp2_with fail
 refine fillCard_nil.go (cRw Hs3.out.row 11) ?_
 go_wp2_with fail
 refine fillGot_nil.go (cRw Hs3.out.row 12) ?_
 go_wp2_with fail
 refine fillNote_nil.go (cRw Hs3.out.row 13) ?_
 go_wp2_with fail
 refine fillAnswer_nil.go (cRw Hs3.out.row 14) ?_
 go_wp2_with fail
 refine fillOutcome_nil.go (cRw Hs3.out.row 15) ?_
 go_wp2_with fail
 refine fillFinding_nil.go (cRw Hs3.out.row 16) ?_
 go_wp2_with fail
 refine fillStep_nil.go (cRw Hs3.out.row 17) ?_
 go_wp2_with fail
 refine fillWrite_nil.go (cRw Hs3.out.row 18) ?_
 go_wp2_with fail
 refine (kfillNode B b n v n0 m _ _ _ _ Hs3.out Hm.out.2.2.2.1 Hm.out.2.2.2.2).mono ?_
 rintro e w4 ⟨rfl, hs, hb⟩
 have Hs4 := hQ hs
 have Hb4 := hQ (Hb3.out.trans hb)
 clear hs hb Hs3 Hb3
 go_wp2_with fail
 refine fillTree_nil.go (cRw Hs4.out.row 20) ?_
 go_wp2_with fail
 refine fillCommit_nil.go (cRw Hs4.out.row 21) ?_
 go_wp2_with fail
 refine fillState_nil.go (cRw Hs4.out.row 22) ?_
 go_wp2_with fail
 refine fillFace_nil.go (cRw Hs4.out.row 23) ?_
 go_wp2_with fail
 refine fillRequest_nil.go (cRw Hs4.out.row 24) ?_
 go_wp2_with fail
 refine fillMail_nil.go (cRw Hs4.out.row 25) ?_
 go_wp2_with fail
 refine fillPending_nil.go (cRw Hs4.out.row 26) ?_
 go_wp2_with fail
 refine fillFeed_nil.go (cRw Hs4.out.row 27) ?_
 go_wp2_with fail
 refine fillLog_nil.go (cRw Hs4.out.row 28) ?_
 go_wp2_with fail
 refine fillBox_nil.go (cRw Hs4.out.row 29) ?_
 go_wp2_with fail
 refine fillEarly_nil.go (cRw Hs4.out.row 30) ?_
 go_wp2_with fail
 refine fillLink_nil.go (cRw Hs4.out.row 31) ?_
 go_wp2_with fail
 refine fillPacket_nil.go (cRw Hs4.out.row 32) ?_
 go_wp2_with fail
 refine fillTermRow_nil.go (cRw Hs4.out.row 33) ?_
 go_wp2_with fail
 refine fillNumberRow_nil.go (cRw Hs4.out.row 34) ?_
 go_wp2_with fail
 refine (kgrowNumber B b n v n0 m _ _ _ _ Hs4.out Hm.out.1.1 Hm.out.1.2 rfl).mono ?_
 rintro e w5 ⟨rfl, Q0, hs, hb⟩
 have Hs5 := hQ hs
 have Hb5 := hQ (Hb4.out.trans hb)
 clear hs hb Hs4 Hb4
 go_wp2_with fail
 refine growWide_nil.go (cRw Hs5.out.row 3) ?_
 go_wp2_with fail
 refine growText_nil.go (cRw Hs5.out.row 4) ?_
 go_wp2_with fail
 refine growTerm_nil.go (cRw Hs5.out.row 5) ?_
 go_wp2_with fail
 refine (kgrowSeal B b n v n0 m _ _ _ _ Hs5.out Hm.out.2.1.1 Hm.out.2.1.2 rfl).mono ?_
 rintro e w6 ⟨rfl, Q1, hs, hb⟩
 have Hs6 := hQ hs
 have Hb6 := hQ (Hb5.out.trans hb)
 clear hs hb Hs5 Hb5
 go_wp2_with fail
 refine (kgrowKey B b n v n0 m _ _ _ _ Hs6.out Hm.out.2.2.1.1 Hm.out.2.2.1.2 rfl).mono ?_
 rintro e w7 ⟨rfl, Q2, hs, hb⟩
 have Hs7 := hQ hs
 have Hb7 := hQ (Hb6.out.trans hb)
 clear hs hb Hs6 Hb6
 go_wp2_with fail
 refine growAdd_nil.go (cRw Hs7.out.row 8) ?_
 go_wp2_with fail
 refine growJoin_nil.go (cRw Hs7.out.row 9) ?_
 go_wp2_with fail
 refine growPast_nil.go (cRw Hs7.out.row 10) ?_
 go_wp2_with fail
 refine growCard_nil.go (cRw Hs7.out.row 11) ?_
 go_wp2_with fail
 refine growGot_nil.go (cRw Hs7.out.row 12) ?_
 go_wp2_with fail
 refine growNote_nil.go (cRw Hs7.out.row 13) ?_
 go_wp2_with fail
 refine growAnswer_nil.go (cRw Hs7.out.row 14) ?_
 go_wp2_with fail
 refine growOutcome_nil.go (cRw Hs7.out.row 15) ?_
 go_wp2_with fail
 refine growFinding_nil.go (cRw Hs7.out.row 16) ?_
 go_wp2_with fail
 refine growStep_nil.go (cRw Hs7.out.row 17) ?_
 go_wp2_with fail
 refine growWrite_nil.go (cRw Hs7.out.row 18) ?_
 go_wp2_with fail
 refine (kgrowNode B b n v n0 m _ _ _ _ Hs7.out Hm.out.2.2.2.1 Hm.out.2.2.2.2 rfl).mono ?_
 rintro e w8 ⟨rfl, Q3, hs, hb⟩
 have Hs8 := hQ hs
 have Hb8 := hQ (Hb7.out.trans hb)
 clear hs hb Hs7 Hb7
 go_wp2_with fail
 refine growTree_nil.go (cRw Hs8.out.row 20) ?_
 go_wp2_with fail
 refine growCommit_nil.go (cRw Hs8.out.row 21) ?_
 go_wp2_with fail
 refine growState_nil.go (cRw Hs8.out.row 22) ?_
 go_wp2_with fail
 refine growFace_nil.go (cRw Hs8.out.row 23) ?_
 go_wp2_with fail
 refine growRequest_nil.go (cRw Hs8.out.row 24) ?_
 go_wp2_with fail
 refine growMail_nil.go (cRw Hs8.out.row 25) ?_
 go_wp2_with fail
 refine growPending_nil.go (cRw Hs8.out.row 26) ?_
 go_wp2_with fail
 refine growFeed_nil.go (cRw Hs8.out.row 27) ?_
 go_wp2_with fail
 refine growLog_nil.go (cRw Hs8.out.row 28) ?_
 go_wp2_with fail
 refine growBox_nil.go (cRw Hs8.out.row 29) ?_
 go_wp2_with fail
 refine growEarly_nil.go (cRw Hs8.out.row 30) ?_
 go_wp2_with fail
 refine growLink_nil.go (cRw Hs8.out.row 31) ?_
 go_wp2_with fail
 refine growPacket_nil.go (cRw Hs8.out.row 32) ?_
 go_wp2_with fail
 refine growTermRow_nil.go (cRw Hs8.out.row 33) ?_
 go_wp2_with fail
 refine growNumberRow_nil.go (cRw Hs8.out.row 34) ?_
 go_wp2_with fail
 go_loopw [3] (fun i wr => BitsOut w8 i wr) (fun i _ => 8 - (intOf i).toNat)
 case atStart => exact ⟨0, by omega, rfl, rfl⟩
 case round =>
  obtain ⟨k, hk, rfl, rfl⟩ := hrel
  by_cases hlt : k < 8
  · have hk8 : (k : Int) < 8 := by omega
    go_wp2_with fail
    refine (bits_nil b k _ ((cRw Hs8.out.row 1).trans rfl)).mono ?_
    rintro e wx ⟨rfl, hwx⟩; subst wx
    go_wp2
    exact ⟨⟨k + 1, by omega, by go_num, rfl⟩, by simp [intOf]; omega⟩
  · have hk8 : ¬ (k : Int) < 8 := by omega
    go_wp2_with fail
    refine (klookNumber B b n v n0 m _ _ _ _ Hs8.out Hm.out.1.1 (Nat.add_le_add Hm.out.1.2 (show 3 ≤ 10 by omega)) rfl).mono ?_
    rintro e w9 ⟨rfl, hs, hb⟩
    have Hs9 := hQ hs
    have Hb9 := hQ (Hb8.out.trans hb)
    clear hs hb
    go_wp2_with fail
    refine lookWide_nil.go (cRw Hs9.out.row 3) ?_
    go_wp2_with fail
    refine lookText_nil.go (cRw Hs9.out.row 4) ?_
    go_wp2_with fail
    refine lookTerm_nil.go (cRw Hs9.out.row 5) ?_
    go_wp2_with fail
    refine (klookSeal B b n v n0 m _ _ _ _ Hs9.out Hm.out.2.1.1 (Nat.add_le_add Hm.out.2.1.2 (show 3 ≤ 10 by omega)) rfl).mono ?_
    rintro e w10 ⟨rfl, hs, hb⟩
    have Hs10 := hQ hs
    have Hb10 := hQ (Hb9.out.trans hb)
    clear hs hb
    go_wp2_with fail
    refine (klookKey B b n v n0 m _ _ _ _ Hs10.out Hm.out.2.2.1.1 (Nat.add_le_add Hm.out.2.2.1.2 (show 3 ≤ 10 by omega)) rfl).mono ?_
    rintro e w11 ⟨rfl, hs, hb⟩
    have Hs11 := hQ hs
    have Hb11 := hQ (Hb10.out.trans hb)
    clear hs hb
    go_wp2_with fail
    refine lookAdd_nil.go (cRw Hs11.out.row 8) ?_
    go_wp2_with fail
    refine lookJoin_nil.go (cRw Hs11.out.row 9) ?_
    go_wp2_with fail
    refine lookPast_nil.go (cRw Hs11.out.row 10) ?_
    go_wp2_with fail
    refine lookCard_nil.go (cRw Hs11.out.row 11) ?_
    go_wp2_with fail
    refine lookGot_nil.go (cRw Hs11.out.row 12) ?_
    go_wp2_with fail
    refine lookNote_nil.go (cRw Hs11.out.row 13) ?_
    go_wp2_with fail
    refine lookAnswer_nil.go (cRw Hs11.out.row 14) ?_
    go_wp2_with fail
    refine lookOutcome_nil.go (cRw Hs11.out.row 15) ?_
    go_wp2_with fail
    refine lookFinding_nil.go (cRw Hs11.out.row 16) ?_
    go_wp2_with fail
    refine lookStep_nil.go (cRw Hs11.out.row 17) ?_
    go_wp2_with fail
    refine lookWrite_nil.go (cRw Hs11.out.row 18) ?_
    go_wp2_with fail
    refine (klookNode B b n v n0 m _ _ _ _ Hs11.out Hm.out.2.2.2.1 (Nat.add_le_add Hm.out.2.2.2.2 (show 3 ≤ 10 by omega)) rfl).mono ?_
    rintro e w12 ⟨rfl, hs, hb⟩
    have Hs12 := hQ hs
    have Hb12 := hQ (Hb11.out.trans hb)
    clear hs hb
    go_wp2_with fail
    refine lookTree_nil.go (cRw Hs12.out.row 20) ?_
    go_wp2_with fail
    refine lookCommit_nil.go (cRw Hs12.out.row 21) ?_
    go_wp2_with fail
    refine lookState_nil.go (cRw Hs12.out.row 22) ?_
    go_wp2_with fail
    refine lookFace_nil.go (cRw Hs12.out.row 23) ?_
    go_wp2_with fail
    refine lookRequest_nil.go (cRw Hs12.out.row 24) ?_
    go_wp2_with fail
    refine lookMail_nil.go (cRw Hs12.out.row 25) ?_
    go_wp2_with fail
    refine lookPending_nil.go (cRw Hs12.out.row 26) ?_
    go_wp2_with fail
    refine lookFeed_nil.go (cRw Hs12.out.row 27) ?_
    go_wp2_with fail
    refine lookLog_nil.go (cRw Hs12.out.row 28) ?_
    go_wp2_with fail
    refine lookBox_nil.go (cRw Hs12.out.row 29) ?_
    go_wp2_with fail
    refine lookEarly_nil.go (cRw Hs12.out.row 30) ?_
    go_wp2_with fail
    refine lookLink_nil.go (cRw Hs12.out.row 31) ?_
    go_wp2_with fail
    refine lookPacket_nil.go (cRw Hs12.out.row 32) ?_
    go_wp2_with fail
    refine lookTermRow_nil.go (cRw Hs12.out.row 33) ?_
    go_wp2_with fail
    refine lookNumberRow_nil.go (cRw Hs12.out.row 34) ?_
    go_wp2_with fail
    go_ret
    exact ⟨rfl, Hb12.out⟩
end
end Go.Proofs.YtedpljclnpiggaaGreatDoor
