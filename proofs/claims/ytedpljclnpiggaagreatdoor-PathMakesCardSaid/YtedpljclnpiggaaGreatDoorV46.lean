/- phratrylaw01's Book: held lists filled with marks. -/
import Derived.Test.YtedpljclnpiggaaGreatDoorV45
import Derived.Deep.RegionHeld3
import Derived.Deep.RegionLaw
import Derived.Deep.AppendLies
set_option linter.unusedVariables false
set_option linter.unusedSimpArgs false
set_option maxRecDepth 100000
set_option maxHeartbeats 12800000
namespace Go.Proofs.YtedpljclnpiggaaGreatDoor
section
open Go Go.RowKit
theorem mark_start {w : World} {a : Option Addr} {n c sz : Nat} {et : TypeId} {xs mk : List Value} (h : w.ownsRow 0 et sz (.slice a n c) n xs) : ∀ r n' c', (Value.slice a n c) = .slice (some ⟨r, 0, none⟩) n' c' → 0 ≤ n' ∧ MarkedTo w r et sz c' mk 0 := by
 intro r n' c' e
 obtain ⟨rfl, rfl, rfl⟩ : a = some ⟨r, 0, none⟩ ∧ n = n' ∧ c = c' := by simpa using e
 exact ⟨Nat.zero_le _, (own_row h).1.any⟩
theorem fill_step {w0 w w3 w4 : World} {r n c j sz : Nat} {et : TypeId} {mk : List Value} (hq : Turned (fun x => (Value.slice (some ⟨r, 0, none⟩) n c).ownBlock = some x) w0 w) (hb : Below w.heap.size w w3) (hm : MarkedTo w3 r et sz c mk j) (hs : mk.length = sz) (hj : j < n) (hnc : n ≤ c) (h4 : w4 = w3.setCells r (j * sz) mk) :
    Turned (fun x => (Value.slice (some ⟨r, 0, none⟩) n c).ownBlock = some x) w0 w4 ∧ ∀ r' n' c', (Value.slice (some ⟨r, 0, none⟩) n c) = .slice (some ⟨r', 0, none⟩) n' c' → j + 1 ≤ n' ∧ MarkedTo w4 r' et sz c' mk (j + 1) := by
 obtain ⟨h1, h2⟩ := hm.step hs (show j < c by omega)
 subst h4
 refine ⟨(hq.trans (Turned.new _ hb) (fun _ _ h => h)).trans h2 (fun x _ e => by subst e; rfl), fun r' n' c' e => ?_⟩
 obtain ⟨rfl, rfl, rfl⟩ : r = r' ∧ n = n' ∧ c = c' := by simpa using e
 exact ⟨hj, h1⟩
theorem fill_done {w0 w : World} {a : Option Addr} {n c sz : Nat} {et : TypeId} {xs mk : List Value} (hown : w0.ownsRow 0 et sz (.slice a n c) n xs) (hm : ∀ r n' c', (Value.slice a n c) = .slice (some ⟨r, 0, none⟩) n' c' → n ≤ n' ∧ MarkedTo w r et sz c' mk n) (hs : mk.length = sz) : w.ownsRow 0 et sz (.slice a n c) n (marksV mk n) := by
 rcases hown.2 with ⟨e, h0⟩ | ⟨r, cap, cur, e, hB, hg, h4, h5, h6, h7⟩
 · exact ⟨marksV_len hs n, .inl ⟨e, h0⟩⟩
 · obtain ⟨rfl, rfl⟩ : a = some ⟨r, 0, none⟩ ∧ c = cap := by simpa using e
   exact (hm r n c rfl).2.own hs h4 h5
theorem cells_new (w : World) (vs : List Value) (t : TypeId) : ∀ j u, vs[j]? = some u → (w.alloc (.cells vs.toArray t)).cell? ((⟨w.heap.size, 0, none⟩ : Addr).add j) = some u := by
 intro j u hj
 rw [add_plain', Nat.zero_add, cRw (rAl _ _ _), List.getElem?_toArray]
 exact hj
def GrowAt (ht et : TypeId) (sz : Nat) (mk : Nat → List Value) (w0 : World) (g n0 m : Nat) (V0 : Nat → Value) (Kb : Nat → Nat) (wr : World) : Prop :=
 ∃ V K, HeldR ht et sz wr g n0 m V K (fun i => marksV (mk (n0 + i)) (K i)) ∧ (∀ i, i < m → K i ≤ Kb i) ∧ Turned (HFoot g m V0) w0 wr ∧ Ext (HFoot g m V0) (HFoot g m V) w0 wr
def growK (K : Nat → Nat) (k j : Nat) : Nat → Nat := fun i => if i < k then K i + 3 else if i = k then K i + j else K i
theorem growK_zero (K : Nat → Nat) (i : Nat) : growK K 0 0 i = K i := by unfold growK; simp
theorem growK_three (K : Nat → Nat) (k i : Nat) : growK K k 3 i = growK K (k + 1) 0 i := by
 unfold growK
 by_cases h : i < k
 · rw [if_pos h, if_pos (by omega)]
 · rw [if_neg h]
   by_cases e : i = k
   · rw [if_pos e, if_pos (by omega)]
   · rw [if_neg e, if_neg (by omega)]
     split <;> simp
theorem growK_le (K : Nat → Nat) (k j i : Nat) (hj : j ≤ 3) : growK K k j i ≤ K i + 3 := by
 unfold growK
 split
 · omega
 · split <;> omega
theorem GrowAt.mono {ht et : TypeId} {sz : Nat} {mk : Nat → List Value} {w0 wr : World} {g n0 m : Nat} {V0 : Nat → Value} {Kb Kb' : Nat → Nat} (h : GrowAt ht et sz mk w0 g n0 m V0 Kb wr) (e : ∀ i, Kb i ≤ Kb' i) : GrowAt ht et sz mk w0 g n0 m V0 Kb' wr := by
 obtain ⟨V, K, h1, h2, h3, h4⟩ := h
 exact ⟨V, K, h1, fun i hi => Nat.le_trans (h2 i hi) (e i), h3, h4⟩
theorem GrowAt.step {ht et : TypeId} {sz : Nat} {mk : Nat → List Value} {w0 wr w3 w5 : World} {g n0 m g' c' k j : Nat} {V0 V : Nat → Value} {K K0 : Nat → Nat} (h : HeldR ht et sz wr g n0 m V K (fun i => marksV (mk (n0 + i)) (K i))) (hb : ∀ i, i < m → K i ≤ growK K0 k j i) (hT : Turned (HFoot g m V0) w0 wr) (hx : Ext (HFoot g m V0) (HFoot g m V) w0 wr)
    (hk : k < m) (h3 : Below wr.heap.size wr w3) (ho : w5.ownsRow 0 et sz (.slice (some ⟨g', 0, none⟩) (K k + 1) c') (K k + 1) (marksV (mk (n0 + k)) (K k) ++ mk (n0 + k))) (hgrow : w3.grownBy w5 (V k).ownBlock) (hat : (V k).ownBlock = some g' ∨ g' = w3.heap.size) :
    GrowAt ht et sz mk w0 g n0 m V0 (growK K0 k (j + 1)) (w5.setCell ⟨g, k * 2, none⟩ (.slice (some ⟨g', 0, none⟩) (K k + 1) c')) := by
 rw [← marksV_succ] at ho
 obtain ⟨h1, h2, h4⟩ := h.grown hk h3 ho hgrow hat
 refine ⟨_, updF K k (K k + 1), h1.congr (fun _ _ => rfl) (fun i _ => ?_), fun i hi => ?_, hT.trans h2 (fun x hx2 hf => (hx x hf).elim id (fun h5 => by omega)), fun x hx2 => ?_⟩
 · by_cases e : i = k
   · subst e; rw [uSm, uSm]
   · rw [uOt e, uOt e]
 · have h5 := hb i hi
   by_cases e : i = k
   · subst e
     rw [uSm]
     unfold growK at h5 ⊢
     rw [if_neg (by omega), if_pos rfl] at h5 ⊢
     omega
   · rw [uOt e]
     refine Nat.le_trans h5 ?_
     unfold growK
     by_cases e2 : i < k
     · rw [if_pos e2, if_pos e2]; exact Nat.le_refl _
     · rw [if_neg e2, if_neg e2, if_neg e, if_neg e]; exact Nat.le_refl _
 · have s1 := hT.size
   have s2 := h2.size
   rcases h4 x hx2 with h5 | h5
   · exact (hx x h5).imp id (fun h6 => ⟨h6.1, by omega⟩)
   · exact .inr ⟨by omega, h5.2⟩
theorem bkInfoSl : (Tryz.prog.info? 143).map (fun i => (i.zero, i.size, i.bytes)) = some (some (.agg #[.int .i64 0, .int .i64 0, .int .i64 0]), 3, 24) := by kernel_rfl
theorem bkInfoKey : (Tryz.prog.info? 123).map (fun i => (i.zero, i.size, i.bytes)) = some (some (.agg #[.int .i64 0, .int .i64 0]), 2, 16) := by kernel_rfl
theorem bkInfoNode : (Tryz.prog.info? 125).map (fun i => (i.zero, i.size, i.bytes)) = some (some (.agg #[.int .i64 0, .int .i64 0, .int .i64 0, .slice none 0 0]), 4, 48) := by kernel_rfl
theorem mkNumber_one (k : Nat) : ∀ u ∈ ([.int .i64 (markI k)] : List Value), u.oneCell' = true := by
 intro u hu
 simp at hu
 subst hu
 rfl
def mkNumber (k : Nat) : List Value := [.int .i64 (markI k)]
theorem mkSeal_one (k : Nat) : ∀ u ∈ ([.int .i64 (markI k), .int .i64 0, .int .i64 0] : List Value), u.oneCell' = true := by
 intro u hu
 simp at hu
 rcases hu with rfl | rfl <;> rfl
def mkSeal (k : Nat) : List Value := [.int .i64 (markI k), .int .i64 0, .int .i64 0]
theorem markSeal_any (k : Nat) (hn : k ≤ 300000) (w : World) : Calls Tryz.prog 219 #[.int .i64 k] w fun e w' => e = .returned (.agg #[.int .i64 (markI k), .int .i64 0, .int .i64 0]) ∧ Below w.heap.size w w' := by
 have hnI : (k : Int) ≤ 300000 := by omega
 go_enter Tryz.func219, Tryz.ntmps219
 go_wp2
 exact bodyPost_ret (v := .agg #[.int .i64 (markI k), .int .i64 0, .int .i64 0]) (by simp [results, Tryz.results219, go_sem, markI]) rfl ⟨rfl, (Below.refl _ _).alloc (Nat.le_refl _) _⟩
theorem mkKey_one (k : Nat) : ∀ u ∈ ([.int .i64 (markI k), .int .i64 0] : List Value), u.oneCell' = true := by
 intro u hu
 simp at hu
 rcases hu with rfl | rfl <;> rfl
def mkKey (k : Nat) : List Value := [.int .i64 (markI k), .int .i64 0]
theorem markKey_any (k : Nat) (hn : k ≤ 300000) (w : World) : Calls Tryz.prog 220 #[.int .i64 k] w fun e w' => e = .returned (.agg #[.int .i64 (markI k), .int .i64 0]) ∧ Below w.heap.size w w' := by
 have hnI : (k : Int) ≤ 300000 := by omega
 go_enter Tryz.func220, Tryz.ntmps220
 go_wp2
 exact bodyPost_ret (v := .agg #[.int .i64 (markI k), .int .i64 0]) (by simp [results, Tryz.results220, go_sem, markI]) rfl ⟨rfl, (Below.refl _ _).alloc (Nat.le_refl _) _⟩
theorem mkNode_one (k : Nat) : ∀ u ∈ ([.int .i64 (markI k), .int .i64 0, .int .i64 0, .slice none 0 0] : List Value), u.oneCell' = true := by
 intro u hu
 simp at hu
 rcases hu with rfl | rfl | rfl <;> rfl
def mkNode (k : Nat) : List Value := [.int .i64 (markI k), .int .i64 0, .int .i64 0, .slice none 0 0]
end
section
open Go Go.RowKit
def FillOutNumber (w0 : World) (g n0 m : Nat) (V : Nat → Value) (K : Nat → Nat) (X : Nat → List Value) (i : Value) (wr : World) : Prop :=
 ∃ (k : Nat) (X' : Nat → List Value), k ≤ m ∧ i = .int .i64 k ∧ HeldR 199 3 1 wr g n0 m V K X' ∧ (∀ i, i < k → X' i = marksV (mkNumber (n0 + i)) (K i)) ∧ Turned (HFoot g m V) w0 wr
def FillInNumber (w0 : World) (v : Value) (n0 k : Nat) (i : Value) (wr : World) : Prop :=
 ∃ j : Nat, i = .int .i64 j ∧ Turned (fun x => v.ownBlock = some x) w0 wr ∧ ∀ r n c, v = .slice (some ⟨r, 0, none⟩) n c → j ≤ n ∧ MarkedTo wr r 3 1 c (mkNumber (n0 + k)) j
theorem fillNumber_any (b g n0 m cap : Nat) (V : Nat → Value) (K : Nat → Nat) (X : Nat → List Value) (hn : n0 + m ≤ 1000) (hK : ∀ i, i < m → K i ≤ 100000) (w : World) (hb : w.cell? ⟨b, 2, none⟩ = some (.slice (some ⟨g, 0, none⟩) m cap)) (hbF : ¬ HFoot g m V b)
    (h : HeldR 199 3 1 w g n0 m V K X) :
    Calls Tryz.prog 70 #[.pointer (some ⟨b, 0, none⟩)] w fun e w' => e = .returned (.tuple #[]) ∧ HeldR 199 3 1 w' g n0 m V K (fun i => marksV (mkNumber (n0 + i)) (K i)) ∧ Turned (HFoot g m V) w w' := by
 have H := hQ h
 have HK := hQ hK
 have HbF := hQ hbF
 have hbl := World.block_lt_of_cell? w _ hb
 have Hbc := hQ (And.intro hb hbl)
 have hmI : (m : Int) ≤ 1000 := by omega
 clear h hK hbF hbl
 go_enter Tryz.func70, Tryz.ntmps70
 go_wp2
 go_loopw [10] (fun i wr => FillOutNumber w g n0 m V K X i wr) (fun i _ => m - (intOf i).toNat)
 case atStart => exact ⟨0, X, Nat.zero_le _, rfl, H.out, fun i hi => absurd hi (Nat.not_lt_zero _), Turned.refl _ _⟩
 case round =>
  obtain ⟨k, X', hk, rfl, hh, hX, hT⟩ := hrel
  have HT := hQ hT
  by_cases hlt : k < m
  · have hcb : wr.cell? ⟨b, 2, none⟩ = some (.slice (some ⟨g, 0, none⟩) m cap) := (hT.cell (p := ⟨b, 2, none⟩) Hbc.out.2 HbF.out).trans Hbc.out.1
    obtain ⟨d0, d1, _, hgl⟩ := hh.cells hlt
    obtain ⟨a, c, hv⟩ := hh.slice hlt
    have hl := HK.out k hlt
    have Hh := hQ hh
    have HX := hQ hX
    have hne := hh.ne k hlt
    have hown := hh.own k hlt
    rw [hv] at d0 hne hown
    have Hv := hQ hv
    have Hne := hQ hne
    have Hown := hQ hown
    obtain ⟨n, hnK⟩ : ∃ n, n = K k := ⟨_, rfl⟩
    rw [← hnK] at d0 hl Hown Hv Hne
    have HnK := hQ hnK
    have hkI : (k : Int) < m := by omega
    have hlI : (n : Int) ≤ 100000 := by omega
    have hfoot : ∀ x, (Value.slice a n c).ownBlock = some x → HFoot g m V x := fun x hx => .inr ⟨k, hlt, by rw [Hv.out]; exact hx⟩
    have Hfoot := hQ hfoot
    clear hT hh hX hv hne hown hnK hfoot
    go_wp2
    go_loopw [24] (fun i wq => FillInNumber wr (.slice a n c) n0 k i wq) (fun i _ => n - (intOf i).toNat)
    case atStart => exact ⟨0, rfl, Turned.refl _ _, mark_start Hown.out⟩
    case round =>
     obtain ⟨j, rfl, hq, hm⟩ := hrel
     have Hq := hQ hq
     by_cases hjl : j < n
     · obtain ⟨r, rfl⟩ : ∃ r, a = some ⟨r, 0, none⟩ := by
         rcases Hown.out.2 with ⟨_, h0⟩ | ⟨r, cap', cur, hv', _⟩
         · omega
         · exact ⟨r, by injection hv'⟩
       obtain ⟨_, hm⟩ := hm r n c rfl
       have hnc := (own_row Hown.out).2.1
       have q0 := (hq.cell (p := ⟨g, k * 2, none⟩) hgl (fun e => Hne.out e)).trans d0
       have q1 := (hq.cell (p := ⟨g, k * 2 + 1, none⟩) hgl (fun e => Hne.out e)).trans d1
       have hrl := (hm.cell (k := j) (t := 0) (by omega) (by omega)).2.2
       have hgl2 : g < wr.heap.size := Nat.lt_of_lt_of_le hgl hq.size
       have Hm := hQ hm
       have hjI : (j : Int) < n := by omega
       have hj0 : (0 : Int) ≤ (j : Int) := Int.natCast_nonneg _
       have hnk : (((n0 + k : Nat) : Int)) ≤ 1000 := by omega
       clear d0 d1 hcb hq hm
       go_wp2_with fail
       go_region_with (go_at_call 55; refine (markNumber_any (n0 + k) (by omega) _).mono ?_; rintro e w3 ⟨rfl, hw3⟩; have hb3 : Below wr.heap.size wr w3 := (by rw [hw3]; exact ⟨rfl, rfl, rfl, Nat.le_refl _, fun _ _ => rfl⟩); clear hw3; have q0' := (hb3.cell (p := ⟨g, k * 2, none⟩) hgl2).trans q0; have q1' := (hb3.cell (p := ⟨g, k * 2 + 1, none⟩) hgl2).trans q1; have hm3 := Hm.out.kept (hb3.block r hrl); obtain ⟨⟨v0, s0⟩, f0, _⟩ := hm3.cell (k := j) (t := 0) (show j < c by omega) (by omega); rw [Nat.add_zero, Nat.mul_one] at s0 f0; have Hm3 := hQ hm3; have Hb3 := hQ hb3; clear hm3 hb3)
       all_goals
        (try clear q0' q1')
        clear q0 q1 s0 f0
        go_wp2
        obtain ⟨f1, f2⟩ := fill_step Hq.out ⟨Hb3.out.os, Hb3.out.tape, Hb3.out.output, Hb3.out.size, Hb3.out.block⟩ Hm3.out rfl hjl hnc (by unfold World.setCells; rw [Nat.mul_one])
        exact ⟨⟨j + 1, by go_num, f1, f2⟩, by simp [intOf]; omega⟩
     · have hm' : ∀ r n' c', (Value.slice a n c) = .slice (some ⟨r, 0, none⟩) n' c' → n ≤ n' ∧ MarkedTo wr r 3 1 c' (mkNumber (n0 + k)) n := fun r n' c' e => by
         obtain ⟨h1, h2⟩ := hm r n' c' e
         obtain ⟨_, rfl, rfl⟩ : a = some ⟨r, 0, none⟩ ∧ n = n' ∧ c = c' := by simpa using e
         obtain rfl : j = n := by omega
         exact ⟨h1, h2⟩
       have hd := fill_done Hown.out hm' rfl
       rw [← Hv.out, HnK.out] at hd
       have hjI : ¬ (j : Int) < n := by omega
       have hf := Hh.out.filled hlt (by rw [Hv.out]; exact Hq.out) hd
       have hT2 := HT.out.trans Hq.out (fun x _ hx => Hfoot.out x hx)
       have Hf := hQ hf
       have HT2 := hQ hT2
       clear hq hm hm' hd hf hT2 d0 d1 hcb
       go_wp2
       refine ⟨⟨k + 1, _, by omega, by go_num, Hf.out, fun i hi => ?_, HT2.out⟩, by simp [intOf]; omega⟩
       by_cases e : i = k
       · subst e; rw [uSm]
       · rw [uOt e]; exact HX.out i (by omega)
  · obtain rfl : k = m := by omega
    have Hh := hQ hh
    have HX := hQ hX
    have hkI : ¬ (k : Int) < k := by omega
    clear hh hX hT
    go_wp2
    go_end0
    exact ⟨rfl, Hh.out.congr (fun _ _ => rfl) (fun i hi => (HX.out i hi).symm), HT.out⟩
def FillOutSeal (w0 : World) (g n0 m : Nat) (V : Nat → Value) (K : Nat → Nat) (X : Nat → List Value) (i : Value) (wr : World) : Prop :=
 ∃ (k : Nat) (X' : Nat → List Value), k ≤ m ∧ i = .int .i64 k ∧ HeldR 196 143 3 wr g n0 m V K X' ∧ (∀ i, i < k → X' i = marksV (mkSeal (n0 + i)) (K i)) ∧ Turned (HFoot g m V) w0 wr
def FillInSeal (w0 : World) (v : Value) (n0 k : Nat) (i : Value) (wr : World) : Prop :=
 ∃ j : Nat, i = .int .i64 j ∧ Turned (fun x => v.ownBlock = some x) w0 wr ∧ ∀ r n c, v = .slice (some ⟨r, 0, none⟩) n c → j ≤ n ∧ MarkedTo wr r 143 3 c (mkSeal (n0 + k)) j
theorem fillSeal_any (b g n0 m cap : Nat) (V : Nat → Value) (K : Nat → Nat) (X : Nat → List Value) (hn : n0 + m ≤ 1000) (hK : ∀ i, i < m → K i ≤ 100000) (w : World) (hb : w.cell? ⟨b, 6, none⟩ = some (.slice (some ⟨g, 0, none⟩) m cap)) (hbF : ¬ HFoot g m V b)
    (h : HeldR 196 143 3 w g n0 m V K X) :
    Calls Tryz.prog 74 #[.pointer (some ⟨b, 0, none⟩)] w fun e w' => e = .returned (.tuple #[]) ∧ HeldR 196 143 3 w' g n0 m V K (fun i => marksV (mkSeal (n0 + i)) (K i)) ∧ Turned (HFoot g m V) w w' := by
 have H := hQ h
 have HK := hQ hK
 have HbF := hQ hbF
 have hbl := World.block_lt_of_cell? w _ hb
 have Hbc := hQ (And.intro hb hbl)
 have hmI : (m : Int) ≤ 1000 := by omega
 clear h hK hbF hbl
 go_enter Tryz.func74, Tryz.ntmps74
 go_wp2
 go_loopw [10] (fun i wr => FillOutSeal w g n0 m V K X i wr) (fun i _ => m - (intOf i).toNat)
 case atStart => exact ⟨0, X, Nat.zero_le _, rfl, H.out, fun i hi => absurd hi (Nat.not_lt_zero _), Turned.refl _ _⟩
 case round =>
  obtain ⟨k, X', hk, rfl, hh, hX, hT⟩ := hrel
  have HT := hQ hT
  by_cases hlt : k < m
  · have hcb : wr.cell? ⟨b, 6, none⟩ = some (.slice (some ⟨g, 0, none⟩) m cap) := (hT.cell (p := ⟨b, 6, none⟩) Hbc.out.2 HbF.out).trans Hbc.out.1
    obtain ⟨d0, d1, _, hgl⟩ := hh.cells hlt
    obtain ⟨a, c, hv⟩ := hh.slice hlt
    have hl := HK.out k hlt
    have Hh := hQ hh
    have HX := hQ hX
    have hne := hh.ne k hlt
    have hown := hh.own k hlt
    rw [hv] at d0 hne hown
    have Hv := hQ hv
    have Hne := hQ hne
    have Hown := hQ hown
    obtain ⟨n, hnK⟩ : ∃ n, n = K k := ⟨_, rfl⟩
    rw [← hnK] at d0 hl Hown Hv Hne
    have HnK := hQ hnK
    have hkI : (k : Int) < m := by omega
    have hlI : (n : Int) ≤ 100000 := by omega
    have hfoot : ∀ x, (Value.slice a n c).ownBlock = some x → HFoot g m V x := fun x hx => .inr ⟨k, hlt, by rw [Hv.out]; exact hx⟩
    have Hfoot := hQ hfoot
    clear hT hh hX hv hne hown hnK hfoot
    go_wp2
    go_loopw [24] (fun i wq => FillInSeal wr (.slice a n c) n0 k i wq) (fun i _ => n - (intOf i).toNat)
    case atStart => exact ⟨0, rfl, Turned.refl _ _, mark_start Hown.out⟩
    case round =>
     obtain ⟨j, rfl, hq, hm⟩ := hrel
     have Hq := hQ hq
     by_cases hjl : j < n
     · obtain ⟨r, rfl⟩ : ∃ r, a = some ⟨r, 0, none⟩ := by
         rcases Hown.out.2 with ⟨_, h0⟩ | ⟨r, cap', cur, hv', _⟩
         · omega
         · exact ⟨r, by injection hv'⟩
       obtain ⟨_, hm⟩ := hm r n c rfl
       have hnc := (own_row Hown.out).2.1
       have q0 := (hq.cell (p := ⟨g, k * 2, none⟩) hgl (fun e => Hne.out e)).trans d0
       have q1 := (hq.cell (p := ⟨g, k * 2 + 1, none⟩) hgl (fun e => Hne.out e)).trans d1
       have hrl := (hm.cell (k := j) (t := 0) (by omega) (by omega)).2.2
       have hgl2 : g < wr.heap.size := Nat.lt_of_lt_of_le hgl hq.size
       have Hm := hQ hm
       have hjI : (j : Int) < n := by omega
       have hj0 : (0 : Int) ≤ (j : Int) := Int.natCast_nonneg _
       have hnk : (((n0 + k : Nat) : Int)) ≤ 1000 := by omega
       clear d0 d1 hcb hq hm
       go_wp2_with fail
       go_region_with (go_at_call 219; refine (markSeal_any (n0 + k) (by omega) _).mono ?_; rintro e w3 ⟨rfl, hb3⟩; have q0' := (hb3.cell (p := ⟨g, k * 2, none⟩) hgl2).trans q0; have q1' := (hb3.cell (p := ⟨g, k * 2 + 1, none⟩) hgl2).trans q1; have hm3 := Hm.out.kept (hb3.block r hrl); obtain ⟨⟨v0, s0⟩, f0, _⟩ := hm3.cell (k := j) (t := 0) (show j < c by omega) (by omega); rw [Nat.add_zero] at s0 f0; obtain ⟨⟨v1, s1⟩, f1, _⟩ := hm3.cell (k := j) (t := 1) (show j < c by omega) (by omega); obtain ⟨⟨v2, s2⟩, f2, _⟩ := hm3.cell (k := j) (t := 2) (show j < c by omega) (by omega); have Hm3 := hQ hm3; have Hb3 := hQ hb3; clear hm3 hb3)
       all_goals
        (try clear q0' q1')
        clear q0 q1 s0 f0 s1 f1 s2 f2
        go_wp2
        obtain ⟨f1, f2⟩ := fill_step Hq.out ⟨Hb3.out.os, Hb3.out.tape, Hb3.out.output, Hb3.out.size, Hb3.out.block⟩ Hm3.out rfl hjl hnc rfl
        exact ⟨⟨j + 1, by go_num, f1, f2⟩, by simp [intOf]; omega⟩
     · have hm' : ∀ r n' c', (Value.slice a n c) = .slice (some ⟨r, 0, none⟩) n' c' → n ≤ n' ∧ MarkedTo wr r 143 3 c' (mkSeal (n0 + k)) n := fun r n' c' e => by
         obtain ⟨h1, h2⟩ := hm r n' c' e
         obtain ⟨_, rfl, rfl⟩ : a = some ⟨r, 0, none⟩ ∧ n = n' ∧ c = c' := by simpa using e
         obtain rfl : j = n := by omega
         exact ⟨h1, h2⟩
       have hd := fill_done Hown.out hm' rfl
       rw [← Hv.out, HnK.out] at hd
       have hjI : ¬ (j : Int) < n := by omega
       have hf := Hh.out.filled hlt (by rw [Hv.out]; exact Hq.out) hd
       have hT2 := HT.out.trans Hq.out (fun x _ hx => Hfoot.out x hx)
       have Hf := hQ hf
       have HT2 := hQ hT2
       clear hq hm hm' hd hf hT2 d0 d1 hcb
       go_wp2
       refine ⟨⟨k + 1, _, by omega, by go_num, Hf.out, fun i hi => ?_, HT2.out⟩, by simp [intOf]; omega⟩
       by_cases e : i = k
       · subst e; rw [uSm]
       · rw [uOt e]; exact HX.out i (by omega)
  · obtain rfl : k = m := by omega
    have Hh := hQ hh
    have HX := hQ hX
    have hkI : ¬ (k : Int) < k := by omega
    clear hh hX hT
    go_wp2
    go_end0
    exact ⟨rfl, Hh.out.congr (fun _ _ => rfl) (fun i hi => (HX.out i hi).symm), HT.out⟩
def FillOutKey (w0 : World) (g n0 m : Nat) (V : Nat → Value) (K : Nat → Nat) (X : Nat → List Value) (i : Value) (wr : World) : Prop :=
 ∃ (k : Nat) (X' : Nat → List Value), k ≤ m ∧ i = .int .i64 k ∧ HeldR 194 123 2 wr g n0 m V K X' ∧ (∀ i, i < k → X' i = marksV (mkKey (n0 + i)) (K i)) ∧ Turned (HFoot g m V) w0 wr
def FillInKey (w0 : World) (v : Value) (n0 k : Nat) (i : Value) (wr : World) : Prop :=
 ∃ j : Nat, i = .int .i64 j ∧ Turned (fun x => v.ownBlock = some x) w0 wr ∧ ∀ r n c, v = .slice (some ⟨r, 0, none⟩) n c → j ≤ n ∧ MarkedTo wr r 123 2 c (mkKey (n0 + k)) j
theorem fillKey_any (b g n0 m cap : Nat) (V : Nat → Value) (K : Nat → Nat) (X : Nat → List Value) (hn : n0 + m ≤ 1000) (hK : ∀ i, i < m → K i ≤ 100000) (w : World) (hb : w.cell? ⟨b, 7, none⟩ = some (.slice (some ⟨g, 0, none⟩) m cap)) (hbF : ¬ HFoot g m V b)
    (h : HeldR 194 123 2 w g n0 m V K X) :
    Calls Tryz.prog 75 #[.pointer (some ⟨b, 0, none⟩)] w fun e w' => e = .returned (.tuple #[]) ∧ HeldR 194 123 2 w' g n0 m V K (fun i => marksV (mkKey (n0 + i)) (K i)) ∧ Turned (HFoot g m V) w w' := by
 have H := hQ h
 have HK := hQ hK
 have HbF := hQ hbF
 have hbl := World.block_lt_of_cell? w _ hb
 have Hbc := hQ (And.intro hb hbl)
 have hmI : (m : Int) ≤ 1000 := by omega
 clear h hK hbF hbl
 go_enter Tryz.func75, Tryz.ntmps75
 go_wp2
 go_loopw [10] (fun i wr => FillOutKey w g n0 m V K X i wr) (fun i _ => m - (intOf i).toNat)
 case atStart => exact ⟨0, X, Nat.zero_le _, rfl, H.out, fun i hi => absurd hi (Nat.not_lt_zero _), Turned.refl _ _⟩
 case round =>
  obtain ⟨k, X', hk, rfl, hh, hX, hT⟩ := hrel
  have HT := hQ hT
  by_cases hlt : k < m
  · have hcb : wr.cell? ⟨b, 7, none⟩ = some (.slice (some ⟨g, 0, none⟩) m cap) := (hT.cell (p := ⟨b, 7, none⟩) Hbc.out.2 HbF.out).trans Hbc.out.1
    obtain ⟨d0, d1, _, hgl⟩ := hh.cells hlt
    obtain ⟨a, c, hv⟩ := hh.slice hlt
    have hl := HK.out k hlt
    have Hh := hQ hh
    have HX := hQ hX
    have hne := hh.ne k hlt
    have hown := hh.own k hlt
    rw [hv] at d0 hne hown
    have Hv := hQ hv
    have Hne := hQ hne
    have Hown := hQ hown
    obtain ⟨n, hnK⟩ : ∃ n, n = K k := ⟨_, rfl⟩
    rw [← hnK] at d0 hl Hown Hv Hne
    have HnK := hQ hnK
    have hkI : (k : Int) < m := by omega
    have hlI : (n : Int) ≤ 100000 := by omega
    have hfoot : ∀ x, (Value.slice a n c).ownBlock = some x → HFoot g m V x := fun x hx => .inr ⟨k, hlt, by rw [Hv.out]; exact hx⟩
    have Hfoot := hQ hfoot
    clear hT hh hX hv hne hown hnK hfoot
    go_wp2
    go_loopw [24] (fun i wq => FillInKey wr (.slice a n c) n0 k i wq) (fun i _ => n - (intOf i).toNat)
    case atStart => exact ⟨0, rfl, Turned.refl _ _, mark_start Hown.out⟩
    case round =>
     obtain ⟨j, rfl, hq, hm⟩ := hrel
     have Hq := hQ hq
     by_cases hjl : j < n
     · obtain ⟨r, rfl⟩ : ∃ r, a = some ⟨r, 0, none⟩ := by
         rcases Hown.out.2 with ⟨_, h0⟩ | ⟨r, cap', cur, hv', _⟩
         · omega
         · exact ⟨r, by injection hv'⟩
       obtain ⟨_, hm⟩ := hm r n c rfl
       have hnc := (own_row Hown.out).2.1
       have q0 := (hq.cell (p := ⟨g, k * 2, none⟩) hgl (fun e => Hne.out e)).trans d0
       have q1 := (hq.cell (p := ⟨g, k * 2 + 1, none⟩) hgl (fun e => Hne.out e)).trans d1
       have hrl := (hm.cell (k := j) (t := 0) (by omega) (by omega)).2.2
       have hgl2 : g < wr.heap.size := Nat.lt_of_lt_of_le hgl hq.size
       have Hm := hQ hm
       have hjI : (j : Int) < n := by omega
       have hj0 : (0 : Int) ≤ (j : Int) := Int.natCast_nonneg _
       have hnk : (((n0 + k : Nat) : Int)) ≤ 1000 := by omega
       clear d0 d1 hcb hq hm
       go_wp2_with fail
       go_region_with (go_at_call 220; refine (markKey_any (n0 + k) (by omega) _).mono ?_; rintro e w3 ⟨rfl, hb3⟩; have q0' := (hb3.cell (p := ⟨g, k * 2, none⟩) hgl2).trans q0; have q1' := (hb3.cell (p := ⟨g, k * 2 + 1, none⟩) hgl2).trans q1; have hm3 := Hm.out.kept (hb3.block r hrl); obtain ⟨⟨v0, s0⟩, f0, _⟩ := hm3.cell (k := j) (t := 0) (show j < c by omega) (by omega); rw [Nat.add_zero] at s0 f0; obtain ⟨⟨v1, s1⟩, f1, _⟩ := hm3.cell (k := j) (t := 1) (show j < c by omega) (by omega); have Hm3 := hQ hm3; have Hb3 := hQ hb3; clear hm3 hb3)
       all_goals
        (try clear q0' q1')
        clear q0 q1 s0 f0 s1 f1
        go_wp2
        obtain ⟨f1, f2⟩ := fill_step Hq.out ⟨Hb3.out.os, Hb3.out.tape, Hb3.out.output, Hb3.out.size, Hb3.out.block⟩ Hm3.out rfl hjl hnc rfl
        exact ⟨⟨j + 1, by go_num, f1, f2⟩, by simp [intOf]; omega⟩
     · have hm' : ∀ r n' c', (Value.slice a n c) = .slice (some ⟨r, 0, none⟩) n' c' → n ≤ n' ∧ MarkedTo wr r 123 2 c' (mkKey (n0 + k)) n := fun r n' c' e => by
         obtain ⟨h1, h2⟩ := hm r n' c' e
         obtain ⟨_, rfl, rfl⟩ : a = some ⟨r, 0, none⟩ ∧ n = n' ∧ c = c' := by simpa using e
         obtain rfl : j = n := by omega
         exact ⟨h1, h2⟩
       have hd := fill_done Hown.out hm' rfl
       rw [← Hv.out, HnK.out] at hd
       have hjI : ¬ (j : Int) < n := by omega
       have hf := Hh.out.filled hlt (by rw [Hv.out]; exact Hq.out) hd
       have hT2 := HT.out.trans Hq.out (fun x _ hx => Hfoot.out x hx)
       have Hf := hQ hf
       have HT2 := hQ hT2
       clear hq hm hm' hd hf hT2 d0 d1 hcb
       go_wp2
       refine ⟨⟨k + 1, _, by omega, by go_num, Hf.out, fun i hi => ?_, HT2.out⟩, by simp [intOf]; omega⟩
       by_cases e : i = k
       · subst e; rw [uSm]
       · rw [uOt e]; exact HX.out i (by omega)
  · obtain rfl : k = m := by omega
    have Hh := hQ hh
    have HX := hQ hX
    have hkI : ¬ (k : Int) < k := by omega
    clear hh hX hT
    go_wp2
    go_end0
    exact ⟨rfl, Hh.out.congr (fun _ _ => rfl) (fun i hi => (HX.out i hi).symm), HT.out⟩
def FillOutNode (w0 : World) (g n0 m : Nat) (V : Nat → Value) (K : Nat → Nat) (X : Nat → List Value) (i : Value) (wr : World) : Prop :=
 ∃ (k : Nat) (X' : Nat → List Value), k ≤ m ∧ i = .int .i64 k ∧ HeldR 296 125 4 wr g n0 m V K X' ∧ (∀ i, i < k → X' i = marksV (mkNode (n0 + i)) (K i)) ∧ Turned (HFoot g m V) w0 wr
def FillInNode (w0 : World) (v : Value) (n0 k : Nat) (i : Value) (wr : World) : Prop :=
 ∃ j : Nat, i = .int .i64 j ∧ Turned (fun x => v.ownBlock = some x) w0 wr ∧ ∀ r n c, v = .slice (some ⟨r, 0, none⟩) n c → j ≤ n ∧ MarkedTo wr r 125 4 c (mkNode (n0 + k)) j
theorem fillNode_any (b g n0 m cap : Nat) (V : Nat → Value) (K : Nat → Nat) (X : Nat → List Value) (hn : n0 + m ≤ 1000) (hK : ∀ i, i < m → K i ≤ 100000) (w : World) (hb : w.cell? ⟨b, 19, none⟩ = some (.slice (some ⟨g, 0, none⟩) m cap)) (hbF : ¬ HFoot g m V b)
    (h : HeldR 296 125 4 w g n0 m V K X) :
    Calls Tryz.prog 87 #[.pointer (some ⟨b, 0, none⟩)] w fun e w' => e = .returned (.tuple #[]) ∧ HeldR 296 125 4 w' g n0 m V K (fun i => marksV (mkNode (n0 + i)) (K i)) ∧ Turned (HFoot g m V) w w' := by
 have H := hQ h
 have HK := hQ hK
 have HbF := hQ hbF
 have hbl := World.block_lt_of_cell? w _ hb
 have Hbc := hQ (And.intro hb hbl)
 have hmI : (m : Int) ≤ 1000 := by omega
 clear h hK hbF hbl
 go_enter Tryz.func87, Tryz.ntmps87
 go_wp2
 go_loopw [10] (fun i wr => FillOutNode w g n0 m V K X i wr) (fun i _ => m - (intOf i).toNat)
 case atStart => exact ⟨0, X, Nat.zero_le _, rfl, H.out, fun i hi => absurd hi (Nat.not_lt_zero _), Turned.refl _ _⟩
 case round =>
  obtain ⟨k, X', hk, rfl, hh, hX, hT⟩ := hrel
  have HT := hQ hT
  by_cases hlt : k < m
  · have hcb : wr.cell? ⟨b, 19, none⟩ = some (.slice (some ⟨g, 0, none⟩) m cap) := (hT.cell (p := ⟨b, 19, none⟩) Hbc.out.2 HbF.out).trans Hbc.out.1
    obtain ⟨d0, d1, _, hgl⟩ := hh.cells hlt
    obtain ⟨a, c, hv⟩ := hh.slice hlt
    have hl := HK.out k hlt
    have Hh := hQ hh
    have HX := hQ hX
    have hne := hh.ne k hlt
    have hown := hh.own k hlt
    rw [hv] at d0 hne hown
    have Hv := hQ hv
    have Hne := hQ hne
    have Hown := hQ hown
    obtain ⟨n, hnK⟩ : ∃ n, n = K k := ⟨_, rfl⟩
    rw [← hnK] at d0 hl Hown Hv Hne
    have HnK := hQ hnK
    have hkI : (k : Int) < m := by omega
    have hlI : (n : Int) ≤ 100000 := by omega
    have hfoot : ∀ x, (Value.slice a n c).ownBlock = some x → HFoot g m V x := fun x hx => .inr ⟨k, hlt, by rw [Hv.out]; exact hx⟩
    have Hfoot := hQ hfoot
    clear hT hh hX hv hne hown hnK hfoot
    go_wp2
    go_loopw [24] (fun i wq => FillInNode wr (.slice a n c) n0 k i wq) (fun i _ => n - (intOf i).toNat)
    case atStart => exact ⟨0, rfl, Turned.refl _ _, mark_start Hown.out⟩
    case round =>
     obtain ⟨j, rfl, hq, hm⟩ := hrel
     have Hq := hQ hq
     by_cases hjl : j < n
     · obtain ⟨r, rfl⟩ : ∃ r, a = some ⟨r, 0, none⟩ := by
         rcases Hown.out.2 with ⟨_, h0⟩ | ⟨r, cap', cur, hv', _⟩
         · omega
         · exact ⟨r, by injection hv'⟩
       obtain ⟨_, hm⟩ := hm r n c rfl
       have hnc := (own_row Hown.out).2.1
       have q0 := (hq.cell (p := ⟨g, k * 2, none⟩) hgl (fun e => Hne.out e)).trans d0
       have q1 := (hq.cell (p := ⟨g, k * 2 + 1, none⟩) hgl (fun e => Hne.out e)).trans d1
       have hrl := (hm.cell (k := j) (t := 0) (by omega) (by omega)).2.2
       have hgl2 : g < wr.heap.size := Nat.lt_of_lt_of_le hgl hq.size
       have Hm := hQ hm
       have hjI : (j : Int) < n := by omega
       have hj0 : (0 : Int) ≤ (j : Int) := Int.natCast_nonneg _
       have hnk : (((n0 + k : Nat) : Int)) ≤ 1000 := by omega
       clear d0 d1 hcb hq hm
       go_wp2_with fail
       go_region_with (go_at_call 199; refine (markNode_any (n0 + k) (by omega) _).mono ?_; rintro e w3 ⟨rfl, hb3⟩; have q0' := (hb3.cell (p := ⟨g, k * 2, none⟩) hgl2).trans q0; have q1' := (hb3.cell (p := ⟨g, k * 2 + 1, none⟩) hgl2).trans q1; have hm3 := Hm.out.kept (hb3.block r hrl); obtain ⟨⟨v0, s0⟩, f0, _⟩ := hm3.cell (k := j) (t := 0) (show j < c by omega) (by omega); rw [Nat.add_zero] at s0 f0; obtain ⟨⟨v1, s1⟩, f1, _⟩ := hm3.cell (k := j) (t := 1) (show j < c by omega) (by omega); obtain ⟨⟨v2, s2⟩, f2, _⟩ := hm3.cell (k := j) (t := 2) (show j < c by omega) (by omega); obtain ⟨⟨v3, s3⟩, f3, _⟩ := hm3.cell (k := j) (t := 3) (show j < c by omega) (by omega); have Hm3 := hQ hm3; have Hb3 := hQ hb3; clear hm3 hb3)
       all_goals
        (try clear q0' q1')
        clear q0 q1 s0 f0 s1 f1 s2 f2 s3 f3
        go_wp2
        obtain ⟨f1, f2⟩ := fill_step Hq.out ⟨Hb3.out.os, Hb3.out.tape, Hb3.out.output, Hb3.out.size, Hb3.out.block⟩ Hm3.out rfl hjl hnc rfl
        exact ⟨⟨j + 1, by go_num, f1, f2⟩, by simp [intOf]; omega⟩
     · have hm' : ∀ r n' c', (Value.slice a n c) = .slice (some ⟨r, 0, none⟩) n' c' → n ≤ n' ∧ MarkedTo wr r 125 4 c' (mkNode (n0 + k)) n := fun r n' c' e => by
         obtain ⟨h1, h2⟩ := hm r n' c' e
         obtain ⟨_, rfl, rfl⟩ : a = some ⟨r, 0, none⟩ ∧ n = n' ∧ c = c' := by simpa using e
         obtain rfl : j = n := by omega
         exact ⟨h1, h2⟩
       have hd := fill_done Hown.out hm' rfl
       rw [← Hv.out, HnK.out] at hd
       have hjI : ¬ (j : Int) < n := by omega
       have hf := Hh.out.filled hlt (by rw [Hv.out]; exact Hq.out) hd
       have hT2 := HT.out.trans Hq.out (fun x _ hx => Hfoot.out x hx)
       have Hf := hQ hf
       have HT2 := hQ hT2
       clear hq hm hm' hd hf hT2 d0 d1 hcb
       go_wp2
       refine ⟨⟨k + 1, _, by omega, by go_num, Hf.out, fun i hi => ?_, HT2.out⟩, by simp [intOf]; omega⟩
       by_cases e : i = k
       · subst e; rw [uSm]
       · rw [uOt e]; exact HX.out i (by omega)
  · obtain rfl : k = m := by omega
    have Hh := hQ hh
    have HX := hQ hX
    have hkI : ¬ (k : Int) < k := by omega
    clear hh hX hT
    go_wp2
    go_end0
    exact ⟨rfl, Hh.out.congr (fun _ _ => rfl) (fun i hi => (HX.out i hi).symm), HT.out⟩
end
end Go.Proofs.YtedpljclnpiggaaGreatDoor
