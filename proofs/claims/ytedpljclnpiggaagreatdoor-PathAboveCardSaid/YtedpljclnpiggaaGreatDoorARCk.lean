/-
  The document's twice, some of any tree.
-/
import Derived.BigQuiet
import Derived.Test.YtedpljclnpiggaaGreatDoorARPar
import Derived.Test.YtedpljclnpiggaaGreatDoorACk
set_option linter.unusedVariables false
set_option linter.unusedSimpArgs false
namespace Go.Proofs.YtedpljclnpiggaaGreatDoor
open Go Go.RowKit

def TwRel (T : List NodeD) (w1 : World) (i : Value) (wr : World) : Prop :=
  ∃ (k d : Nat), k % 2 = 0 ∧ k ≤ T.length + 1 ∧ i = .int .i64 k ∧ wr = w1.drewN d ∧
    ¬ ∃ i j, j < i ∧ i < T.length ∧ i < k ∧ i % 2 = 0 ∧ j % 2 = 0 ∧ (nodeD T i).pub ≠ 0 ∧ (nodeD T j).pub ≠ 0 ∧ (nodeD T i).mem = (nodeD T j).mem
def Tw2Rel (T : List NodeD) (k : Nat) (w1 : World) (i : Value) (wr : World) : Prop :=
  ∃ (j d : Nat), j % 2 = 0 ∧ j ≤ k ∧ i = .int .i64 j ∧ wr = w1.drewN d ∧
    ¬ ∃ j', j' < j ∧ j' % 2 = 0 ∧ (nodeD T k).pub ≠ 0 ∧ (nodeD T j').pub ≠ 0 ∧ (nodeD T k).mem = (nodeD T j').mem

set_option maxRecDepth 100000 in
set_option maxHeartbeats 1600000 in
theorem artwice_any (B : Nat) (T : List NodeD) (hlen : T.length ≤ 262144) (a : Option Addr) (c : Nat) (w : World) (hB : B ≤ w.heap.size) (hT : TreeAt B w a T) :
    Calls Tryz.prog 194 #[.agg #[.slice a T.length c]] w fun r w' => (∃ b : Bool, r = .returned (.bool b) ∧ (b = true ↔ twiceD T)) ∧ Below w.heap.size w w' := by
  have hb := (Below.refl w.heap.size w).alloc (Nat.le_refl _) (.cells #[.slice a T.length c] 44)
  have hrow := row_alloc (w := w) #[.slice a T.length c] 44 (0, 0)
  have hT1 := hT.below (hb.mono hB)
  have hlI : (T.length : Int) ≤ 262144 := by omega
  go_enter Tryz.func194, Tryz.ntmps194
  go_wp2
  obtain ⟨q, hq⟩ : ∃ q, q = w.heap.size := ⟨_, rfl⟩
  rw [← hq] at hrow ⊢
  have kb0 := (cell_row hrow 0).trans rfl
  have Hb := Lib.hid hb; clear hb hq hT hB
  generalize w.alloc (.cells #[.slice a T.length c] 44) = w1 at Hb hT1 hrow kb0 ⊢
  have HT := Lib.hid hT1; clear hT1 hrow
  have Hkb := Lib.hid kb0; clear kb0
  go_loopw [3] (fun i wr => TwRel T w1 i wr) (fun i _ => T.length + 2 - (intOf i).toNat)
  case atStart => exact ⟨0, 0, rfl, by omega, rfl, rfl, fun ⟨i, j, h1, h2, h3, _⟩ => by omega⟩
  case round =>
    obtain ⟨k, d, hk2, hk, rfl, hwr, hno⟩ := hrel
    obtain ⟨wo, rfl⟩ : ∃ wo, wr = wo := ⟨wr, rfl⟩
    have hcell : ∀ p, wr.cell? p = w1.cell? p := fun p => by rw [hwr]; rfl
    have kb := (hcell ⟨q, 0, none⟩).trans Hkb.out
    have Hno := Lib.hid hno; clear hno
    have Hk := Lib.hid (And.intro hk2 hk); clear hk2 hk
    have Hwr := Lib.hid hwr; clear hwr
    by_cases hlt : k < T.length
    · have hkI : (k : Int) < T.length := by omega
      have Hlt := Lib.hid hlt
      clear hlt
      have Hcell := Lib.hid hcell; clear hcell
      obtain ⟨b, o, rfl, hnk⟩ := HT.out k Hlt.out
      have Hnk := Lib.hid hnk; clear hnk
      go_wp2
      go_loopw [4] (fun i w2 => Tw2Rel T k wr i w2) (fun i _ => k - (intOf i).toNat)
      case atStart => exact ⟨0, 0, rfl, by omega, rfl, rfl, fun ⟨j, h1, _⟩ => by omega⟩
      case round =>
        obtain ⟨j, d2, hj2, hj, rfl, hw2, hno2⟩ := hrel
        obtain ⟨w2, rfl⟩ : ∃ w2, wr = w2 := ⟨wr, rfl⟩
        have hcell2 : ∀ p, wr.cell? p = w1.cell? p := fun p => by rw [hw2]; exact Hcell.out p
        have kb2 := (hcell2 ⟨q, 0, none⟩).trans Hkb.out
        have Hno2 := Lib.hid hno2; clear hno2
        have Hj := Lib.hid (And.intro hj2 hj); clear hj2 hj
        have Hw2 := Lib.hid hw2; clear hw2
        by_cases hjk : j < k
        · have hjI : (j : Int) < k := by omega
          have hjT : (j : Int) < T.length := by omega
          obtain ⟨b', o', e, hnj⟩ := HT.out j (by omega)
          obtain ⟨rfl, rfl⟩ : b = b' ∧ o = o' := by simpa using e
          have k0 := (hcell2 _).trans Hnk.out.c0
          have k1 := (hcell2 _).trans Hnk.out.c1
          have j0 := (hcell2 _).trans hnj.c0
          have j1 := (hcell2 _).trans hnj.c1
          clear hcell2 hnj e kb
          have hcase : (nodeD T k).pub = 0 ∨ ((nodeD T k).pub ≠ 0 ∧ (nodeD T j).pub = 0) ∨ ((nodeD T k).pub ≠ 0 ∧ (nodeD T j).pub ≠ 0 ∧ (nodeD T k).mem ≠ (nodeD T j).mem) ∨ ((nodeD T k).pub ≠ 0 ∧ (nodeD T j).pub ≠ 0 ∧ (nodeD T k).mem = (nodeD T j).mem) := by omega
          have hstep : ¬ ((nodeD T k).pub ≠ 0 ∧ (nodeD T j).pub ≠ 0 ∧ (nodeD T k).mem = (nodeD T j).mem) → ¬ ∃ j', j' < j + 2 ∧ j' % 2 = 0 ∧ (nodeD T k).pub ≠ 0 ∧ (nodeD T j').pub ≠ 0 ∧ (nodeD T k).mem = (nodeD T j').mem := fun h ⟨j', e1, e2, e3⟩ => by
            by_cases e : j' = j
            · subst e; exact h e3
            · exact Hno2.out ⟨j', by have := Hj.out.1; omega, e2, e3⟩
          have htw : ((nodeD T k).pub ≠ 0 ∧ (nodeD T j).pub ≠ 0 ∧ (nodeD T k).mem = (nodeD T j).mem) → twiceD T := fun h => ⟨k, j, hjk, Hlt.out, Hk.out.1, Hj.out.1, h.1, h.2.1, h.2.2⟩
          have hj2I : (j : Int) ≤ 262144 := by omega
          obtain ⟨P1, hP1⟩ : ∃ P : Prop, P = ¬ ∃ j', j' < j + 2 ∧ j' % 2 = 0 ∧ (nodeD T k).pub ≠ 0 ∧ (nodeD T j').pub ≠ 0 ∧ (nodeD T k).mem = (nodeD T j').mem := ⟨_, rfl⟩
          rw [← hP1] at hstep
          have HP1 := Lib.hid hP1; clear hP1
          have hd : (Hid P1 ∧ ((nodeD T k).pub = 0 ∨ ((nodeD T k).pub ≠ 0 ∧ (nodeD T j).pub = 0) ∨ ((nodeD T k).pub ≠ 0 ∧ (nodeD T j).pub ≠ 0 ∧ (nodeD T k).mem ≠ (nodeD T j).mem))) ∨
              (Hid (twiceD T) ∧ (nodeD T k).pub ≠ 0 ∧ (nodeD T j).pub ≠ 0 ∧ (nodeD T k).mem = (nodeD T j).mem) := by
            rcases hcase with h | h | h | h
            · exact .inl ⟨Lib.hid (hstep (fun h2 => h2.1 h)), .inl h⟩
            · exact .inl ⟨Lib.hid (hstep (fun h2 => h2.2.1 h.2)), .inr (.inl h)⟩
            · exact .inl ⟨Lib.hid (hstep (fun h2 => h.2.2 h2.2.2)), .inr (.inr h)⟩
            · exact .inr ⟨Lib.hid (htw h), h⟩
          clear hcase hstep htw
          generalize (nodeD T k).pub = pk at k0 hd
          generalize (nodeD T j).pub = pj at j0 hd
          generalize (nodeD T k).mem = mk at k1 hd
          generalize (nodeD T j).mem = mj at j1 hd
          rcases hd with ⟨Hs, rfl | ⟨h1, rfl⟩ | ⟨h1, h2, h3⟩⟩ | ⟨Ht, h1, h2, rfl⟩
          · go_wp2_with fail
            go_quiet (fail)
            go_wp2
            exact ⟨⟨j + 2, d2 + nq, by have := Hj.out.1; omega, by have := Hj.out.1; have := Hk.out.1; omega, by go_num, by rw [Hw2.out, World.drewN_drewN], by have := Hs.out; rw [HP1.out] at this; exact this⟩, by simp [intOf]; omega⟩
          · have g1 : (pk != 0) = true := by simpa using h1
            go_wp2_with fail
            go_quiet (fail)
            go_wp2
            exact ⟨⟨j + 2, d2 + nq, by have := Hj.out.1; omega, by have := Hj.out.1; have := Hk.out.1; omega, by go_num, by rw [Hw2.out, World.drewN_drewN], by have := Hs.out; rw [HP1.out] at this; exact this⟩, by simp [intOf]; omega⟩
          · have g1 : (pk != 0) = true := by simpa using h1
            have g2 : (pj != 0) = true := by simpa using h2
            have g3 : (mk == mj) = false := beq_eq_false_iff_ne.2 h3
            go_wp2_with fail
            go_quiet (fail)
            go_wp2
            exact ⟨⟨j + 2, d2 + nq, by have := Hj.out.1; omega, by have := Hj.out.1; have := Hk.out.1; omega, by go_num, by rw [Hw2.out, World.drewN_drewN], by have := Hs.out; rw [HP1.out] at this; exact this⟩, by simp [intOf]; omega⟩
          · have g1 : (pk != 0) = true := by simpa using h1
            have g2 : (pj != 0) = true := by simpa using h2
            go_wp2_with fail
            go_quiet (fail)
            go_wp2
            go_ret
            exact ⟨⟨true, rfl, by simp [Ht.out]⟩, by rw [Hw2.out, Hwr.out]; exact below_drewN (below_drewN (below_drewN Hb.out _) _) _⟩
        · have hjk2 : j = k := by have := Hj.out.2; omega
          have hjI : ¬ (j : Int) < k := by omega
          have Hjk := Lib.hid hjk2
          have hkB : (k : Int) ≤ 262144 := by omega
          clear hjk2 hcell2 kb
          go_wp2
          refine ⟨⟨k + 2, d + d2, by have := Hk.out.1; omega, by omega, by go_num, by rw [Hw2.out, Hwr.out, World.drewN_drewN], ?_⟩, by simp [intOf]; omega⟩
          rintro ⟨i, j', e1, e2, e3, e4, e5, e6⟩
          by_cases ei : i = k
          · subst ei
            exact Hno2.out ⟨j', by rw [Hjk.out]; exact e1, e5, e6⟩
          · exact Hno.out ⟨i, j', e1, e2, by have := Hk.out.1; omega, e4, e5, e6⟩
    · have hkI : ¬ (k : Int) < T.length := by omega
      clear hcell
      go_wp2
      go_ret
      exact ⟨.inl ⟨rfl, fun ⟨i, j, e1, e2, e3, e4, e5⟩ => absurd ⟨i, j, e1, e2, by omega, e3, e4, e5⟩ Hno.out⟩, by rw [Hwr.out]; exact below_drewN Hb.out _⟩

def SmRel (T : List NodeD) (f : Nat) (w1 : World) (i : Value) (wr : World) : Prop :=
  ∃ k : Nat, k % 2 = 0 ∧ k ≤ T.length + 20 ∧ i = .int .i64 k ∧ wr = w1 ∧ 2 * f ≤ k ∧ ∀ x, x < k → x < T.length → x % 2 = 0 → 2 * f ≤ x → (nodeD T x).pub = 0

set_option maxRecDepth 100000 in
set_option maxHeartbeats 1600000 in
theorem arsome_any (B f : Nat) (hf : f ≤ 8) (T : List NodeD) (hlen : T.length ≤ 262144) (a : Option Addr) (c : Nat) (w : World) (hB : B ≤ w.heap.size) (hT : TreeAt B w a T) :
    Calls Tryz.prog 195 #[.agg #[.slice a T.length c], .int .i64 f] w fun r w' => (∃ b : Bool, r = .returned (.bool b) ∧ (b = true ↔ someD T f)) ∧ Below w.heap.size w w' := by
  have hb := (Below.refl w.heap.size w).alloc (Nat.le_refl _) (.cells #[.slice a T.length c] 44)
  have hrow := row_alloc (w := w) #[.slice a T.length c] 44 (0, 0)
  have hT1 := hT.below (hb.mono hB)
  have hlI : (T.length : Int) ≤ 262144 := by omega
  have hfI : (f : Int) ≤ 8 := by omega
  go_enter Tryz.func195, Tryz.ntmps195
  go_wp2
  obtain ⟨q, hq⟩ : ∃ q, q = w.heap.size := ⟨_, rfl⟩
  rw [← hq] at hrow ⊢
  have kb := (cell_row hrow 0).trans rfl
  have Hb := Lib.hid hb; clear hb hq hT hB
  generalize w.alloc (.cells #[.slice a T.length c] 44) = w1 at Hb hT1 hrow kb ⊢
  have HT := Lib.hid hT1; clear hT1 hrow
  go_loopw [5] (fun i wr => SmRel T f w1 i wr) (fun i _ => T.length + 21 - (intOf i).toNat)
  case atStart => exact ⟨2 * f, by omega, by omega, by simp, rfl, Nat.le_refl _, fun x h1 _ _ h2 => by omega⟩
  case round =>
    obtain ⟨k, hk2, hk, rfl, rfl, hfk, hall⟩ := hrel
    have Hk := Lib.hid (And.intro hk2 (And.intro hk hfk)); clear hk2 hk hfk
    have Hall := Lib.hid hall; clear hall
    have hkB : (k : Int) ≤ 262164 := by have := Hk.out.2.1; omega
    by_cases hlt : k < T.length
    · have hkI : (k : Int) < T.length := by omega
      obtain ⟨b, o, rfl, hnode⟩ := HT.out k hlt
      have k0 := hnode.c0
      clear hnode
      by_cases hp : (nodeD T k).pub = 0
      · have Hp := Lib.hid hp
        rw [hp] at k0
        clear hp
        go_wp2
        exact ⟨⟨k + 2, by have := Hk.out.1; omega, by have := Hk.out.1; omega, by go_num, rfl, by have := Hk.out.2.2; omega, fun x h1 h2 h3 h4 => by
          by_cases e : x = k
          · subst e; exact Hp.out
          · exact Hall.out x (by have := Hk.out.1; omega) h2 h3 h4⟩, by simp [intOf]; omega⟩
      · have Hp := Lib.hid (show someD T f from ⟨k, hlt, Hk.out.1, Hk.out.2.2, hp⟩)
        have hp0 : ((nodeD T k).pub == 0) = false := beq_eq_false_iff_ne.2 hp
        generalize (nodeD T k).pub = pv at k0 hp0 hp
        go_wp2
        go_ret
        refine ⟨⟨true, rfl, by simp [Hp.out]⟩, Hb.out⟩
    · have hkI : ¬ (k : Int) < T.length := by omega
      go_wp2
      go_ret
      exact ⟨.inl ⟨rfl, fun ⟨x, h1, h2, h3, h4⟩ => absurd (Hall.out x (by omega) h1 h2 h3) h4⟩, Hb.out⟩
end Go.Proofs.YtedpljclnpiggaaGreatDoor

/-
  The document's Check, Size, Held, over of any tree.
-/
namespace Go.Proofs.YtedpljclnpiggaaGreatDoor
open Go Go.RowKit

def RCkRel (T : List NodeD) (q : Nat) (a : Option Addr) (c : Nat) (w : World) (i : Value) (wr : World) : Prop :=
  ∃ k : Nat, k ≤ T.length ∧ i = .int .i64 k ∧ wr.heap[q]? = some (.cells #[.slice a T.length c] 44 (0, 0)) ∧ Below w.heap.size w wr ∧ ∀ x, x < k → (x % 2 = 0 → leafD (nodeD T x) = true) ∧ (x % 2 = 1 → parentD T x = true)

set_option maxRecDepth 100000 in
set_option maxHeartbeats 3200000 in
theorem archeck_any (B : Nat) (T : List NodeD) (hfit : FitT T) (hlen : T.length ≤ 262144) (a : Option Addr) (c : Nat) (w : World) (hB : B ≤ w.heap.size) (hT : TreeAt B w a T) :
    Calls Tryz.prog 50 #[.agg #[.slice a T.length c]] w fun r w' => r = .returned (.int .i64 (errD T)) ∧ Below w.heap.size w w' := by
  have hb := (Below.refl w.heap.size w).alloc (Nat.le_refl _) (.cells #[.slice a T.length c] 44)
  have hbox := row_alloc (w := w) #[.slice a T.length c] 44 (0, 0)
  have Hb := Lib.hid hb; clear hb
  have Hbox := Lib.hid hbox; clear hbox
  have hs : w.heap.size < (w.alloc (.cells #[.slice a T.length c] 44)).heap.size := by simp
  have Hs := Lib.hid hs; clear hs
  have HT := Lib.hid hT; clear hT
  have Hfit := Lib.hid hfit; clear hfit
  by_cases h0 : T.length = 0
  · have Hok := Lib.hid (errD_ok (T := T) (.inl h0))
    rw [h0]
    clear HT Hbox Hfit Hs hB hlen
    rw [h0] at Hb
    go_enter Tryz.func50, Tryz.ntmps50
    go_wp2
    go_ret
    exact ⟨by rw [Hok.out]; rfl, Hb.out⟩
  · have hpI : ((T.length : Int) == 0) = false := beq_eq_false_iff_ne.2 (by omega)
    by_cases hlv : leavesD T.length = 0
    · have Hbad := Lib.hid (errD_bad (T := T) (fun h => ok_leaves h h0 hlv))
      go_enter Tryz.func50, Tryz.ntmps50
      go_wp2_with fail
      refine (arleaves_any a T.length c _).mono ?_
      rintro e w1 ⟨rfl, hb1⟩
      rw [hlv]
      have Hb1 := Lib.hid (Hb.out.trans (hb1.mono Hb.out.size)); clear hb1
      go_wp2
      go_ret
      exact ⟨by rw [Hbad.out]; rfl, Hb1.out⟩
    · have hokk := ok_iff hlv
      have Hokk := Lib.hid hokk; clear hokk
      obtain ⟨hn, hTn⟩ := leaves_isN hlv
      obtain ⟨n, hnl⟩ : ∃ n, n = leavesD T.length := ⟨_, rfl⟩
      rw [← hnl] at hn hTn hlv Hokk
      have Hn := Lib.hid hn
      have HTn := Lib.hid hTn
      have Hnl := Lib.hid hnl
      have hnI : ((n : Int) == 0) = false := beq_eq_false_iff_ne.2 (by omega)
      have hn8 : (n : Int) ≤ 8 := by rcases hn with h | h | h | h <;> omega
      have h15 : T.length ≤ 15 := by rcases hn with h | h | h | h <;> omega
      have h15I : (T.length : Int) ≤ 15 := by omega
      clear hn hTn hnl
      go_enter Tryz.func50, Tryz.ntmps50
      go_wp2_with fail
      refine (arleaves_any a T.length c _).mono ?_
      rintro e w1 ⟨rfl, hb1⟩
      rw [← Hnl.out]
      have hbx := (hb1.block w.heap.size Hs.out).trans Hbox.out
      have Hb1 := Lib.hid (Hb.out.trans (hb1.mono Hb.out.size)); clear hb1
      obtain ⟨q, hq⟩ : ∃ q, q = w.heap.size := ⟨_, rfl⟩
      rw [← hq] at hbx ⊢
      have Hq := Lib.hid hq; clear hq
      have Hbx := Lib.hid hbx
      have hx0 := (cell_row hbx 0).trans rfl
      clear hbx
      go_wp2
      clear hx0
      go_loopw [4] (fun i wr => RCkRel T q a c w i wr) (fun i _ => T.length - (intOf i).toNat)
      case atStart => exact ⟨0, Nat.zero_le _, rfl, Hbx.out, Hb1.out, fun x hx => by omega⟩
      case round =>
        obtain ⟨k, hk, rfl, hbq, hbw, hall⟩ := hrel
        have Hbw := Lib.hid hbw
        have Hall := Lib.hid hall; clear hall
        have kb := (cell_row hbq 0).trans rfl
        have hqw := (Array.getElem?_eq_some_iff.1 hbq).1
        have Hbq := Lib.hid hbq
        by_cases hlt : k < T.length
        · obtain ⟨b, o, rfl, hnode⟩ := (HT.out.below (hbw.mono hB)) k hlt
          obtain ⟨ua, uc, k3, _⟩ := hnode.c3
          have k0 := hnode.c0
          have k1 := hnode.c1
          have k2 := hnode.c2
          have hkI : (k : Int) < T.length := by omega
          have hHT := HT.out.below (hbw.mono hB)
          have hBw : B ≤ wr.heap.size := Nat.le_trans hB hbw.size
          have hfk := (Hfit.out k hlt).2.2.2
          clear hbw hbq hnode
          have hbadw : ∀ w5, Below w.heap.size w w5 → ¬ ((k % 2 = 0 → leafD (nodeD T k) = true) ∧ (k % 2 = 1 → parentD T k = true)) → (Ending.returned (.int .i64 1) = .returned (.int .i64 (errD T))) ∧ Below w.heap.size w w5 := fun w5 h5 hc => by
            refine ⟨?_, h5⟩
            rw [errD_bad (fun h => hc ((Hokk.out.1 h).1 k hlt))]
          have Hbadw := Lib.hid hbadw; clear hbadw
          by_cases ho : k % 2 = 1
          · have ho1 : (k : Int).tmod 2 = 1 := by rw [Int.tmod_eq_emod_of_nonneg (by omega)]; omega
            have ho2 : (k : Int) % 2 = 1 := by omega
            have hpar := arparent_T B n k Hn.out T HTn.out hlt ho hfk (some ⟨b, o, none⟩) c _ hBw hHT
            have Hpar := Lib.hid hpar; clear hpar hHT k0 k1 k2 k3
            go_wp2_with fail
            refine Hpar.out.mono ?_
            rintro r w3 ⟨rfl, hb3⟩
            have hb4 := Hbw.out.trans (hb3.mono Hbw.out.size)
            have hbq3 := (hb3.block q hqw).trans Hbq.out
            have Hb4 := Lib.hid hb4
            have Hbq3 := Lib.hid hbq3
            clear hb3 hb4 hbq3 Hpar kb
            cases hp : parentD T k with
            | false =>
              have hfin := Hbadw.out w3 Hb4.out (fun h => by rw [h.2 ho] at hp; cases hp)
              have Hfin := Lib.hid hfin
              clear hp hfin
              go_wp2
              go_ret
              exact ⟨Hfin.out.1, Hfin.out.2⟩
            | true =>
              have Hp := Lib.hid hp
              clear hp
              go_wp2
              exact ⟨⟨k + 1, by omega, by go_num, Hbq3.out, Hb4.out, fun x hx => by
                by_cases e : x = k
                · subst e; exact ⟨fun h => by omega, fun _ => Hp.out⟩
                · exact Hall.out x (by omega)⟩, by simp [intOf]; omega⟩
          · have ho0 : k % 2 = 0 := by omega
            have ho3 : (k : Int).tmod 2 = 0 := by rw [Int.tmod_eq_emod_of_nonneg (by omega)]; omega
            have ho4 : (k : Int) % 2 = 0 := by omega
            have hlf := arleaf_any (nodeD T k).pub (nodeD T k).mem (nodeD T k).ep ua (nodeD T k).um.length uc
            have hlfd : leafD (nodeD T k) = ((decide ((nodeD T k).pub = 0) && decide ((nodeD T k).mem = 0) && decide ((nodeD T k).ep = 0) && decide ((nodeD T k).um.length = 0)) || (decide (0 < (nodeD T k).pub) && decide (0 ≤ (nodeD T k).mem) && decide (0 ≤ (nodeD T k).ep) && decide ((nodeD T k).um.length = 0))) := rfl
            rw [← hlfd] at hlf
            clear hlfd hHT hfk
            generalize hbd : leafD (nodeD T k) = bd at hlf
            have Hbd := Lib.hid hbd; clear hbd
            generalize (nodeD T k).pub = p at k0 hlf
            generalize (nodeD T k).mem = m at k1 hlf
            generalize (nodeD T k).ep = ee at k2 hlf
            generalize (nodeD T k).um.length = ul at k3 hlf
            have Hlf := Lib.hid hlf; clear hlf
            go_wp2_with fail
            refine (Hlf.out _).mono ?_
            rintro r w3 ⟨rfl, hb3⟩
            have hb4 := Hbw.out.trans (hb3.mono Hbw.out.size)
            have hbq3 := (hb3.block q hqw).trans Hbq.out
            have Hb4 := Lib.hid hb4
            have Hbq3 := Lib.hid hbq3
            clear hb3 hb4 hbq3 Hlf kb k0 k1 k2 k3
            cases bd with
            | false =>
              have hfin := Hbadw.out w3 Hb4.out (fun h => by have := h.1 ho0; rw [Hbd.out] at this; cases this)
              have Hfin := Lib.hid hfin
              clear hfin
              go_wp2
              go_ret
              exact ⟨Hfin.out.1, Hfin.out.2⟩
            | true =>
              go_wp2
              exact ⟨⟨k + 1, by omega, by go_num, Hbq3.out, Hb4.out, fun x hx => by
                by_cases e : x = k
                · subst e; exact ⟨fun _ => Hbd.out, fun h => by omega⟩
                · exact Hall.out x (by omega)⟩, by simp [intOf]; omega⟩
        · obtain rfl : k = T.length := by omega
          have hkI : ¬ (T.length : Int) < T.length := by omega
          have heach : eachD T := Hall.out
          have Heach := Lib.hid heach
          have htw := fun W (hW : Below w.heap.size w W) => artwice_any B T hlen a c W (Nat.le_trans hB hW.size) (HT.out.below (hW.mono hB))
          have hsm := fun (f : Nat) (hf : f ≤ 8) W (hW : Below w.heap.size w W) => arsome_any B f hf T hlen a c W (Nat.le_trans hB hW.size) (HT.out.below (hW.mono hB))
          have Htw := Lib.hid htw; clear htw
          have Hsm := Lib.hid hsm; clear hsm
          clear hbw hbq heach Hall
          go_wp2_with fail
          refine (Htw.out _ Hbw.out).mono ?_
          rintro r w3 ⟨⟨b1, rfl, hb1⟩, hbl3⟩
          have hb4 := Hbw.out.trans (hbl3.mono Hbw.out.size)
          have hbq3 := (hbl3.block q hqw).trans Hbq.out
          have Hb4 := Lib.hid hb4
          have kb3 := (cell_row hbq3 0).trans rfl
          have Hbq3 := Lib.hid hbq3
          have hqw3 := (Array.getElem?_eq_some_iff.1 hbq3).1
          have HB1 := Lib.hid hb1
          clear hbl3 hb4 hbq3 kb hb1
          cases b1 with
          | true =>
            have Hbad := Lib.hid (errD_bad (T := T) (fun h => (Hokk.out.1 h).2.1 (HB1.out.1 rfl)))
            go_wp2
            go_ret
            exact ⟨by rw [Hbad.out]; rfl, Hb4.out⟩
          | false =>
            have Hntw := Lib.hid (show ¬ twiceD T from fun h => by have := HB1.out.2 h; cases this)
            have hs0 := Hsm.out 0 (by omega) w3 Hb4.out
            have Hs0 := Lib.hid hs0; clear hs0
            go_wp2_with fail
            refine Hs0.out.mono ?_
            rintro r w5 ⟨⟨b2, rfl, hb2⟩, hbl5⟩
            have hb5 := Hb4.out.trans (hbl5.mono Hb4.out.size)
            have hbq5 := (hbl5.block q hqw3).trans Hbq3.out
            have Hb5 := Lib.hid hb5
            have kb5 := (cell_row hbq5 0).trans rfl
            have HB2 := Lib.hid hb2
            clear hbl5 hb5 hbq5 kb3 hb2
            cases b2 with
            | false =>
              have Hbad := Lib.hid (errD_bad (T := T) (fun h => by have := HB2.out.2 (Hokk.out.1 h).2.2.1; cases this))
              go_wp2
              go_ret
              exact ⟨by rw [Hbad.out]; rfl, Hb5.out⟩
            | true =>
              by_cases hn1 : 1 < n
              · have hn1I : 1 < (n : Int) := by omega
                have hq1 : (n : Int).tdiv 2 = ((n / 2 : Nat) : Int) := by rw [Int.tdiv_eq_ediv_of_nonneg (by omega)]; omega
                have hq2 : (n : Int) / 2 = ((n / 2 : Nat) : Int) := by omega
                have hs1 := Hsm.out (n / 2) (by omega) w5 Hb5.out
                have Hs1 := Lib.hid hs1; clear hs1
                have hok2 : someD T (n / 2) → errD T = 0 := fun h => errD_ok (Hokk.out.2 ⟨Heach.out, Hntw.out, HB2.out.1 rfl, fun _ => h⟩)
                have hbad2 : ¬ someD T (n / 2) → errD T = 1 := fun h => errD_bad (fun ho => h ((Hokk.out.1 ho).2.2.2 hn1))
                have Hok2 := Lib.hid hok2; clear hok2
                have Hbad2 := Lib.hid hbad2; clear hbad2
                generalize n / 2 = m2 at hq1 hq2 Hs1 Hok2 Hbad2
                clear hn1
                go_wp2_with fail
                refine Hs1.out.mono ?_
                rintro r w6 ⟨⟨b3, rfl, hb3⟩, hbl6⟩
                have Hb6 := Lib.hid (Hb5.out.trans (hbl6.mono Hb5.out.size))
                have HB3 := Lib.hid hb3
                clear hbl6 kb5 hb3
                cases b3 with
                | true =>
                  have Hgd := Lib.hid (Hok2.out (HB3.out.1 rfl))
                  go_wp2
                  go_ret
                  exact ⟨by rw [Hgd.out]; rfl, Hb6.out⟩
                | false =>
                  have Hbad := Lib.hid (Hbad2.out (fun h => by have := HB3.out.2 h; cases this))
                  go_wp2
                  go_ret
                  exact ⟨by rw [Hbad.out]; rfl, Hb6.out⟩
              · have hn1I : ¬ 1 < (n : Int) := by omega
                have Hgd := Lib.hid (errD_ok (T := T) (Hokk.out.2 ⟨Heach.out, Hntw.out, HB2.out.1 rfl, fun h => absurd h hn1⟩))
                clear hn1
                go_wp2
                go_ret
                exact ⟨by rw [Hgd.out]; rfl, Hb5.out⟩

set_option maxRecDepth 100000 in
theorem arsize_any (B : Nat) (T : List NodeD) (hok : OkT' T) (hfit : FitT T) (hlen : T.length ≤ 262144) (a : Option Addr) (c : Nat) (w : World) (hB : B ≤ w.heap.size) (hT : TreeAt B w a T) :
    Calls Tryz.prog 197 #[.agg #[.slice a T.length c]] w fun r w' => r = .returned (.int .i64 (leavesD T.length : Nat)) ∧ Below w.heap.size w w' := by
  have hb1 := (Below.refl w.heap.size w).alloc (Nat.le_refl _) (.cells #[.slice a T.length c] 44)
  have hs1 : w.heap.size < (w.alloc (.cells #[.slice a T.length c] 44)).heap.size := by simp
  have hbox := row_alloc (w := w) #[.slice a T.length c] 44 (0, 0)
  have hck := archeck_any B T hfit hlen a c _ (Nat.le_trans hB hb1.size) (hT.below (hb1.mono hB))
  rw [errD_ok hok] at hck
  have Hck := Lib.hid hck; clear hck
  have Hb1 := Lib.hid hb1; clear hb1
  have Hs1 := Lib.hid hs1; clear hs1
  have Hbox := Lib.hid hbox; clear hbox
  clear hT hok hfit
  go_enter Tryz.func197, Tryz.ntmps197
  go_wp2_with fail
  refine Hck.out.mono ?_
  rintro e w2 ⟨rfl, hb2⟩
  have hx : w2.cell? ⟨w.heap.size, 0, none⟩ = some (.slice a T.length c) := by rw [cell_row ((hb2.block w.heap.size Hs1.out).trans Hbox.out)]; rfl
  have Hb2 := Lib.hid (Hb1.out.trans (hb2.mono (Nat.le_of_lt Hs1.out))); clear hb2
  go_wp2_with fail
  refine (arleaves_any a T.length c _).mono ?_
  rintro e w3 ⟨rfl, hb3⟩
  have Hb3 := Lib.hid (Hb2.out.trans (hb3.mono Hb2.out.size)); clear hb3
  go_wp2
  go_ret
  exact ⟨rfl, Hb3.out⟩
end Go.Proofs.YtedpljclnpiggaaGreatDoor

/-
  The document's Held, over of any tree.
-/
namespace Go.Proofs.YtedpljclnpiggaaGreatDoor
open Go Go.RowKit

def BoolIs (P : Prop) (w : World) (e : Ending) (w' : World) : Prop := ∃ b : Bool, e = .returned (.bool b) ∧ (b = true ↔ P) ∧ Below w.heap.size w w'

def RhRel (T : List NodeD) (n q : Nat) (a : Option Addr) (c : Nat) (w : World) (i : Value) (wr : World) : Prop := ∃ k : Nat, k ≤ T.length ∧ i = .int .i64 k ∧ wr.heap[q]? = some (boxT (.slice a T.length c)) ∧ Below w.heap.size w wr ∧ ∀ x, x < k → lackD n (nodeD T x) = false

set_option maxRecDepth 100000 in
set_option maxHeartbeats 1600000 in
theorem arheld_any (B r : Nat) (G : Nat → Prop) (L : List TermD) (hl : L.length ≤ 2000000) (T : List NodeD) (hlen : T.length ≤ 262144) (a : Option Addr) (c : Nat) (w : World) (h : RefStore w r G L) (hB : B ≤ w.heap.size) (hT : TreeAt B w a T) :
    Calls Tryz.prog 51 #[.pointer (some ⟨r, 0, none⟩), .agg #[.slice a T.length c]] w (BoolIs (heldD T L.length) w) := by
  have hb := (Below.refl w.heap.size w).alloc (Nat.le_refl _) (boxT (.slice a T.length c))
  have hrow := row_alloc (w := w) #[.slice a T.length c] 44 (0, 0)
  have his := fun (p : Int) (W : World) (hW : Below w.heap.size w W) => ris_any r G L p W (h.new hW) hl
  have Hst := Lib.hid (show RhRel T L.length w.heap.size a c w (.int .i64 0) (w.alloc (boxT (.slice a T.length c))) from ⟨0, Nat.zero_le _, rfl, hrow, hb, fun x hx => by omega⟩)
  have His := Lib.hid his; clear his hb hrow h
  have HT := Lib.hid hT; clear hT
  have hlI : (T.length : Int) ≤ 262144 := by omega
  have hpost : ∀ b : Bool, ∀ w', (b = true ↔ heldD T L.length) → Below w.heap.size w w' → BoolIs (heldD T L.length) w (.returned (.bool b)) w' := fun b w' h1 h2 => ⟨b, rfl, h1, h2⟩
  have Hpost := Lib.hid hpost; clear hpost
  go_enter Tryz.func51, Tryz.ntmps51
  go_wp2
  obtain ⟨q, hq⟩ : ∃ q, q = w.heap.size := ⟨_, rfl⟩
  have Hst2 : Hid (RhRel T L.length q a c w (.int .i64 0) (w.alloc (boxT (.slice a T.length c)))) := by rw [hq]; exact Hst
  clear Hst
  rw [← hq]
  have HQ := Lib.hid hq; clear hq
  go_loopw [5] (fun i wr => RhRel T L.length q a c w i wr) (fun i _ => T.length - (intOf i).toNat)
  case atStart => exact Hst2.out
  case round =>
    obtain ⟨k, hk, rfl, hbq, hb, hall⟩ := hrel
    have kb := (cell_row hbq 0).trans rfl
    have hqw := (Array.getElem?_eq_some_iff.1 hbq).1
    have Hbq := Lib.hid hbq
    have Hb := Lib.hid hb
    have Hall := Lib.hid hall
    clear hall
    by_cases hlt : k < T.length
    · obtain ⟨b, o, rfl, hnode⟩ := (HT.out.below (hb.mono hB)) k hlt
      have k0 := hnode.c0
      have hkI : (k : Int) < T.length := by omega
      clear hnode hb hbq
      have hlk : lackD L.length (nodeD T k) = (decide ((nodeD T k).pub ≠ 0) && !thereD L.length (nodeD T k).pub) := rfl
      by_cases hp : (nodeD T k).pub = 0
      · have Hlk := Lib.hid (show lackD L.length (nodeD T k) = false by rw [hlk, hp]; simp)
        rw [hp] at k0
        clear hlk hp
        go_wp2
        exact ⟨⟨k + 1, by omega, by go_num, Hbq.out, Hb.out, fun x hx => by
          by_cases e : x = k
          · subst e; exact Hlk.out
          · exact Hall.out x (by omega)⟩, by simp [intOf]; omega⟩
      · have hp0 : ((nodeD T k).pub != 0) = true := by simpa using hp
        have hp1 : ((nodeD T k).pub == 0) = false := by simpa using hp
        have hlk2 : lackD L.length (nodeD T k) = !thereD L.length (nodeD T k).pub := by rw [hlk]; simp [hp]
        have hc := His.out (nodeD T k).pub wr Hb.out
        clear hlk
        obtain ⟨bd, hbd⟩ : ∃ bd, bd = thereD L.length (nodeD T k).pub := ⟨_, rfl⟩
        rw [← hbd] at hc hlk2
        have Hlk := Lib.hid hlk2; clear hlk2 hbd
        generalize (nodeD T k).pub = p at k0 hp hp0 hp1 hc
        have Hc := Lib.hid hc; clear hc
        go_wp2_with fail
        refine Hc.out.mono ?_
        rintro e w3 ⟨rfl, hb3⟩
        have Hb3 := Lib.hid (Hb.out.trans (hb3.mono Hb.out.size))
        have Hbq3 := Lib.hid ((hb3.block q hqw).trans Hbq.out)
        clear hb3 kb k0 Hc
        cases bd with
        | true =>
          go_wp2
          exact ⟨⟨k + 1, by omega, by go_num, Hbq3.out, Hb3.out, fun x hx => by
            by_cases e : x = k
            · subst e; rw [Hlk.out]; rfl
            · exact Hall.out x (by omega)⟩, by simp [intOf]; omega⟩
        | false =>
          have Hn := Lib.hid (show ¬ heldD T L.length from fun h => held_iff.1 h ⟨k, hlt, by rw [Hlk.out]; rfl⟩)
          go_wp2
          go_ret
          exact Hpost.out false _ ⟨(fun h => by cases h), fun h => absurd h Hn.out⟩ Hb3.out
    · obtain rfl : k = T.length := by omega
      have hkI : ¬ (T.length : Int) < T.length := by omega
      have Hn := Lib.hid (show heldD T L.length from held_iff.2 (fun ⟨x, hx, h⟩ => by rw [Hall.out x hx] at h; cases h))
      clear hb hbq
      go_wp2
      go_ret
      exact Hpost.out true _ ⟨fun _ => Hn.out, fun _ => rfl⟩ Hb.out

def ROvRel (T : List NodeD) (dl : List Nat) (N0 : Nat) (w2 : World) (v i : Value) (wr : World) : Prop :=
  ∃ k : Nat, k ≤ dl.length ∧ i = .int .i64 k ∧ OwnI v (natI ((dl.take k).filter (notB T))) wr ∧ (∀ g, v.ownBlock = some g → N0 ≤ g) ∧ Below N0 w2 wr

set_option maxRecDepth 100000 in
set_option maxHeartbeats 3200000 in
theorem arover_any (B x : Nat) (T : List NodeD) (hok : OkT' T) (hfit : FitT T) (hlen : T.length ≤ 262144) (hx : x < T.length) (a : Option Addr) (c : Nat) (w : World) (hB : B ≤ w.heap.size) (hT : TreeAt B w a T) :
    Calls Tryz.prog 52 #[.agg #[.slice a T.length c], .int .i64 x] w (NewI (natI (overD T x)) w) := by
  obtain ⟨i0, hi0, hz0, hz1, hz2⟩ := info_parts infoI
  have hb := (Below.refl w.heap.size w).alloc (Nat.le_refl _) (boxT (.slice a T.length c))
  have hrow := row_alloc (w := w) #[.slice a T.length c] 44 (0, 0)
  have hsz := arsize_any B T hok hfit hlen a c _ (Nat.le_trans hB hb.size) (hT.below (hb.mono hB))
  have hlv := ok_leaves hok (by omega)
  obtain ⟨hn, hTn⟩ := leaves_isN hlv
  have hdir := fun W => ardirect_any x (leavesD T.length) hn (by omega) W
  have hlt : ∀ y ∈ directD x (leavesD T.length), y < T.length := fun y hy => by
    have := up_lt hn (by omega : x < 2 * leavesD T.length - 1) y (by rw [up_eq hn (by omega)]; exact List.mem_cons_of_mem _ hy)
    omega
  have hd3 := direct_len hn (by omega : x < 2 * leavesD T.length - 1)
  have hov : overD T x = (directD x (leavesD T.length)).filter (notB T) := rfl
  have h15 : (T.length : Int) ≤ 15 := by rcases hn with h | h | h | h <;> omega
  have hs : w.heap.size < (w.alloc (boxT (.slice a T.length c))).heap.size := by simp
  generalize directD x (leavesD T.length) = dl at hdir hlt hd3 hov
  generalize leavesD T.length = nl at hdir hsz
  have Hs := Lib.hid hs
  have Hb := Lib.hid hb
  have Hrow := Lib.hid hrow
  have Hsz := Lib.hid hsz
  have Hdir := Lib.hid hdir
  have Hlt := Lib.hid hlt
  have Hov := Lib.hid hov
  have HT := Lib.hid hT
  have HB := Lib.hid hB
  have Hd3 := Lib.hid hd3
  clear hs hb hrow hsz hdir hlt hov hT hB hn hTn hlv hok hfit
  go_enter Tryz.func52, Tryz.ntmps52
  go_wp2_with fail
  refine Hsz.out.mono ?_
  rintro e w1 ⟨rfl, hb1⟩
  have hbx := (hb1.block w.heap.size Hs.out).trans Hrow.out
  have Hb1 := Lib.hid (Hb.out.trans (hb1.mono Hb.out.size)); clear hb1
  have Hbx := Lib.hid hbx; clear hbx
  go_wp2_with fail
  refine (Hdir.out _).mono ?_
  rintro e w2 ⟨vd, rfl, hvd, hvf, hb2⟩
  have hbx2 := (hb2.block w.heap.size (Array.getElem?_eq_some_iff.1 Hbx.out).1).trans Hbx.out
  have Hb2 := Lib.hid (Hb1.out.trans (hb2.mono Hb1.out.size)); clear hb2
  obtain ⟨va, vc, rfl, _⟩ := ownI_len hvd
  have hat := fun i hi => ownI_at hvd i hi
  rw [natI_len] at hat ⊢
  have Hat := Lib.hid hat
  have Hbx2 := Lib.hid hbx2
  clear hat hbx2 hvd hvf Hbx
  obtain ⟨q, hq⟩ : ∃ q, q = w.heap.size := ⟨_, rfl⟩
  rw [← hq] at Hbx2 ⊢
  have HQ := Lib.hid hq; clear hq
  have hdI : (dl.length : Int) ≤ 3 := by omega
  have kq := (cell_row Hbx2.out 0).trans rfl
  go_wp2
  clear kq
  go_loopw [6, 7] (fun v i wr => ROvRel T dl w2.heap.size w2 v i wr) (fun _ i _ => dl.length - (intOf i).toNat)
  case atStart => exact ⟨0, Nat.zero_le _, rfl, ownI_nil w2, fun g hg => by simp [Value.ownBlock] at hg, Below.refl _ _⟩
  case round =>
    obtain ⟨k, hk, rfl, hown, hg, hbr⟩ := hrel
    obtain ⟨oa, oc, rfl, _⟩ := ownI_len hown
    have hl3 : ((dl.take k).filter (notB T)).length ≤ 3 := Nat.le_trans (List.length_filter_le _ _) (Nat.le_trans (by rw [List.length_take]; omega) hd3)
    have hr : wr.ownsRow 0 3 1 (.slice oa ((dl.take k).filter (notB T)).length oc) ((dl.take k).filter (notB T)).length ((natI ((dl.take k).filter (notB T))).map intV) := by
      have h1 := hown
      unfold OwnI at h1
      rw [natI_len] at h1
      exact h1
    rw [natI_len] at hg ⊢
    have hbx3 := (hbr.block q (Array.getElem?_eq_some_iff.1 Hbx2.out).1).trans Hbx2.out
    have kq := (cell_row hbx3 0).trans rfl
    have Hr := Lib.hid hr
    have Hg := Lib.hid hg
    have Hbr := Lib.hid hbr
    clear hr hg hown hbx3
    by_cases hkl : k < dl.length
    · obtain ⟨gb, go, rfl, cy⟩ := Hat.out k hkl
      have hgl := World.block_lt_of_cell? w2 _ cy
      have cy2 := (hbr.cell (p := ⟨gb, go + k, none⟩) hgl).trans cy
      rw [natI_get] at cy2
      have hmem : dl.getD k 0 ∈ dl := by rw [List.getD_eq_getElem?_getD, List.getElem?_eq_getElem hkl]; exact List.getElem_mem _
      have hy := Hlt.out _ hmem
      have htk := take_snoc 0 hkl
      have hTr := HT.out.below ((Hb2.out.trans (hbr.mono Hb2.out.size)).mono HB.out)
      generalize dl.getD k 0 = y at cy2 hy htk
      obtain ⟨b, o, rfl, hnode⟩ := hTr y hy
      have kp := hnode.c0
      have hyI : (y : Int) < T.length := by omega
      have hkI : (k : Int) < dl.length := by omega
      have Htk := Lib.hid htk
      clear hnode hTr htk cy hgl hmem hbr
      by_cases hp : (nodeD T y).pub = 0
      · have hflt : (dl.take (k + 1)).filter (notB T) = (dl.take k).filter (notB T) := by
          rw [Htk.out, List.filter_append]
          simp [notB, hp]
        have Hflt := Lib.hid hflt; clear hflt
        rw [hp] at kp
        go_wp2_with fail
        go_quiet (fail)
        go_wp2
        exact ⟨⟨k + 1, by omega, by go_num, by rw [Hflt.out]; unfold OwnI; rw [natI_len]; exact Hr.out, Hg.out, below_drewN Hbr.out _⟩, by simp [intOf]; omega⟩
      · have hflt : (dl.take (k + 1)).filter (notB T) = (dl.take k).filter (notB T) ++ [y] := by
          rw [Htk.out, List.filter_append]
          simp [notB, hp]
        have Hflt := Lib.hid hflt; clear hflt
        have hp0 : ((nodeD T y).pub != 0) = true := by simpa using hp
        have hp1 : ((nodeD T y).pub == 0) = false := by simpa using hp
        generalize (nodeD T y).pub = pv at kp hp hp0 hp1
        generalize (dl.take k).filter (notB T) = pre at Hr Hg Hflt hl3 ⊢
        have Hl3 := Lib.hid hl3; clear hl3
        go_wp2_with fail
        go_quiet (fail)
        have cy3 : (wr.drewN nq).cell? ⟨gb, go + k, none⟩ = some (.int .i64 y) := cy2
        have Hr3 := Lib.hid (show (wr.drewN nq).ownsRow 0 3 1 (.slice oa pre.length oc) pre.length ((natI pre).map intV) from Hr.out)
        have Hbr3 := Lib.hid (below_drewN Hbr.out nq)
        clear cy2 Hr Hbr kp kq
        generalize wr.drewN nq = wz at cy3 Hr3 Hbr3 ⊢
        go_wp2_with (at_builtin; refine wpList_append_lies _ rfl (.tmp 28) (.tmp 33) 27 rfl 0 3 i0 (.int .i64 0) 1 8 Tryz.underlying27 hi0 hz0 hz1 hz2 rfl (by decide) (.slice oa pre.length oc) pre.length ((natI pre).map intV) rfl (World.ownsRow.alloc Hr3.out _) ⟨wz.heap.size, 0, none⟩ 1 1 [intV y] rfl rfl (cell_one_new _ _ _) (by intro u hu; simp [intV] at hu; rw [hu]; rfl) (by omega) (by have := Hl3.out; unfold maxLen; omega) (by have := Hl3.out; omega) (Nat.zero_le _) (wz.heap.size + 1) (by simp) ?_; intro g1 c1 w5 hown1 hgrow1 hat1 hlt1; have Hown1 := Lib.hid hown1; have Hg1 := Lib.hid (hat1.elim (fun e => Hg.out _ e) (fun e => by have := Hbr3.out.size; omega) : w2.heap.size ≤ g1); have Hb5 := Lib.hid ((Hbr3.out.alloc Hbr3.out.size (.cells #[.int .i64 y] 3)).grown hgrow1 (by have := Hbr3.out.size; simp; omega) (fun k hk => Hg.out _ hk)); clear hown1 hgrow1 hat1 hlt1)
        refine ⟨⟨k + 1, by omega, by go_num, ?_, fun g hg => ?_, Hb5.out⟩, by simp [intOf]; omega⟩
        · rw [Hflt.out]
          unfold OwnI
          rw [natI_len, natI_snoc, List.map_append, List.length_append]
          exact Hown1.out
        · obtain rfl : g1 = g := by simpa [Value.ownBlock] using hg
          exact Hg1.out
    · obtain rfl : k = dl.length := by omega
      rw [List.take_length, ← Hov.out] at Hr Hg ⊢
      have hkI : ¬ (dl.length : Int) < dl.length := by omega
      have Hb4 := Lib.hid (Hb2.out.trans (hbr.mono Hb2.out.size))
      clear hbr
      go_wp2
      go_ret
      exact ⟨_, rfl, by unfold OwnI; rw [natI_len]; exact Hr.out, fun g hg => Nat.le_trans Hb2.out.size (Hg.out g hg), Hb4.out⟩
end Go.Proofs.YtedpljclnpiggaaGreatDoor
