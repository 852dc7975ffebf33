/- index at a tree of two leaves: Direct of the root. -/
import Derived.Test.YtedpljclnpiggaaGreatDoorV25
import Derived.BigQuiet
import Derived.Test.YtedpljclnpiggaaGreatDoorV06
import Derived.Test.YtedpljclnpiggaaGreatDoorV23
set_option linter.unusedVariables false
set_option linter.unusedSimpArgs false
set_option maxRecDepth 100000
set_option maxHeartbeats 12800000
namespace Go.Proofs.YtedpljclnpiggaaGreatDoor
section
open Go Go.RowKit
def TwRel (T : List NodeD) (w1 : World) (i : Value) (wr : World) : Prop :=
 ∃ (k d : Nat), k % 2 = 0 ∧ k ≤ T.length + 1 ∧ i = .int .i64 k ∧ wr = w1.drewN d ∧
  ¬ ∃ i j, j < i ∧ i < T.length ∧ i < k ∧ i % 2 = 0 ∧ j % 2 = 0 ∧ (nodeD T i).pub ≠ 0 ∧ (nodeD T j).pub ≠ 0 ∧ (nodeD T i).mem = (nodeD T j).mem
def Tw2Rel (T : List NodeD) (k : Nat) (w1 : World) (i : Value) (wr : World) : Prop :=
 ∃ (j d : Nat), j % 2 = 0 ∧ j ≤ k ∧ i = .int .i64 j ∧ wr = w1.drewN d ∧
  ¬ ∃ j', j' < j ∧ j' % 2 = 0 ∧ (nodeD T k).pub ≠ 0 ∧ (nodeD T j').pub ≠ 0 ∧ (nodeD T k).mem = (nodeD T j').mem
theorem artwice_any (B : Nat) (T : List NodeD) (hlen : T.length ≤ 262144) (a : Option Addr) (c : Nat) (w : World) (hB : B ≤ w.heap.size) (hT : TreeAt B w a T) :
    Calls Tryz.prog 194 #[.agg #[.slice a T.length c]] w fun r w' => (∃ b : Bool, r = .returned (.bool b) ∧ (b = true ↔ twiceD T)) ∧ Below w.heap.size w w' := by
 have hb := (Below.refl w.heap.size w).alloc (Nat.le_refl _) (.cells #[.slice a T.length c] 44)
 have hrow := rAl (w := w) #[.slice a T.length c] 44 (0, 0)
 have hT1 := hT.below (hb.mono hB)
 have hlI : (T.length : Int) ≤ 262144 := by omega
 go_enter Tryz.func194, Tryz.ntmps194
 go_wp2
 obtain ⟨q, hq⟩ : ∃ q, q = w.heap.size := ⟨_, rfl⟩
 rw [← hq] at hrow ⊢
 have kb0 := (cRw hrow 0).trans rfl
 have Hb := hQ hb; clear hb hq hT hB
 generalize w.alloc (.cells #[.slice a T.length c] 44) = w1 at Hb hT1 hrow kb0 ⊢
 have HT := hQ hT1; clear hT1 hrow
 have Hkb := hQ kb0; clear kb0
 go_loopw [3] (fun i wr => TwRel T w1 i wr) (fun i _ => T.length + 2 - (intOf i).toNat)
 case atStart => exact ⟨0, 0, rfl, by omega, rfl, rfl, fun ⟨i, j, h1, h2, h3, _⟩ => by omega⟩
 case round =>
  obtain ⟨k, d, hk2, hk, rfl, hwr, hno⟩ := hrel
  obtain ⟨wo, rfl⟩ : ∃ wo, wr = wo := ⟨wr, rfl⟩
  have hcell : ∀ p, wr.cell? p = w1.cell? p := fun p => by rw [hwr]; rfl
  have kb := (hcell ⟨q, 0, none⟩).trans Hkb.out
  have Hno := hQ hno; clear hno
  have Hk := hQ (And.intro hk2 hk); clear hk2 hk
  have Hwr := hQ hwr; clear hwr
  by_cases hlt : k < T.length
  · have hkI : (k : Int) < T.length := by omega
    have Hlt := hQ hlt
    clear hlt
    have Hcell := hQ hcell; clear hcell
    obtain ⟨b, o, rfl, hnk⟩ := HT.out k Hlt.out
    have Hnk := hQ hnk; clear hnk
    go_wp2
    go_loopw [4] (fun i w2 => Tw2Rel T k wr i w2) (fun i _ => k - (intOf i).toNat)
    case atStart => exact ⟨0, 0, rfl, by omega, rfl, rfl, fun ⟨j, h1, _⟩ => by omega⟩
    case round =>
     obtain ⟨j, d2, hj2, hj, rfl, hw2, hno2⟩ := hrel
     obtain ⟨w2, rfl⟩ : ∃ w2, wr = w2 := ⟨wr, rfl⟩
     have hcell2 : ∀ p, wr.cell? p = w1.cell? p := fun p => by rw [hw2]; exact Hcell.out p
     have kb2 := (hcell2 ⟨q, 0, none⟩).trans Hkb.out
     have Hno2 := hQ hno2; clear hno2
     have Hj := hQ (And.intro hj2 hj); clear hj2 hj
     have Hw2 := hQ hw2; clear hw2
     by_cases hjk : j < k
     · have hjI : (j : Int) < k := by omega
       have hjT : (j : Int) < T.length := by omega
       obtain ⟨b', o', e, hnj⟩ := HT.out j (by omega)
       obtain ⟨rfl, rfl⟩ : b = b' ∧ o = o' := by simpa using e
       have k0 := (hcell2 _).trans Hnk.out.c0
       have k1 := (hcell2 _).trans Hnk.out.c1
       have j0 := (hcell2 _).trans hnj.c0
       have j1 := (hcell2 _).trans hnj.c1
       clear hcell2 hnj e kb
       have hcase : (nodeD T k).pub = 0 ∨ ((nodeD T k).pub ≠ 0 ∧ (nodeD T j).pub = 0) ∨ ((nodeD T k).pub ≠ 0 ∧ (nodeD T j).pub ≠ 0 ∧ (nodeD T k).mem ≠ (nodeD T j).mem) ∨ ((nodeD T k).pub ≠ 0 ∧ (nodeD T j).pub ≠ 0 ∧ (nodeD T k).mem = (nodeD T j).mem) := by omega
       have hstep : ¬ ((nodeD T k).pub ≠ 0 ∧ (nodeD T j).pub ≠ 0 ∧ (nodeD T k).mem = (nodeD T j).mem) → ¬ ∃ j', j' < j + 2 ∧ j' % 2 = 0 ∧ (nodeD T k).pub ≠ 0 ∧ (nodeD T j').pub ≠ 0 ∧ (nodeD T k).mem = (nodeD T j').mem := fun h ⟨j', e1, e2, e3⟩ => by
        by_cases e : j' = j
        · subst e; exact h e3
        · exact Hno2.out ⟨j', by have := Hj.out.1; omega, e2, e3⟩
       have htw : ((nodeD T k).pub ≠ 0 ∧ (nodeD T j).pub ≠ 0 ∧ (nodeD T k).mem = (nodeD T j).mem) → twiceD T := fun h => ⟨k, j, hjk, Hlt.out, Hk.out.1, Hj.out.1, h.1, h.2.1, h.2.2⟩
       have hj2I : (j : Int) ≤ 262144 := by omega
       obtain ⟨P1, hP1⟩ : ∃ P : Prop, P = ¬ ∃ j', j' < j + 2 ∧ j' % 2 = 0 ∧ (nodeD T k).pub ≠ 0 ∧ (nodeD T j').pub ≠ 0 ∧ (nodeD T k).mem = (nodeD T j').mem := ⟨_, rfl⟩
       rw [← hP1] at hstep
       have HP1 := hQ hP1; clear hP1
       have hd : (Hid P1 ∧ ((nodeD T k).pub = 0 ∨ ((nodeD T k).pub ≠ 0 ∧ (nodeD T j).pub = 0) ∨ ((nodeD T k).pub ≠ 0 ∧ (nodeD T j).pub ≠ 0 ∧ (nodeD T k).mem ≠ (nodeD T j).mem))) ∨
           (Hid (twiceD T) ∧ (nodeD T k).pub ≠ 0 ∧ (nodeD T j).pub ≠ 0 ∧ (nodeD T k).mem = (nodeD T j).mem) := by
        rcases hcase with h | h | h | h
        · exact .inl ⟨hQ (hstep (fun h2 => h2.1 h)), .inl h⟩
        · exact .inl ⟨hQ (hstep (fun h2 => h2.2.1 h.2)), .inr (.inl h)⟩
        · exact .inl ⟨hQ (hstep (fun h2 => h.2.2 h2.2.2)), .inr (.inr h)⟩
        · exact .inr ⟨hQ (htw h), h⟩
       clear hcase hstep htw
       generalize (nodeD T k).pub = pk at k0 hd
       generalize (nodeD T j).pub = pj at j0 hd
       generalize (nodeD T k).mem = mk at k1 hd
       generalize (nodeD T j).mem = mj at j1 hd
       rcases hd with ⟨Hs, rfl | ⟨h1, rfl⟩ | ⟨h1, h2, h3⟩⟩ | ⟨Ht, h1, h2, rfl⟩
       · go_wp2_with fail
         go_quiet (fail)
         go_wp2
         exact ⟨⟨j + 2, d2 + nq, by have := Hj.out.1; omega, by have := Hj.out.1; have := Hk.out.1; omega, by go_num, by rw [Hw2.out, World.drewN_drewN], by have := Hs.out; rw [HP1.out] at this; exact this⟩, by simp [intOf]; omega⟩
       · have g1 : (pk != 0) = true := by simpa using h1
         go_wp2_with fail
         go_quiet (fail)
         go_wp2
         exact ⟨⟨j + 2, d2 + nq, by have := Hj.out.1; omega, by have := Hj.out.1; have := Hk.out.1; omega, by go_num, by rw [Hw2.out, World.drewN_drewN], by have := Hs.out; rw [HP1.out] at this; exact this⟩, by simp [intOf]; omega⟩
       · have g1 : (pk != 0) = true := by simpa using h1
         have g2 : (pj != 0) = true := by simpa using h2
         have g3 : (mk == mj) = false := beq_eq_false_iff_ne.2 h3
         go_wp2_with fail
         go_quiet (fail)
         go_wp2
         exact ⟨⟨j + 2, d2 + nq, by have := Hj.out.1; omega, by have := Hj.out.1; have := Hk.out.1; omega, by go_num, by rw [Hw2.out, World.drewN_drewN], by have := Hs.out; rw [HP1.out] at this; exact this⟩, by simp [intOf]; omega⟩
       · have g1 : (pk != 0) = true := by simpa using h1
         have g2 : (pj != 0) = true := by simpa using h2
         go_wp2_with fail
         go_quiet (fail)
         go_wp2
         go_ret
         exact ⟨⟨true, rfl, by simp [Ht.out]⟩, by rw [Hw2.out, Hwr.out]; exact bDr (bDr (bDr Hb.out _) _) _⟩
     · have hjk2 : j = k := by have := Hj.out.2; omega
       have hjI : ¬ (j : Int) < k := by omega
       have Hjk := hQ hjk2
       have hkB : (k : Int) ≤ 262144 := by omega
       clear hjk2 hcell2 kb
       go_wp2
       refine ⟨⟨k + 2, d + d2, by have := Hk.out.1; omega, by omega, by go_num, by rw [Hw2.out, Hwr.out, World.drewN_drewN], ?_⟩, by simp [intOf]; omega⟩
       rintro ⟨i, j', e1, e2, e3, e4, e5, e6⟩
       by_cases ei : i = k
       · subst ei
         exact Hno2.out ⟨j', by rw [Hjk.out]; exact e1, e5, e6⟩
       · exact Hno.out ⟨i, j', e1, e2, by have := Hk.out.1; omega, e4, e5, e6⟩
  · have hkI : ¬ (k : Int) < T.length := by omega
    clear hcell
    go_wp2
    go_ret
    exact ⟨.inl ⟨rfl, fun ⟨i, j, e1, e2, e3, e4, e5⟩ => absurd ⟨i, j, e1, e2, by omega, e3, e4, e5⟩ Hno.out⟩, by rw [Hwr.out]; exact bDr Hb.out _⟩
def SmRel (T : List NodeD) (f : Nat) (w1 : World) (i : Value) (wr : World) : Prop :=
 ∃ k : Nat, k % 2 = 0 ∧ k ≤ T.length + 20 ∧ i = .int .i64 k ∧ wr = w1 ∧ 2 * f ≤ k ∧ ∀ x, x < k → x < T.length → x % 2 = 0 → 2 * f ≤ x → (nodeD T x).pub = 0
theorem arsome_any (B f : Nat) (hf : f ≤ 8) (T : List NodeD) (hlen : T.length ≤ 262144) (a : Option Addr) (c : Nat) (w : World) (hB : B ≤ w.heap.size) (hT : TreeAt B w a T) :
    Calls Tryz.prog 195 #[.agg #[.slice a T.length c], .int .i64 f] w fun r w' => (∃ b : Bool, r = .returned (.bool b) ∧ (b = true ↔ someD T f)) ∧ Below w.heap.size w w' := by
 have hb := (Below.refl w.heap.size w).alloc (Nat.le_refl _) (.cells #[.slice a T.length c] 44)
 have hrow := rAl (w := w) #[.slice a T.length c] 44 (0, 0)
 have hT1 := hT.below (hb.mono hB)
 have hlI : (T.length : Int) ≤ 262144 := by omega
 have hfI : (f : Int) ≤ 8 := by omega
 go_enter Tryz.func195, Tryz.ntmps195
 go_wp2
 obtain ⟨q, hq⟩ : ∃ q, q = w.heap.size := ⟨_, rfl⟩
 rw [← hq] at hrow ⊢
 have kb := (cRw hrow 0).trans rfl
 have Hb := hQ hb; clear hb hq hT hB
 generalize w.alloc (.cells #[.slice a T.length c] 44) = w1 at Hb hT1 hrow kb ⊢
 have HT := hQ hT1; clear hT1 hrow
 go_loopw [5] (fun i wr => SmRel T f w1 i wr) (fun i _ => T.length + 21 - (intOf i).toNat)
 case atStart => exact ⟨2 * f, by omega, by omega, by simp, rfl, Nat.le_refl _, fun x h1 _ _ h2 => by omega⟩
 case round =>
  obtain ⟨k, hk2, hk, rfl, rfl, hfk, hall⟩ := hrel
  have Hk := hQ (And.intro hk2 (And.intro hk hfk)); clear hk2 hk hfk
  have Hall := hQ hall; clear hall
  have hkB : (k : Int) ≤ 262164 := by have := Hk.out.2.1; omega
  by_cases hlt : k < T.length
  · have hkI : (k : Int) < T.length := by omega
    obtain ⟨b, o, rfl, hnode⟩ := HT.out k hlt
    have k0 := hnode.c0
    clear hnode
    by_cases hp : (nodeD T k).pub = 0
    · have Hp := hQ hp
      rw [hp] at k0
      clear hp
      go_wp2
      exact ⟨⟨k + 2, by have := Hk.out.1; omega, by have := Hk.out.1; omega, by go_num, rfl, by have := Hk.out.2.2; omega, fun x h1 h2 h3 h4 => by
       by_cases e : x = k
       · subst e; exact Hp.out
       · exact Hall.out x (by have := Hk.out.1; omega) h2 h3 h4⟩, by simp [intOf]; omega⟩
    · have Hp := hQ (show someD T f from ⟨k, hlt, Hk.out.1, Hk.out.2.2, hp⟩)
      have hp0 : ((nodeD T k).pub == 0) = false := beq_eq_false_iff_ne.2 hp
      generalize (nodeD T k).pub = pv at k0 hp0 hp
      go_wp2
      go_ret
      refine ⟨⟨true, rfl, by simp [Hp.out]⟩, Hb.out⟩
  · have hkI : ¬ (k : Int) < T.length := by omega
    go_wp2
    go_ret
    exact ⟨.inl ⟨rfl, fun ⟨x, h1, h2, h3, h4⟩ => absurd (Hall.out x (by omega) h1 h2 h3) h4⟩, Hb.out⟩
end
section
open Go Go.RowKit
end
section
open Go Go.RowKit
theorem iup_1 (w : World) (h : TzEnv w) (hsz : 3 ≤ w.heap.size) : Calls Tryz.prog 286 #[.int .i64 1, .int .i64 2] w (NewI [1] w) := by
 obtain ⟨i0, hi0, hz0, hz1, hz2⟩ := info_parts infoI
 have H := hQ h; clear h
 go_enter Tryz.func286, Tryz.ntmps286
 go_wp2_with (go_at_call 306; refine (iin_1 _).mono ?_; rintro e wx ⟨rfl, hwx⟩; subst wx)
 refine wp_loop_rounds 3 ?_
 rw [rounds_succ]
 have hn1 : ∀ W : World, OwnI (.slice none 0 0) [] W := ownI_nil
 have Hn1 := hQ hn1; clear hn1
 go_wp2_with (at_builtin; refine wpList_append_lies _ rfl (.tmp 17) (.tmp 19) 27 rfl 0 3 i0 (.int .i64 0) 1 8 Tryz.underlying27 hi0 hz0 hz1 hz2 rfl (by decide) (.slice none 0 0) 0 [] rfl (Hn1.out _) ⟨w.heap.size, 0, none⟩ 1 1 [intV 1] rfl rfl (cell_one_new _ _ _) (by intro u hu; simp [intV] at hu; rw [hu]; rfl) (by omega) (by unfold maxLen; omega) (by omega) (Nat.zero_le _) (w.heap.size + 1) (by simp) ?_; intro g1 c1 w1 hown1 hgrow1 hat1 hlt1; have Hown1 := hQ hown1; clear hown1; have hg1 : g1 = w.heap.size + 1 := hat1.elim (fun e => by simp [Value.ownBlock] at e) id; have Hb1 := hQ (((Below.refl w.heap.size w).alloc (Nat.le_refl _) (.cells #[.int .i64 1] 3)).grown hgrow1 (by simp) (fun k hk => by simp [Value.ownBlock] at hk)); clear hgrow1 hat1; have Hlt1 := hQ hlt1; clear hlt1; have Hg1 := hQ hg1; clear hg1)
 refine (iparent_1 _ (H.out.below Hb1.out hsz)).mono ?_
 rintro e wx ⟨rfl, hwx⟩
 subst wx
 go_wp2
 rw [rounds_succ]
 go_wp2
 go_ret
 have hg := Hg1.out
 exact newI_mk Hown1.out (by omega) Hb1.out
theorem idirect_1 (w : World) (h : TzEnv w) (hsz : 3 ≤ w.heap.size) : Calls Tryz.prog 186 #[.int .i64 1, .int .i64 2] w fun e w' => e = .returned (.slice none 0 0) ∧ Below w.heap.size w w' := by
 have H := hQ (iup_1 w h hsz); clear h hsz
 go_enter Tryz.func186, Tryz.ntmps186
 go_wp2_with fail
 refine H.out.mono ?_
 intro e w1 h1
 obtain ⟨g, c, rfl, hc, hc2, hg, c0, hb⟩ := newI_one h1
 unfold maxLen at hc2
 have Hg := hQ hg; clear hg h1
 have Hb := hQ hb; clear hb
 go_wp2
 go_ret
 exact ⟨rfl, Hb.out⟩
end
end Go.Proofs.YtedpljclnpiggaaGreatDoor
