/-
  The statement PathSecrets' function answers true, if lives does.
-/
import Derived.Test.YtedpljclnpiggaaGreatDoorQAcW
import Derived.Test.YtedpljclnpiggaaGreatDoorQIdx2
set_option linter.unusedVariables false
set_option linter.unusedSimpArgs false
namespace Go.Proofs.YtedpljclnpiggaaGreatDoor
open Go Go.RowKit

/-- A list of the call's own, apart from both stores. -/
def Loc (v : Value) (l : List Int) (w : World) (F G : Nat → Prop) : Prop := OwnI v l w ∧ ∀ g, v.ownBlock = some g → ¬ F g ∧ ¬ G g

theorem Loc.left {v : Value} {l : List Int} {w w' : World} {F F' G : Nat → Prop} (h : Loc v l w F G) (hx : Ext F F' w w') (hT : Turned F w w') : Loc v l w' F' G :=
  ⟨ownI_kept h.1 hT (fun g hg => (h.2 g hg).1), fun g hg => ⟨fun hf => (hx g hf).elim (h.2 g hg).1 (fun h2 => absurd h2.1 (Nat.not_le_of_lt (ownI_lt h.1 hg))), (h.2 g hg).2⟩⟩
theorem Loc.right {v : Value} {l : List Int} {w w' : World} {F G G' : Nat → Prop} (h : Loc v l w F G) (hx : Ext G G' w w') (hT : Turned G w w') : Loc v l w' F G' :=
  ⟨ownI_kept h.1 hT (fun g hg => (h.2 g hg).2), fun g hg => ⟨(h.2 g hg).1, fun hf => (hx g hf).elim (h.2 g hg).2 (fun h2 => absurd h2.1 (Nat.not_le_of_lt (ownI_lt h.1 hg)))⟩⟩

theorem secretsL_len (L : List TermD) (seed many : Int) : (secretsL L seed many).length ≤ 17 := by
  unfold secretsL
  cases hb : secretsBad L seed many
  · unfold secretsBad at hb
    simp only [Bool.or_eq_false_iff, decide_eq_false_iff_not] at hb
    simp only [Bool.false_eq_true, if_false, List.length_cons, secGo_len]
    omega
  · simp

def Lives : Prop := ∀ W : World, TzEnv W → 3 ≤ W.heap.size → Calls Tryz.prog 14 #[] W fun e w' => e = .returned (.bool true) ∧ Below W.heap.size W w'

set_option maxRecDepth 100000 in
set_option maxHeartbeats 3200000 in
theorem pathSecrets_any (lv : Lives) (a : Option Addr) (n c : Nat) (f : Nat → TermD) (hn : n ≤ 9223372036854775807) (hok : ∀ i, i < n → (f i).ok) (seed many : Int) (w : World) (htz : TzEnv w) (h3 : 3 ≤ w.heap.size) (h : Terms w a n f) :
    Calls Tryz.prog 3 #[.slice a n c, .int .i64 seed, .int .i64 many] w fun e w' => e = .returned (.bool true) ∧ Below w.heap.size w w' := by
  have Lv := Lib.hid lv; clear lv
  have Htz := Lib.hid htz; clear htz
  have H3 := Lib.hid h3; clear h3
  by_cases hbig : 2000 < n
  · have hbI : (2000 : Int) < n := by omega
    clear h hok
    go_enter Tryz.func3, Tryz.ntmps3
    go_wp2
    go_ret
    exact ⟨rfl, Below.refl _ _⟩
  · have hbI : (n : Int) ≤ 2000 := by omega
    have hbuild := build_any a n c f (by omega) hok w h
    have hfacts := buildL_facts (termsL n f) (termsL_ok hok)
    have hmay := buildL_may (termsL n f)
    rw [termsL_len] at hfacts
    unfold BuildPost at hbuild
    generalize buildL (termsL n f) = L at hbuild hfacts hmay
    have h1 := secrets_facts (seed := seed) (many := many) hfacts.1 (by omega)
    have hm1 := secretsT_may seed many hmay
    have h2 := node_facts (x := seed) h1.1 (by omega)
    have hm2 := nodeT_may seed hm1
    have hlen17 := secretsL_len L seed many
    have Hbuild := Lib.hid hbuild; clear hbuild h hok
    have Hf := Lib.hid hfacts; clear hfacts
    have H1 := Lib.hid h1; clear h1
    have Hm1 := Lib.hid hm1; clear hm1
    have H2 := Lib.hid h2; clear h2
    have Hm2 := Lib.hid hm2; clear hm2 hmay
    have H17 := Lib.hid hlen17; clear hlen17
    go_enter Tryz.func3, Tryz.ntmps3
    go_wp2_with fail
    refine Hbuild.out.mono ?_
    rintro e w1 ⟨rfl, ⟨F0, G0, hp1⟩, hb1⟩
    have Hp1 := Lib.hid hp1; clear hp1
    have Hb1 := Lib.hid hb1; clear hb1 Hbuild
    obtain ⟨s, hs⟩ : ∃ s, s = w.heap.size + 1 := ⟨_, rfl⟩
    obtain ⟨r, hr⟩ : ∃ r, r = w.heap.size + 2 := ⟨_, rfl⟩
    rw [← hs, ← hr] at Hp1 ⊢
    clear hs hr
    go_wp2_with fail
    refine (psecrets_any s F0 L seed many Hf.out.1 (by have := Hf.out.2; omega) w1 Hp1.out.ps).mono ?_
    rintro e w2 ⟨va, F1, rfl, hva, hx2, hs2, hT2, hfar2⟩
    obtain ⟨hp2, hb2⟩ := Hp1.out.left Hb1.out.size hx2 hs2 hT2
    have hla : Loc va (secretsL L seed many) w2 F1 G0 := ⟨hva, fun g hg => ⟨(hfar2 g hg).2, fun hf => by have := Hp1.out.rs.lt g hf; have := (hfar2 g hg).1; omega⟩⟩
    have Hp2 := Lib.hid hp2; clear hp2
    have Hb2 := Lib.hid (Hb1.out.trans hb2); clear hb2
    have Hla := Lib.hid hla; clear hla hva hx2 hs2 hT2 hfar2
    go_wp2_with fail
    refine (rsecrets_any r G0 L seed many Hf.out.1 (by have := Hf.out.2; omega) w2 Hp2.out.rs).mono ?_
    rintro e w3 ⟨vb, G1, rfl, hvb, hx3, hs3, hT3, hfar3⟩
    obtain ⟨hp3, hb3⟩ := Hp2.out.right Hb2.out.size hx3 hs3 hT3
    have hlb : Loc vb (secretsL L seed many) w3 F1 G1 := ⟨hvb, fun g hg => ⟨fun hf => by have := Hp2.out.ps.lt g hf; have := (hfar3 g hg).1; omega, (hfar3 g hg).2⟩⟩
    have hla := Hla.out.right hx3 hT3
    have Hp3 := Lib.hid hp3; clear hp3
    have Hb3 := Lib.hid (Hb2.out.trans hb3); clear hb3
    have Hla3 := Lib.hid hla; clear hla
    have Hlb3 := Lib.hid hlb; clear hlb hvb hx3 hs3 hT3 hfar3
    generalize secretsE L seed many = er
    go_wp2_with fail
    refine (snode_any s F1 (secretsT L seed many) seed H1.out.1 (by have := Hf.out.2; have := H1.out.2.1; omega) w3 Hp3.out.ps).mono ?_
    rintro e w4 ⟨rfl, F2, hx4, hs4, hT4⟩
    obtain ⟨hp4, hb4⟩ := Hp3.out.left Hb3.out.size hx4 hs4 hT4
    have Hla4 := Lib.hid (Hla3.out.left hx4 hT4)
    have Hlb4 := Lib.hid (Hlb3.out.left hx4 hT4)
    have Hp4 := Lib.hid hp4; clear hp4
    have Hb4 := Lib.hid (Hb3.out.trans hb4); clear hb4 hx4 hs4 hT4
    go_wp2_with fail
    refine (rnode_any r G1 (secretsT L seed many) seed H1.out.1 (by have := Hf.out.2; have := H1.out.2.1; omega) w4 Hp4.out.rs).mono ?_
    rintro e w5 ⟨rfl, G2, hx5, hs5, hT5⟩
    obtain ⟨hp5, hb5⟩ := Hp4.out.right Hb4.out.size hx5 hs5 hT5
    have Hla5 := Lib.hid (Hla4.out.right hx5 hT5)
    have Hlb5 := Lib.hid (Hlb4.out.right hx5 hT5)
    have Hp5 := Lib.hid hp5; clear hp5
    have Hb5 := Lib.hid (Hb4.out.trans hb5); clear hb5 hx5 hs5 hT5
    go_wp2_with fail
    refine (across_any s r (nodeT (secretsT L seed many) seed) F2 G2 H2.out.1 Hm2.out (by have := Hf.out.2; have := H1.out.2.1; have := H2.out.2.1; omega) w5 Hp5.out.ps Hp5.out.rs Hp5.out.ap).mono ?_
    rintro e w6 ⟨mp, rfl, hmap, hT6⟩
    have Hmap := Lib.hid hmap; clear hmap
    have Hb6 := Lib.hid (Hb5.out.trans (hT6.below Hb5.out.size Hp5.out.lg))
    have hva6 := ownI_kept Hla5.out.1 hT6 (fun g hg => (Hla5.out.2 g hg).2)
    have hvb6 := ownI_kept Hlb5.out.1 hT6 (fun g hg => (Hlb5.out.2 g hg).2)
    clear hT6 Hp1 Hp2 Hp3 Hp4 Hp5 Hla Hla3 Hla4 Hla5 Hlb3 Hlb4 Hlb5 Hb1 Hb2 Hb3 Hb4 Hb5
    have hall : ∀ y ∈ secretsL L seed many, 0 ≤ y ∧ y < ((nodeT (secretsT L seed many) seed).length + 1 : Nat) := fun y hy => by
      have := there_bounds (H1.out.2.2.1 y hy)
      have := H2.out.2.2.1
      omega
    have hsz : (nodeT (secretsT L seed many) seed).length + 1 ≤ 100000 := by have := Hf.out.2; have := H1.out.2.1; have := H2.out.2.1; omega
    have hnum := numbers_any mp _ _ va vb hsz hall (by have := H17.out; omega) w6 Hmap.out hva6 hvb6
    obtain ⟨kx, hkx⟩ : ∃ x : Nat, nodeK (secretsT L seed many) seed = x := ⟨(nodeK (secretsT L seed many) seed).toNat, by have := H2.out.2.2.2.1.1; omega⟩
    obtain ⟨px, hpx⟩ : ∃ x : Nat, nodeP (secretsT L seed many) seed = x := ⟨(nodeP (secretsT L seed many) seed).toNat, by have := H2.out.2.2.2.2.1; omega⟩
    have hk1 := fun d => same_any mp _ kx (by have := H2.out.2.2.2.1.2; omega) hsz (w6.drewN d) Hmap.out
    have hp1 := fun d => same_any mp _ px (by have := H2.out.2.2.2.2.2; omega) hsz (w6.drewN d) Hmap.out
    rw [hkx, hpx]
    have Hnum := Lib.hid hnum; clear hnum hall hsz hva6 hvb6
    have Hk1 := Lib.hid hk1; clear hk1 hkx
    have Hp1 := Lib.hid hp1; clear hp1 hpx
    clear H1 H2 Hm1 Hm2 Hf H17 Hmap
    generalize nodeE (secretsT L seed many) seed = en
    go_wp2_with fail
    refine (psecrets_nil seed many _).mono ?_
    rintro e wx ⟨rfl, hwx⟩
    subst wx
    go_wp2_with fail
    refine Hnum.out.mono ?_
    rintro e wx ⟨rfl, d, hwx⟩
    subst wx
    go_wp2_with fail
    refine (Hk1.out d).mono ?_
    rintro e wx ⟨rfl, hwx⟩
    subst wx
    go_wp2_with fail
    refine (Hp1.out d).mono ?_
    rintro e wx ⟨rfl, hwx⟩
    subst wx
    go_wp2_with fail
    have hb6d := below_drewN Hb6.out d
    refine (Lv.out _ (Htz.out.below hb6d H3.out) (Nat.le_trans H3.out hb6d.size)).mono ?_
    clear hb6d
    rintro e w8 ⟨rfl, hb8⟩
    have Hb8 := Lib.hid ((below_drewN Hb6.out d).trans (hb8.mono Hb6.out.size)); clear hb8
    go_wp2
    go_ret
    exact ⟨rfl, Hb8.out⟩
end Go.Proofs.YtedpljclnpiggaaGreatDoor
