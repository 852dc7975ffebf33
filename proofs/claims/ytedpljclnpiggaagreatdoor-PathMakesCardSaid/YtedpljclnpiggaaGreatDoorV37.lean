/- The document's Targets, where a leaf may be asked about. -/
import Derived.Test.YtedpljclnpiggaaGreatDoorV21
import Derived.Test.YtedpljclnpiggaaGreatDoorV20
import Derived.Test.YtedpljclnpiggaaGreatDoorV36
import Derived.BigQuiet
set_option linter.unusedVariables false
set_option linter.unusedSimpArgs false
set_option maxRecDepth 100000
set_option maxHeartbeats 12800000
namespace Go.Proofs.YtedpljclnpiggaaGreatDoor
section
open Go Go.RowKit
theorem mrlev_0 (w : World) : Calls Tryz.prog 332 #[.int .i64 0] w fun e w' => e = .returned (.int .i64 0) ∧ w' = w := by
 go_enter Tryz.func332, Tryz.ntmps332
 go_wp2
 refine wp_loop_rounds 1 ?_
 rw [rounds_succ]
 go_wp2
 go_ret
 exact ⟨rfl, rfl⟩
theorem mrhalf_0 (w : World) : Calls Tryz.prog 318 #[.int .i64 0] w fun e w' => e = .returned (.int .i64 0) ∧ w' = w := by
 go_enter Tryz.func318, Tryz.ntmps318
 go_wp2_with (first | (go_at_call 332; refine (mrlev_0 _).mono ?_; rintro e wx ⟨rfl, hwx⟩; subst wx))
 go_ret
 exact ⟨rfl, rfl⟩
theorem mrlev_4 (w : World) : Calls Tryz.prog 332 #[.int .i64 4] w fun e w' => e = .returned (.int .i64 0) ∧ w' = w := by
 go_enter Tryz.func332, Tryz.ntmps332
 go_wp2
 refine wp_loop_rounds 1 ?_
 rw [rounds_succ]
 go_wp2
 go_ret
 exact ⟨rfl, rfl⟩
theorem mrhalf_4 (w : World) : Calls Tryz.prog 318 #[.int .i64 4] w fun e w' => e = .returned (.int .i64 0) ∧ w' = w := by
 go_enter Tryz.func318, Tryz.ntmps318
 go_wp2_with (first | (go_at_call 332; refine (mrlev_4 _).mono ?_; rintro e wx ⟨rfl, hwx⟩; subst wx))
 go_ret
 exact ⟨rfl, rfl⟩
theorem mrlev_8 (w : World) : Calls Tryz.prog 332 #[.int .i64 8] w fun e w' => e = .returned (.int .i64 0) ∧ w' = w := by
 go_enter Tryz.func332, Tryz.ntmps332
 go_wp2
 refine wp_loop_rounds 1 ?_
 rw [rounds_succ]
 go_wp2
 go_ret
 exact ⟨rfl, rfl⟩
theorem mrhalf_8 (w : World) : Calls Tryz.prog 318 #[.int .i64 8] w fun e w' => e = .returned (.int .i64 0) ∧ w' = w := by
 go_enter Tryz.func318, Tryz.ntmps318
 go_wp2_with (first | (go_at_call 332; refine (mrlev_8 _).mono ?_; rintro e wx ⟨rfl, hwx⟩; subst wx))
 go_ret
 exact ⟨rfl, rfl⟩
theorem mrlev_12 (w : World) : Calls Tryz.prog 332 #[.int .i64 12] w fun e w' => e = .returned (.int .i64 0) ∧ w' = w := by
 go_enter Tryz.func332, Tryz.ntmps332
 go_wp2
 refine wp_loop_rounds 1 ?_
 rw [rounds_succ]
 go_wp2
 go_ret
 exact ⟨rfl, rfl⟩
theorem mrhalf_12 (w : World) : Calls Tryz.prog 318 #[.int .i64 12] w fun e w' => e = .returned (.int .i64 0) ∧ w' = w := by
 go_enter Tryz.func318, Tryz.ntmps318
 go_wp2_with (first | (go_at_call 332; refine (mrlev_12 _).mono ?_; rintro e wx ⟨rfl, hwx⟩; subst wx))
 go_ret
 exact ⟨rfl, rfl⟩
def hfX : Nat → Nat
 | 1 => 1
 | 3 => 2
 | 9 => 1
 | _ => 0
theorem mrhalf_any (y : Nat) (hy : y = 0 ∨ y = 1 ∨ y = 3 ∨ y = 4 ∨ y = 8 ∨ y = 9 ∨ y = 11 ∨ y = 12) (h11 : y ≠ 11) (w : World) : Calls Tryz.prog 318 #[.int .i64 y] w fun e w' => e = .returned (.int .i64 (hfX y : Nat)) ∧ w' = w := by
 rcases hy with rfl | rfl | rfl | rfl | rfl | rfl | rfl | rfl
 · exact mrhalf_0 w
 · exact arhalf_1 w
 · exact arhalf_3 w
 · exact mrhalf_4 w
 · exact mrhalf_8 w
 · exact arhalf_9 w
 · exact absurd rfl h11
 · exact mrhalf_12 w
def withD (p y h : Nat) : Bool := if h = 0 then decide (p = y) else decide ((y : Int) - (2 * h - 1) ≤ p) && decide ((p : Int) - y ≤ 2 * h - 1)
theorem mrwithin_any (p y h : Nat) (hp : p ≤ 14) (hy : y ≤ 14) (hh : h ≤ 4) (H0 : ∀ w, Calls Tryz.prog 318 #[.int .i64 y] w fun e w' => e = .returned (.int .i64 h) ∧ w' = w) (w : World) :
    Calls Tryz.prog 301 #[.int .i64 p, .int .i64 y] w fun e w' => e = .returned (.bool (withD p y h)) ∧ w' = w := by
 have H := hQ H0
 obtain ⟨P, hP⟩ : ∃ P : Int, P = p := ⟨_, rfl⟩
 obtain ⟨Y, hY⟩ : ∃ Y : Int, Y = y := ⟨_, rfl⟩
 obtain ⟨G, hG⟩ : ∃ G : Int, G = h := ⟨_, rfl⟩
 rw [← hY, ← hG] at H
 rw [← hP, ← hY]
 have hP0 : ¬ P < 0 := by omega
 have hY0 : ¬ Y < 0 := by omega
 have hPm : P ≤ 14 := by omega
 have hYm : Y ≤ 14 := by omega
 have hGm : G ≤ 4 := by omega
 have hG0 : 0 ≤ G := by omega
 have hYx : (Y == 9223372036854775807) = false := beq_eq_false_iff_ne.2 (by omega)
 have hw : withD p y h = if G = 0 then decide (P = Y) else decide (Y - (2 * G - 1) ≤ P) && decide (P - Y ≤ 2 * G - 1) := by
  unfold withD
  rw [hP, hY, hG]
  by_cases e : h = 0
  · subst e; simp; omega
  · rw [if_neg e, if_neg (by omega)]
 have Hw := hQ hw
 clear hw hP hY hG H0 hp hy hh
 by_cases e : G = 0
 · subst e
   by_cases e2 : P = Y
   · subst e2
     go_enter Tryz.func301, Tryz.ntmps301
     go_wp2_with fail
     refine (H.out _).mono ?_
     rintro e wx ⟨rfl, hwx⟩
     subst wx
     go_wp2
     go_ret
     exact ⟨by rw [Hw.out]; simp, rfl⟩
   · have e3 : (P == Y) = false := beq_eq_false_iff_ne.2 e2
     go_enter Tryz.func301, Tryz.ntmps301
     go_wp2_with fail
     refine (H.out _).mono ?_
     rintro e wx ⟨rfl, hwx⟩
     subst wx
     go_wp2
     go_ret
     exact ⟨by rw [Hw.out]; simp [e2], rfl⟩
 · have e1 : (2 * G == 0) = false := beq_eq_false_iff_ne.2 (by omega)
   by_cases e2 : Y - (2 * G - 1) ≤ P
   · have e3 : Y - (2 * G - 1) ≤ P := e2
     go_enter Tryz.func301, Tryz.ntmps301
     go_wp2_with fail
     refine (H.out _).mono ?_
     rintro e wx ⟨rfl, hwx⟩
     subst wx
     by_cases e4 : P - Y ≤ 2 * G - 1
     · go_wp2
       go_ret
       exact ⟨by rw [Hw.out, if_neg e]; simp [e2, e4], rfl⟩
     · go_wp2
       go_ret
       exact ⟨by rw [Hw.out, if_neg e]; simp [e2, e4], rfl⟩
   · have He := hQ e2
     go_enter Tryz.func301, Tryz.ntmps301
     go_wp2_with fail
     refine (H.out _).mono ?_
     rintro e wx ⟨rfl, hwx⟩
     subst wx
     go_wp2
     go_ret
     exact ⟨by rw [Hw.out, if_neg e]; have h9 := He.out; simp; omega, rfl⟩
theorem oth_within_all : ∀ n ∈ [1, 2, 4, 8], ∀ l ∈ List.range n, ∀ x ∈ drD (2 * l) n, x < 15 ∧ x % 2 = 1 ∧ (if withD (2 * l) (lefX x) (hfX (lefX x)) = true then rigX x else lefX x) = oth l x ∧ hfX (lefX x) ≤ 4 ∧ lefX x ≠ 11 ∧ (lefX x = 0 ∨ lefX x = 1 ∨ lefX x = 3 ∨ lefX x = 4 ∨ lefX x = 8 ∨ lefX x = 9 ∨ lefX x = 11 ∨ lefX x = 12) := by decide
theorem mrother_any (n l x : Nat) (hn : isN n) (hl : l < n) (hx : x ∈ drD (2 * l) n) (w : World) :
    Calls Tryz.prog 209 #[.int .i64 x, .int .i64 l] w fun e w' => e = .returned (.int .i64 (oth l x : Nat)) ∧ w' = w := by
 obtain ⟨h15, ho, hoth, hh, h11, hy⟩ := oth_within_all n (by rcases hn with rfl | rfl | rfl | rfl <;> decide) l (List.mem_range.2 hl) x hx
 have hl8 : l ≤ 7 := by rcases hn with h | h | h | h <;> omega
 have hw := fun w => mrwithin_any (2 * l) (lefX x) (hfX (lefX x)) (by omega) (by omega) hh (fun w => mrhalf_any (lefX x) hy h11 w) w
 have e2 : ((2 * l : Nat) : Int) = 2 * (l : Int) := by omega
 rw [e2] at hw
 have HL := hQ (mrleft_odd x h15 ho)
 have HR := hQ (mrright_odd x h15 ho)
 have Hw := hQ hw
 have hlI : (l : Int) ≤ 7 := by omega
 generalize withD (2 * l) (lefX x) (hfX (lefX x)) = b at Hw hoth
 have Ho := hQ hoth
 generalize lefX x = lx at HL Hw Ho
 generalize rigX x = rx at HR Ho
 clear hw hoth hy h11 hh ho h15 hl8 e2 hx hn hl
 go_enter Tryz.func209, Tryz.ntmps209
 go_wp2_with fail
 refine (HL.out _).mono ?_
 rintro e wx ⟨rfl, hwx⟩
 subst wx
 go_wp2_with fail
 refine (HR.out _).mono ?_
 rintro e wx ⟨rfl, hwx⟩
 subst wx
 go_wp2_with fail
 refine (Hw.out _).mono ?_
 rintro e wx ⟨rfl, hwx⟩
 subst wx
 cases b
 · go_wp2
   go_ret
   exact ⟨by rw [← Ho.out]; rfl, rfl⟩
 · go_wp2
   go_ret
   exact ⟨by rw [← Ho.out]; rfl, rfl⟩
end
section
open Go Go.RowKit
structure RRA (B q : Nat) (a : Option Addr) (c : Nat) (T : List NodeD) (w : World) : Prop where
 tr : TreeAt B w a T
 box : w.heap[q]? = some (.cells #[.slice a T.length c] 44 (0, 0))
 size : B ≤ w.heap.size
theorem RRA.low {B q N : Nat} {a : Option Addr} {c : Nat} {T : List NodeD} {w w' : World} (h : RRA B q a c T w) (hb : Below N w w') (hq : q < N) (hB : B ≤ N) : RRA B q a c T w' :=
 ⟨h.tr.below (hb.mono hB), (hb.block q hq).trans h.box, Nat.le_trans h.size hb.size⟩
theorem RRA.lt {B q : Nat} {a : Option Addr} {c : Nat} {T : List NodeD} {w : World} (h : RRA B q a c T w) : q < w.heap.size := (Array.getElem?_eq_some_iff.1 h.box).1
theorem RRA.new {B q : Nat} {a : Option Addr} {c : Nat} {T : List NodeD} {w w' : World} (h : RRA B q a c T w) (hb : Below w.heap.size w w') : RRA B q a c T w' := h.low hb h.lt h.size
theorem mrasked_any (B : Nat) (T : List NodeD) (hfit : FitT T) (hlen : T.length ≤ 262144) (a : Option Addr) (c : Nat) (leaf : Int) (w : World) (hB : B ≤ w.heap.size) (hT : TreeAt B w a T) :
    Calls Tryz.prog 207 #[.agg #[.slice a T.length c], .int .i64 leaf] w fun e w' => e = .returned (.int .i64 (askD T leaf)) ∧ Below w.heap.size w w' := by
 have hb1 := (Below.refl w.heap.size w).alloc (Nat.le_refl _) (.cells #[.slice a T.length c] 44)
 have hrow := rAl (w := w) #[.slice a T.length c] 44 (0, 0)
 have hA : RRA B w.heap.size a c T (w.alloc (.cells #[.slice a T.length c] 44)) := ⟨hT.below (hb1.mono hB), hrow, Nat.le_trans hB hb1.size⟩
 have HA := hQ hA
 have Hb1 := hQ hb1
 have hck := fun W (hW : RRA B w.heap.size a c T W) => archeck_any B T hfit hlen a c W hW.size hW.tr
 have Hck := hQ hck
 have hlv := arleaves_any a T.length c
 have Hlv := hQ hlv
 clear hb1 hrow hA hck hT hlv
 by_cases hok : OkT' T
 · rw [errD_ok hok] at Hck
   by_cases hl0 : leaf < 0
   · have Hak := hQ (ask_gone hok (.inl hl0)); clear hok
     go_enter Tryz.func207, Tryz.ntmps207
     go_wp2_with fail
     refine (Hck.out _ HA.out).mono ?_
     rintro r w2 ⟨rfl, hb2⟩
     have Hb2 := hQ (Hb1.out.trans (hb2.mono Hb1.out.size)); clear hb2
     go_wp2
     go_ret
     exact ⟨by rw [Hak.out]; rfl, Hb2.out⟩
   · obtain ⟨lf, hlf⟩ : ∃ lf : Nat, leaf = lf := ⟨leaf.toNat, by omega⟩
     by_cases hl1 : lf < lvD T.length
     · obtain ⟨hn, hTn⟩ := leaves_isN (ok_leaves hok (by intro h; rw [h] at hl1; exact absurd hl1 (by unfold lvD; simp)))
       have hx2 : 2 * lf < T.length := by omega
       have h15 : T.length ≤ 15 := by rcases hn with h | h | h | h <;> omega
       have hn8 : lvD T.length ≤ 8 := by rcases hn with h | h | h | h <;> omega
       obtain ⟨b, o, rfl, hnd⟩ := HA.out.tr (2 * lf) hx2
       have hk0 : ∀ W, RRA B w.heap.size (some ⟨b, o, none⟩) c T W → W.cell? ⟨b, o + (2 * leaf).toNat * 4, none⟩ = some (.int .i64 (nodeD T (2 * lf)).pub) := fun W hW => by
        obtain ⟨b', o', e, hn'⟩ := hW.tr (2 * lf) hx2
        obtain ⟨rfl, rfl⟩ : b = b' ∧ o = o' := by simpa using e
        rw [show (2 * leaf).toNat = 2 * lf by omega]
        exact hn'.c0
       have hlfI : leaf < lvD T.length := by omega
       have hlfT : 2 * leaf < T.length := by omega
       have hlf8 : leaf ≤ 8 := by omega
       have h2lf : 0 ≤ 2 * leaf := by omega
       have hT15 : (T.length : Int) ≤ 15 := by omega
       have hnI8 : (lvD T.length : Int) ≤ 8 := by omega
       have hnlI : ¬ (lvD T.length : Int) ≤ leaf := by omega
       have Hk0 := hQ hk0
       have Hak0 := hQ (fun (h : (nodeD T (2 * lf)).pub = 0) => ask_gone (leaf := leaf) hok (.inr (.inr (by rw [show (2 * leaf).toNat = 2 * lf by omega]; exact h))))
       have Hak1 := hQ (fun (h : ¬ (nodeD T (2 * lf)).pub = 0) => ask_ok (leaf := leaf) hok (fun h1 => h1.elim hl0 (fun h1 => h1.elim (fun h1 => by omega) (fun h1 => h (by rw [show (2 * leaf).toNat = 2 * lf by omega] at h1; exact h1)))))
       generalize lvD T.length = n at Hlv hlfI hnI8 hnlI
       clear hk0 hnd hn hTn hok hx2 hl1 h15 hn8 hlf
       by_cases hp : (nodeD T (2 * lf)).pub = 0
       · have Hak := hQ (Hak0.out hp)
         rw [hp] at Hk0
         clear Hak0 Hak1 hp
         go_enter Tryz.func207, Tryz.ntmps207
         go_wp2_with fail
         refine (Hck.out _ HA.out).mono ?_
         rintro r w2 ⟨rfl, hb2⟩
         have Hb2 := hQ (Hb1.out.trans (hb2.mono Hb1.out.size))
         have HA2 := hQ (HA.out.new hb2); clear hb2
         have kb := (cRw HA2.out.box 0).trans rfl
         go_wp2_with fail
         refine (Hlv.out _).mono ?_
         rintro r w3 ⟨rfl, hb3⟩
         have Hb3 := hQ (Hb2.out.trans (hb3.mono Hb2.out.size))
         have HA3 := hQ (HA2.out.new hb3); clear hb3
         have kb := (cRw HA3.out.box 0).trans rfl
         have k0 := Hk0.out _ HA3.out
         go_wp2
         go_ret
         exact ⟨by rw [Hak.out]; rfl, Hb3.out⟩
       · have Hak := hQ (Hak1.out hp)
         have hp0 : ((nodeD T (2 * lf)).pub == 0) = false := beq_eq_false_iff_ne.2 hp
         clear Hak0 Hak1
         generalize (nodeD T (2 * lf)).pub = p at Hk0 hp hp0
         go_enter Tryz.func207, Tryz.ntmps207
         go_wp2_with fail
         refine (Hck.out _ HA.out).mono ?_
         rintro r w2 ⟨rfl, hb2⟩
         have Hb2 := hQ (Hb1.out.trans (hb2.mono Hb1.out.size))
         have HA2 := hQ (HA.out.new hb2); clear hb2
         have kb := (cRw HA2.out.box 0).trans rfl
         go_wp2_with fail
         refine (Hlv.out _).mono ?_
         rintro r w3 ⟨rfl, hb3⟩
         have Hb3 := hQ (Hb2.out.trans (hb3.mono Hb2.out.size))
         have HA3 := hQ (HA2.out.new hb3); clear hb3
         have kb := (cRw HA3.out.box 0).trans rfl
         have k0 := Hk0.out _ HA3.out
         go_wp2
         go_ret
         exact ⟨by rw [Hak.out]; rfl, Hb3.out⟩
     · have Hak := hQ (ask_gone (leaf := leaf) hok (.inr (.inl (by omega)))); clear hok
       have hlI : (lvD T.length : Int) ≤ leaf := by omega
       generalize lvD T.length = n at Hlv hlI
       clear hl1 hlf
       go_enter Tryz.func207, Tryz.ntmps207
       go_wp2_with fail
       refine (Hck.out _ HA.out).mono ?_
       rintro r w2 ⟨rfl, hb2⟩
       have Hb2 := hQ (Hb1.out.trans (hb2.mono Hb1.out.size))
       have HA2 := hQ (HA.out.new hb2); clear hb2
       have kb := (cRw HA2.out.box 0).trans rfl
       go_wp2_with fail
       refine (Hlv.out _).mono ?_
       rintro r w3 ⟨rfl, hb3⟩
       have Hb3 := hQ (Hb2.out.trans (hb3.mono Hb2.out.size)); clear hb3
       go_wp2
       go_ret
       exact ⟨by rw [Hak.out]; rfl, Hb3.out⟩
 · have Hak := hQ (ask_bad (leaf := leaf) hok)
   rw [errD_bad hok] at Hck
   clear hok
   go_enter Tryz.func207, Tryz.ntmps207
   go_wp2_with fail
   refine (Hck.out _ HA.out).mono ?_
   rintro r w2 ⟨rfl, hb2⟩
   have Hb2 := hQ (Hb1.out.trans (hb2.mono Hb1.out.size)); clear hb2
   go_wp2
   go_ret
   exact ⟨by rw [Hak.out]; rfl, Hb2.out⟩
end
section
open Go Go.RowKit
def pthOf (T : List NodeD) (leaf : Nat) (l : List Nat) : List Nat := l.filter fun x => decide (resD T 4 (oth leaf x) ≠ [])
theorem pthOf_step {T : List NodeD} {leaf k : Nat} {l : List Nat} (hk : k < l.length) :
    pthOf T leaf (l.take (k + 1)) = pthOf T leaf (l.take k) ++ (if resD T 4 (oth leaf (l.getD k 0)) = [] then [] else [l.getD k 0]) := by
 have e : l.take (k + 1) = l.take k ++ [l.getD k 0] := by rw [List.take_add_one, List.getD_eq_getElem?_getD, List.getElem?_eq_getElem hk]; rfl
 unfold pthOf
 generalize l.getD k 0 = y at e ⊢
 rw [e, List.filter_append]
 congr 1
 by_cases h : resD T 4 (oth leaf y) = []
 · rw [if_pos h]
   simp [h]
 · rw [if_neg h]
   simp [h]
def RPtRel (T : List NodeD) (leaf : Nat) (dl : List Nat) (W : World) (v i : Value) (wr : World) : Prop :=
 ∃ k : Nat, k ≤ dl.length ∧ i = .int .i64 k ∧ ResIn W (.slice none 0 0) v (pthOf T leaf (dl.take k)) wr
theorem mrpath_any (B : Nat) (T : List NodeD) (hfit : FitT T) (hlen : T.length ≤ 262144) (a : Option Addr) (c : Nat) (leaf : Int) (w : World) (hB : B ≤ w.heap.size) (hT : TreeAt B w a T) :
    Calls Tryz.prog 60 #[.agg #[.slice a T.length c], .int .i64 leaf] w (PathAns T leaf w) := by
 obtain ⟨i0, hi0, hz0, hz1, hz2⟩ := info_parts infoI
 have hb1 := (Below.refl w.heap.size w).alloc (Nat.le_refl _) (.cells #[.slice a T.length c] 44)
 have hrow := rAl (w := w) #[.slice a T.length c] 44 (0, 0)
 have hA : RRA B w.heap.size a c T (w.alloc (.cells #[.slice a T.length c] 44)) := ⟨hT.below (hb1.mono hB), hrow, Nat.le_trans hB hb1.size⟩
 have HA := hQ hA
 have Hb1 := hQ hb1
 have Hask := hQ (mrasked_any B T hfit hlen a c leaf _ hA.size hA.tr)
 have Hlv := hQ (arleaves_any a T.length c)
 clear hb1 hrow hA hT
 by_cases ha : askD T leaf = 0
 · obtain ⟨hok, hl0, hlt, hn, hTn, hpn⟩ := ask_zero ha
   have hpk := pth_ok ha
   have hres := fun y hy W (hW : RRA B w.heap.size a c T W) => mrres_any B T hok hlen a c 4 (by omega) y (lev_lt y) hy W hW.size hW.tr
   have hdir := fun W => ardirect_any (2 * leaf.toNat) (lvD T.length) hn (by omega) W
   have e2 : ((2 * leaf.toNat : Nat) : Int) = 2 * leaf := by omega
   rw [e2] at hdir
   have hot := fun x hx W => mrother_any (lvD T.length) leaf.toNat x hn hlt hx W
   have e3 : ((leaf.toNat : Nat) : Int) = leaf := by omega
   rw [e3] at hot
   have hof := (oth_facts hn hlt).2.2
   have hoT : ∀ x ∈ drD (2 * leaf.toNat) (lvD T.length), oth leaf.toNat x < T.length := fun x hx => by have := hof x hx; omega
   have hrl := fun y hy => res_len hok 4 y hy
   have hlfI : leaf ≤ 8 := by rcases hn with h | h | h | h <;> omega
   have hl0I : 0 ≤ leaf := hl0
   have hTI : (T.length : Int) ≤ 15 := by rcases hn with h | h | h | h <;> omega
   have hdlt := hpk.dlt
   have hdl3 := hpk.len
   have hpl : PathAns T leaf w = NewL2 (pthOf T leaf.toNat (drD (2 * leaf.toNat) (lvD T.length))) 0 w := by unfold PathAns; rw [ha, if_pos rfl, pth_filter]; rfl
   rw [ha] at Hask
   obtain ⟨P, hP⟩ : ∃ P, P = PathAns T leaf w := ⟨_, rfl⟩
   rw [← hP]
   rw [← hP] at hpl
   have HP := hQ hpl
   have Hres := hQ hres
   have Hdir := hQ hdir
   have Hot := hQ hot
   have Hrl := hQ hrl
   have HoT := hQ hoT
   generalize drD (2 * leaf.toNat) (lvD T.length) = dl at Hdir Hot HoT hdlt hdl3 HP
   have Hdlt := hQ hdlt
   have hdI : (dl.length : Int) ≤ 3 := by omega
   generalize lvD T.length = n at Hlv Hdir
   clear hres hdir hot hof hoT hrl hdlt hdl3 hpl hP hpk hok hl0 hlt hn hTn hpn e2 e3 ha hfit hlen
   go_enter Tryz.func60, Tryz.ntmps60
   go_wp2_with fail
   refine Hask.out.mono ?_
   rintro r w2 ⟨rfl, hb2⟩
   have Hb2 := hQ (Hb1.out.trans (hb2.mono Hb1.out.size))
   have HA2 := hQ (HA.out.new hb2); clear hb2 HA Hask
   have kb := (cRw HA2.out.box 0).trans rfl
   go_wp2_with fail
   refine (Hlv.out _).mono ?_
   rintro r w3 ⟨rfl, hb3⟩
   have Hb3 := hQ (Hb2.out.trans (hb3.mono Hb2.out.size))
   have HA3 := hQ (HA2.out.new hb3); clear hb3 HA2 Hb2 kb
   go_wp2_with fail
   refine (Hdir.out _).mono ?_
   rintro r w4 ⟨v4, rfl, hown4, hg4, hb4⟩
   obtain ⟨da, dc, rfl, _⟩ := ownI_len hown4
   have hat4 := fun i hi => ownI_at hown4 i hi
   rw [nIl] at hat4 ⊢
   have Hat := hQ hat4
   have Hb4 := hQ (Hb3.out.trans (hb4.mono Hb3.out.size))
   have HA4 := hQ (HA3.out.new hb4); clear hb4 HA3 Hb3 hown4 hg4 hat4
   go_wp2_with fail
   go_loopw [7, 9] (fun v i wr => RPtRel T leaf.toNat dl w4 v i wr) (fun _ i _ => dl.length - (intOf i).toNat)
   case atStart => exact ⟨0, Nat.zero_le _, rfl, ResIn.start (ownI_nil w4)⟩
   case round =>
    obtain ⟨k, hk, rfl, hin⟩ := hrel
    obtain ⟨oa, oc, rfl⟩ := hin.len
    have hbr := hin.tur.below (Nat.le_refl _) (fun k e => by simp [Value.ownBlock] at e)
    have Hin := hQ hin
    have Hbr := hQ hbr
    have HAr := hQ (HA4.out.low hbr HA4.out.lt HA4.out.size)
    by_cases hkl : k < dl.length
    · obtain ⟨b1, o1, rfl, c1⟩ := Hat.out k hkl
      have d1 := (hbr.cell (p := ⟨b1, o1 + k, none⟩) (World.block_lt_of_cell? w4 _ c1)).trans c1
      rw [natI_get] at d1
      have hmem : dl.getD k 0 ∈ dl := by rw [List.getD_eq_getElem?_getD, List.getElem?_eq_getElem hkl]; exact List.getElem_mem _
      have hot := Hot.out _ hmem
      have hz := HoT.out _ hmem
      have hy := Hdlt.out _ hmem
      have hstep := pthOf_step (T := T) (leaf := leaf.toNat) hkl
      have hr1 := Hres.out _ hz
      have hl16 := Hrl.out _ hz
      have hll : (pthOf T leaf.toNat (dl.take k)).length ≤ 3 := by
       unfold pthOf
       refine Nat.le_trans (List.length_filter_le _ _) ?_
       rw [List.length_take]
       omega
      generalize dl.getD k 0 = y at d1 hot hz hy hstep hr1 hl16
      generalize resD T 4 (oth leaf.toNat y) = l at hstep hr1 hl16
      generalize oth leaf.toNat y = z at hot hr1
      have hkI : (k : Int) < dl.length := by omega
      have hyI : (y : Int) ≤ 15 := by omega
      have hlI : (l.length : Int) ≤ 144 := by omega
      have Hr1 := hQ hr1
      have Hot1 := hQ hot
      have Hstep := hQ hstep
      have Hll := hQ hll
      have kb := (cRw HAr.out.box 0).trans rfl
      clear c1 hmem hot hz hy hstep hr1 hl16 hll hin hbr
      generalize pthOf T leaf.toNat (dl.take k) = lst at Hin Hstep Hll ⊢
      go_wp2_with fail
      go_region_with (first
       | (go_at_call 209; refine (Hot1.out _).mono ?_; rintro e wx ⟨rfl, hwx⟩; subst wx)
       | (go_at_call 208; refine (Hr1.out wr.drew (HAr.out.new ⟨rfl, rfl, rfl, Nat.le_refl _, fun _ _ => rfl⟩)).mono ?_; rintro e w8 ⟨v8, rfl, hol, hgl, hbl⟩; obtain ⟨la, lc, rfl, _⟩ := ownI_len hol; rw [nIl] at hol hgl ⊢; have hbl' : Below wr.heap.size wr w8 := ⟨hbl.os, hbl.tape, hbl.output, hbl.size, hbl.block⟩; have Hbl := hQ hbl'; have d8 := (hbl'.cell (p := ⟨b1, o1 + k, none⟩) (World.block_lt_of_cell? wr _ d1)).trans d1; clear hol hgl hbl hbl'))
      all_goals
       by_cases hle : l = []
       · subst hle
         have hst := Hstep.out
         rw [if_pos rfl, List.append_nil] at hst
         have Hst := hQ hst
         clear hst Hstep d1 kb
         go_wp2
         exact ⟨⟨k + 1, by omega, by go_num, by rw [Hst.out]; exact Hin.out.new Hbl.out⟩, by simp [intOf]; omega⟩
       · have hst := Hstep.out
         rw [if_neg hle] at hst
         have Hst := hQ hst
         have hl0 : 0 < l.length := List.length_pos_iff.2 hle
         have hl0I : (0 : Int) < l.length := by omega
         have Hin8 := hQ (Hin.out.new Hbl.out)
         clear hst Hstep d1 kb hle
         go_wp2_with (at_builtin; refine wpList_append_lies _ rfl (.tmp 37) (.tmp 42) 27 rfl 0 3 i0 (.int .i64 0) 1 8 Tryz.underlying27 hi0 hz0 hz1 hz2 rfl (by decide) (.slice oa lst.length oc) lst.length ((natI lst).map intV) rfl (World.ownsRow.alloc Hin8.out.own _) ⟨w8.heap.size, 0, none⟩ 1 1 [intV (y : Int)] rfl rfl (cell_one_new _ _ _) (by intro u hu; simp [intV] at hu; rw [hu]; rfl) (by omega) (by have := Hll.out; unfold maxLen; omega) (by have := Hll.out; omega) (Nat.zero_le _) (w8.heap.size + 1) (by simp) ?_; intro g2 c2 w6 hown2 hgrow2 hat2 hlt2; have HN2 := hQ (Hin8.out.more (y := y) hown2 hgrow2 hat2); clear hown2 hgrow2 hat2 hlt2)
         exact ⟨⟨k + 1, by omega, by go_num, by rw [Hst.out]; exact HN2.out⟩, by simp [intOf]; omega⟩
    · obtain rfl : k = dl.length := by omega
      have hkI : ¬ (dl.length : Int) < dl.length := by omega
      rw [List.take_length] at Hin ⊢
      have hpl := HP.out
      generalize pthOf T leaf.toNat dl = lst at Hin hpl ⊢
      have HPl := hQ hpl
      clear hpl HP hin hbr
      go_wp2
      rw [HPl.out]
      exact ⟨oa, oc, rfl, Hin.out.ownI, fun g hg => (Hin.out.blk g hg).elim (fun h => by simp [Value.ownBlock] at h) (fun h => Nat.le_trans Hb4.out.size h), Hb4.out.trans (Hbr.out.mono Hb4.out.size)⟩
 · have hak : askD T leaf = 1 ∨ askD T leaf = 7 := by
     unfold askD at ha ⊢
     split
     · rename_i h
       rw [if_pos h] at ha
       split
       · exact .inr rfl
       · rename_i h2
         rw [if_neg h2] at ha
         exact absurd rfl ha
     · exact .inl rfl
   have hpl : PathAns T leaf w = NewL2 [] (askD T leaf) w := by unfold PathAns; rw [if_neg ha]
   rw [hpl]
   generalize askD T leaf = ak at Hask hak ⊢
   have ha0 : (ak == 0) = false := beq_eq_false_iff_ne.2 (by omega)
   have ha00 : (ak != 0) = true := by simp [bne, ha0]
   clear hpl ha
   go_enter Tryz.func60, Tryz.ntmps60
   go_wp2_with fail
   refine Hask.out.mono ?_
   rintro r w2 ⟨rfl, hb2⟩
   have Hb2 := hQ (Hb1.out.trans (hb2.mono Hb1.out.size)); clear hb2
   go_wp2
   go_ret2
   exact ⟨none, 0, rfl, ownI_nil _, fun g hg => by simp [Value.ownBlock] at hg, Hb2.out⟩
end
section
open Go Go.RowKit
theorem TgIn.base {N N' : Nat} {w : World} {v : Value} {Ts : List TgV} (h : TgIn N w v Ts) (hN : N' ≤ N) : TgIn N' w v Ts :=
 ⟨h.own, fun g hg => Nat.le_trans hN (h.far g hg), fun t ht => ⟨(h.each t ht).1, fun g hg => ⟨Nat.le_trans hN ((h.each t ht).2 g hg).1, ((h.each t ht).2 g hg).2⟩⟩⟩
theorem TgIn.nil (N : Nat) (w : World) : TgIn N w (.slice none 0 0) [] := ⟨⟨rfl, .inl ⟨rfl, rfl⟩⟩, fun g h => by simp [Value.ownBlock] at h, fun t h => by simp at h⟩
theorem TgIn.new {N : Nat} {w w' : World} {v : Value} {Ts : List TgV} (h : TgIn N w v Ts) (hb : Below w.heap.size w w') : TgIn N w' v Ts :=
 ⟨ownsRow_below h.own hb, h.far, fun t ht => ⟨ownI_below (h.each t ht).1 hb, (h.each t ht).2⟩⟩
theorem TgIn.lt {N : Nat} {w : World} {v : Value} {Ts : List TgV} (h : TgIn N w v Ts) {k : Nat} (hk : v.ownBlock = some k) : k < w.heap.size := (h.own.lt k hk).2
theorem TgIn.more {N0 : Nat} {w w3 w5 : World} {v val : Value} {Ts : List TgV} {o : Obj} {g c : Nat} {l : List Nat} (h : TgIn N0 w v Ts) (hN : N0 ≤ w.heap.size) (hb3 : Below w.heap.size w w3)
    (hval : OwnI val (natI l) w3) (hvg : ∀ k, val.ownBlock = some k → w.heap.size ≤ k)
    (hown : w5.ownsRow 0 27 1 (.slice (some ⟨g, 0, none⟩) (Ts.length + 1) c) (Ts.length + 1) (Ts.map (·.val) ++ [val]))
    (hgrow : (w3.alloc o).grownBy w5 v.ownBlock) (hat : v.ownBlock = some g ∨ g = w3.heap.size + 1) :
    TgIn N0 w5 (.slice (some ⟨g, 0, none⟩) (Ts.length + 1) c) (Ts ++ [⟨l, val⟩]) ∧ Below N0 w w5 := by
 have hw3 := h.new hb3
 have hT : Turned (fun k => v.ownBlock = some k) w3 w5 := ((Turned.refl (fun k => v.ownBlock = some k) w3).alloc o).grown hgrow (fun k _ e => e)
 have hval5 : OwnI val (natI l) w5 := oIk hval hT (fun k hk e => by have := hvg k hk; have := h.lt e; omega)
 have hvl : ∀ k, val.ownBlock = some k → k < w3.heap.size := fun k hk => ownI_lt hval hk
 refine ⟨⟨by rw [List.map_append, List.length_append]; exact hown, fun k hk => ?_, fun r hr => ?_⟩, ?_⟩
 · obtain rfl : g = k := by simpa [Value.ownBlock] using hk
   rcases hat with e | e
   · exact h.far _ e
   · have := hb3.size; omega
 · rcases List.mem_append.1 hr with hr | hr
   · have h1 := hw3.each r hr
     refine ⟨oIk h1.1 hT (fun k hk e => (h1.2 k hk).2 e), fun k hk => ⟨(h1.2 k hk).1, fun e => ?_⟩⟩
     obtain rfl : g = k := by simpa [Value.ownBlock] using e
     rcases hat with e2 | e2
     · exact (h1.2 _ hk).2 e2
     · have := ownI_lt h1.1 hk; omega
   · obtain rfl : r = ⟨l, val⟩ := by simpa using hr
     refine ⟨hval5, fun k hk => ⟨Nat.le_trans hN (hvg k hk), fun e => ?_⟩⟩
     obtain rfl : g = k := by simpa [Value.ownBlock] using e
     rcases hat with e2 | e2
     · have := hvg _ hk; have := h.lt e2; omega
     · have := hvl _ hk; omega
 · exact (hb3.mono hN).trans (hT.below (Nat.le_trans hN hb3.size) (fun k e => h.far k e))
theorem rows_pth (T : List NodeD) (leaf : Nat) : rowsD T leaf = (pthD T leaf).map fun x => (x, resD T 4 (oth leaf x)) := by
 rw [pth_filter]
 unfold rowsD rowsOf
 rw [List.filter_map]
 rfl
theorem tgt_pth (T : List NodeD) (leaf : Nat) (fresh : List Int) : tgtD T leaf fresh = (pthD T leaf).map fun x => keepL fresh (resD T 4 (oth leaf x)) := by
 unfold tgtD
 rw [rows_pth, List.map_map]
 rfl
def RTgRel (T : List NodeD) (leaf : Nat) (fresh : List Int) (pl : List Nat) (W : World) (v i : Value) (wr : World) : Prop :=
 ∃ (k : Nat) (Ts : List TgV), k ≤ pl.length ∧ i = .int .i64 k ∧ TgIn W.heap.size wr v Ts ∧ Ts.map (·.other) = (pl.take k).map (fun x => keepL fresh (resD T 4 (oth leaf x))) ∧ Below W.heap.size W wr
def RowRel (fresh : List Int) (l : List Nat) (W : World) (v i : Value) (wr : World) : Prop :=
 ∃ k : Nat, k ≤ l.length ∧ i = .int .i64 k ∧ ResIn W (.slice none 0 0) v (keepL fresh (l.take k)) wr
theorem keepL_step {fresh : List Int} {l : List Nat} {k : Nat} (hk : k < l.length) : keepL fresh (l.take (k + 1)) = keepL fresh (l.take k) ++ (if delD fresh (l.getD k 0) = true then [] else [l.getD k 0]) := by
 unfold keepL
 rw [keep_step hk]
 by_cases h : delD fresh (l.getD k 0) = true
 · rw [if_pos h, if_neg (by rw [h]; decide)]
 · rw [if_neg h, if_pos (by simpa using h)]
end
end Go.Proofs.YtedpljclnpiggaaGreatDoor
