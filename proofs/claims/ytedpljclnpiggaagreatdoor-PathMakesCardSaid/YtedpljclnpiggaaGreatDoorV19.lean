/- slices.Contains, slices.Index at numbers, and the document's has. -/
import Derived.Test.YtedpljclnpiggaaGreatDoorV16
import Derived.Test.YtedpljclnpiggaaGreatDoorV18
import Derived.BigQuiet
set_option linter.unusedVariables false
set_option linter.unusedSimpArgs false
set_option maxRecDepth 100000
set_option maxHeartbeats 12800000
namespace Go.Proofs.YtedpljclnpiggaaGreatDoor
section
open Go Go.RowKit
structure RwA (B q : Nat) (a : Option Addr) (c : Nat) (T : List NodeD) (w : World) : Prop where
 tz : TzF w
 tr : TreeAt B w a T
 box : w.heap[q]? = some (.cells #[.slice a T.length c] 44 (0, 0))
 size : B ≤ w.heap.size
 three : 3 ≤ B
theorem RwA.low {B q N : Nat} {a : Option Addr} {c : Nat} {T : List NodeD} {w w' : World} (h : RwA B q a c T w) (hb : Below N w w') (hq : q < N) (hB : B ≤ N) : RwA B q a c T w' :=
 ⟨h.tz.below (hb.mono hB) h.three, h.tr.below (hb.mono hB), (hb.block q hq).trans h.box, Nat.le_trans h.size hb.size, h.three⟩
theorem RwA.lt {B q : Nat} {a : Option Addr} {c : Nat} {T : List NodeD} {w : World} (h : RwA B q a c T w) : q < w.heap.size := (Array.getElem?_eq_some_iff.1 h.box).1
theorem RwA.new {B q : Nat} {a : Option Addr} {c : Nat} {T : List NodeD} {w w' : World} (h : RwA B q a c T w) (hb : Below w.heap.size w w') : RwA B q a c T w' := h.low hb h.lt h.size
def NewL (l : List Nat) (w : World) (e : Ending) (w' : World) : Prop :=
 ∃ a c, e = .returned (.slice a l.length c) ∧ OwnI (.slice a l.length c) (natI l) w' ∧ (∀ g, (Value.slice a l.length c).ownBlock = some g → w.heap.size ≤ g) ∧ Below w.heap.size w w'
theorem amres_new (B : Nat) (h3 : 3 ≤ B) (T : List NodeD) (hok : OkT' T) (hlen : T.length ≤ 262144) (a : Option Addr) (c : Nat) (x : Nat) (hx : x < T.length) (w : World) (htz : TzF w) (hB : B ≤ w.heap.size) (hT : TreeAt B w a T) :
    Calls Tryz.prog 294 #[.slice none 0 0, .agg #[.slice a T.length c], .int .i64 x] w (NewL (resD T 4 x) w) := by
 refine (amres_any B h3 T hok hlen a c 4 x (lev_lt x) hx [] (.slice none 0 0) w htz hB hT (ownI_nil w) (fun g hg => by simp [Value.ownBlock] at hg) (by simp)).mono ?_
 rintro e w' ⟨v, rfl, h⟩
 obtain ⟨la, lc, rfl⟩ := h.len
 refine ⟨la, lc, rfl, h.ownI, fun g hg => (h.blk g hg).elim (fun h => by simp [Value.ownBlock] at h) id, h.tur.below (Nat.le_refl _) (fun k e => by simp [Value.ownBlock] at e)⟩
def RowsAns (T : List NodeD) (leaf : Int) (w : World) (e : Ending) (w' : World) : Prop :=
 ∃ v Rs, e = .returned (.tuple #[v, .int .i64 (askD T leaf)]) ∧ RowsIn w.heap.size w' v Rs ∧ Rs.map RowV.data = (if askD T leaf = 0 then rowsD T leaf.toNat else []) ∧ Below w.heap.size w w'
theorem mInfoRow : (Tryz.prog.info? 183).map (fun i => (i.zero, i.size, i.bytes)) = some (some (.agg #[.int .i64 0, .slice none 0 0]), 2, 32) := by kernel_rfl
theorem mtwo_new (w : World) (x y : Value) (t : TypeId) : ∀ j u, [x, y][j]? = some u → (w.alloc (.cells #[x, y] t)).cell? ((⟨w.heap.size, 0, none⟩ : Addr).add j) = some u := by
 intro j u hj
 have ha : (⟨w.heap.size, 0, none⟩ : Addr).add j = ⟨w.heap.size, j, none⟩ := by unfold Addr.add; split <;> simp_all
 rw [ha, cRw (rAl _ _ _)]
 simpa using hj
theorem ask_bad {T : List NodeD} {leaf : Int} (h : ¬ OkT' T) : askD T leaf = 1 := by unfold askD; rw [errD_bad h]; rfl
theorem ask_gone {T : List NodeD} {leaf : Int} (h : OkT' T) (h2 : leaf < 0 ∨ (lvD T.length : Int) ≤ leaf ∨ (nodeD T (2 * leaf).toNat).pub = 0) : askD T leaf = 7 := by unfold askD; rw [errD_ok h, if_pos rfl, if_pos h2]
theorem ask_ok {T : List NodeD} {leaf : Int} (h : OkT' T) (h2 : ¬ (leaf < 0 ∨ (lvD T.length : Int) ≤ leaf ∨ (nodeD T (2 * leaf).toNat).pub = 0)) : askD T leaf = 0 := by unfold askD; rw [errD_ok h, if_pos rfl, if_neg h2]
theorem rows_none {T : List NodeD} {leaf : Int} {w w' : World} {k : Int} (h : askD T leaf = k) (hk : k ≠ 0) (hb : Below w.heap.size w w') : RowsAns T leaf w (.returned (.tuple #[.slice none 0 0, .int .i64 k])) w' :=
 ⟨_, [], by rw [h], RowsIn.nil _ _, by rw [h, if_neg hk]; rfl, hb⟩
theorem RowsIn.base {N N' : Nat} {w : World} {v : Value} {Rs : List RowV} (h : RowsIn N w v Rs) (hN : N' ≤ N) : RowsIn N' w v Rs :=
 ⟨h.own, fun g hg => Nat.le_trans hN (h.far g hg), fun r hr => ⟨(h.each r hr).1, fun g hg => ⟨Nat.le_trans hN ((h.each r hr).2 g hg).1, ((h.each r hr).2 g hg).2⟩⟩, h.dis⟩
def RwRel (T : List NodeD) (leaf : Nat) (dl : List Nat) (W : World) (v i : Value) (wr : World) : Prop :=
 ∃ (k : Nat) (Rs : List RowV), k ≤ dl.length ∧ i = .int .i64 k ∧ RowsIn W.heap.size wr v Rs ∧ Rs.map RowV.data = rowsOf T leaf (dl.take k) ∧ Below W.heap.size W wr
theorem amrows_any (B : Nat) (h3 : 3 ≤ B) (T : List NodeD) (hfit : FitT T) (hlen : T.length ≤ 262144) (a : Option Addr) (c : Nat) (leaf : Int) (w : World) (htz : TzF w) (hB : B ≤ w.heap.size) (hT : TreeAt B w a T) :
    Calls Tryz.prog 200 #[.agg #[.slice a T.length c], .int .i64 leaf] w (RowsAns T leaf w) := by
 obtain ⟨i0, hi0, hz0, hz1, hz2⟩ := info_parts mInfoRow
 have hb1 := (Below.refl w.heap.size w).alloc (Nat.le_refl _) (.cells #[.slice a T.length c] 44)
 have hrow := rAl (w := w) #[.slice a T.length c] 44 (0, 0)
 have hA : RwA B w.heap.size a c T (w.alloc (.cells #[.slice a T.length c] 44)) := ⟨htz.below hb1 (Nat.le_trans h3 hB), hT.below (hb1.mono hB), hrow, Nat.le_trans hB hb1.size, h3⟩
 have HA := hQ hA
 have Hb1 := hQ hb1
 have hck := fun W (hW : RwA B w.heap.size a c T W) => acheck_any B T hfit hlen a c W hW.tz h3 hW.size hW.tr
 have Hck := hQ hck
 have hlv := aleaves_any a T.length c hlen
 have Hlv := hQ hlv
 clear hb1 hrow hA hck htz hT hlv
 by_cases hok : OkT' T
 · rw [errD_ok hok] at Hck
   by_cases hl0 : leaf < 0
   · have Hak := hQ (ask_gone hok (.inl hl0)); clear hok
     go_enter Tryz.func200, Tryz.ntmps200
     go_wp2_with fail
     refine (Hck.out _ HA.out).mono ?_
     rintro r w2 ⟨rfl, hb2⟩
     have Hb2 := hQ (Hb1.out.trans (hb2.mono Hb1.out.size)); clear hb2
     go_wp2
     go_ret2
     exact rows_none Hak.out (by decide) Hb2.out
   · obtain ⟨lf, hlf⟩ : ∃ lf : Nat, leaf = lf := ⟨leaf.toNat, by omega⟩
     by_cases hl1 : lf < lvD T.length
     · obtain ⟨hn, hTn⟩ := leaves_isN (ok_leaves hok (by intro h; rw [h] at hl1; exact absurd hl1 (by unfold lvD; simp)))
       have hx2 : 2 * lf < T.length := by omega
       have hof := oth_facts hn hl1
       have h15 : T.length ≤ 15 := by rcases hn with h | h | h | h <;> omega
       have hn8 : lvD T.length ≤ 8 := by rcases hn with h | h | h | h <;> omega
       have hres := fun y hy W (hW : RwA B w.heap.size a c T W) => amres_new B h3 T hok hlen a c y hy W hW.tz hW.size hW.tr
       have hcop := fun W (hW : RwA B w.heap.size a c T W) => amcopath_any (2 * lf) (lvD T.length) hn (by omega) W hW.tz (Nat.le_trans hW.three hW.size)
       have hdir := fun W (hW : RwA B w.heap.size a c T W) => adirect_any (2 * lf) (lvD T.length) hn (by omega) W hW.tz (Nat.le_trans hW.three hW.size)
       have e2 : ((2 * lf : Nat) : Int) = 2 * leaf := by omega
       rw [hof.1, e2] at hcop
       rw [e2] at hdir
       have hrl := fun y hy => res_len hok 4 y hy
       obtain ⟨b, o, rfl, hnd⟩ := HA.out.tr (2 * lf) hx2
       have hk0 : ∀ W, RwA B w.heap.size (some ⟨b, o, none⟩) c T W → W.cell? ⟨b, o + (2 * leaf).toNat * 4, none⟩ = some (.int .i64 (nodeD T (2 * lf)).pub) := fun W hW => by
        obtain ⟨b', o', e, hn'⟩ := hW.tr (2 * lf) hx2
        obtain ⟨rfl, rfl⟩ : b = b' ∧ o = o' := by simpa using e
        rw [show (2 * leaf).toNat = 2 * lf by omega]
        exact hn'.c0
       have hbB : b < B := hnd.lt
       have hlfI : leaf < lvD T.length := by omega
       have hlfT : 2 * leaf < T.length := by omega
       have hlf8 : leaf ≤ 8 := by omega
       have h2lf : 0 ≤ 2 * leaf := by omega
       have Hk0 := hQ hk0
       have Hres := hQ hres
       have Hcop := hQ hcop
       have Hdir := hQ hdir
       have Hrl := hQ hrl
       have hothT : ∀ x ∈ drD (2 * lf) (lvD T.length), x < T.length ∧ oth lf x < T.length := fun x hx => by have := hof.2.2 x hx; omega
       have hdl3 := hof.2.1
       have hrd : askD T leaf = 0 → (if askD T leaf = 0 then rowsD T leaf.toNat else []) = rowsOf T lf (drD (2 * lf) (lvD T.length)) := fun h => by rw [if_pos h, hlf]; rfl
       generalize drD (2 * lf) (lvD T.length) = dl at Hcop Hdir hothT hdl3 hrd
       have Hoth := hQ hothT
       have Hrd := hQ hrd
       have hdI : (dl.length : Int) ≤ 3 := by omega
       have hT15 : (T.length : Int) ≤ 15 := by omega
       have HX2 := hQ hx2
       have Hak0 := hQ (fun (h : (nodeD T (2 * lf)).pub = 0) => ask_gone (leaf := leaf) hok (.inr (.inr (by rw [show (2 * leaf).toNat = 2 * lf by omega]; exact h))))
       have Hak1 := hQ (fun (h : ¬ (nodeD T (2 * lf)).pub = 0) => ask_ok (leaf := leaf) hok (fun h1 => h1.elim hl0 (fun h1 => h1.elim (fun h1 => by omega) (fun h1 => h (by rw [show (2 * leaf).toNat = 2 * lf by omega] at h1; exact h1)))))
       have hnlI : ¬ (lvD T.length : Int) ≤ leaf := by omega
       have Hlf := hQ hlf
       clear hk0 hres hcop hdir hrl hothT hrd hnd hof hn hTn hok hx2 hl1 h15 hdl3 e2 hlf
       have Hn8 := hQ hn8
       have hnI8 : (lvD T.length : Int) ≤ 8 := by omega
       generalize lvD T.length = n at Hlv Hcop Hdir hlfI hnI8 Hn8 hnlI
       clear hn8
       by_cases hp : (nodeD T (2 * lf)).pub = 0
       · have Hak := hQ (Hak0.out hp)
         rw [hp] at Hk0
         clear Hak0 Hak1 hp
         go_enter Tryz.func200, Tryz.ntmps200
         go_wp2_with fail
         refine (Hck.out _ HA.out).mono ?_
         rintro r w2 ⟨rfl, hb2⟩
         have Hb2 := hQ (Hb1.out.trans (hb2.mono Hb1.out.size))
         have HA2 := hQ (HA.out.new hb2); clear hb2
         have kb := (cRw HA2.out.box 0).trans rfl
         go_wp2_with fail
         refine (Hlv.out _).mono ?_
         rintro r w3 ⟨rfl, hb3⟩
         have Hb3 := hQ (Hb2.out.trans (hb3.mono Hb2.out.size))
         have HA3 := hQ (HA2.out.new hb3); clear hb3
         have kb := (cRw HA3.out.box 0).trans rfl
         have k0 := Hk0.out _ HA3.out
         go_wp2
         go_ret2
         exact rows_none Hak.out (by decide) Hb3.out
       · have Hak := hQ (Hak1.out hp)
         have hp0 : ((nodeD T (2 * lf)).pub == 0) = false := beq_eq_false_iff_ne.2 hp
         clear Hak0 Hak1
         generalize (nodeD T (2 * lf)).pub = p at Hk0 hp hp0
         go_enter Tryz.func200, Tryz.ntmps200
         go_wp2_with fail
         refine (Hck.out _ HA.out).mono ?_
         rintro r w2 ⟨rfl, hb2⟩
         have Hb2 := hQ (Hb1.out.trans (hb2.mono Hb1.out.size))
         have HA2 := hQ (HA.out.new hb2); clear hb2
         have kb := (cRw HA2.out.box 0).trans rfl
         go_wp2_with fail
         refine (Hlv.out _).mono ?_
         rintro r w3 ⟨rfl, hb3⟩
         have Hb3 := hQ (Hb2.out.trans (hb3.mono Hb2.out.size))
         have HA3 := hQ (HA2.out.new hb3); clear hb3
         have kb := (cRw HA3.out.box 0).trans rfl
         have k0 := Hk0.out _ HA3.out
         go_wp2_with fail
         refine (Hlv.out _).mono ?_
         rintro r w4 ⟨rfl, hb4⟩
         have Hb4 := hQ (Hb3.out.trans (hb4.mono Hb3.out.size))
         have HA4 := hQ (HA3.out.new hb4); clear hb4 k0 kb Hb1 Hb2 Hb3 HA HA2 HA3
         go_wp2_with fail
         refine (Hcop.out _ HA4.out).mono ?_
         rintro r w5 ⟨v5, rfl, hown5, hg5, hb5⟩
         obtain ⟨va, vc, rfl, _⟩ := ownI_len hown5
         have hat5 := fun i hi => ownI_at hown5 i hi
         rw [nIl, List.length_map] at hat5
         rw [nIl, List.length_map]
         have Hat5 := hQ hat5
         have Hb5 := hQ (Hb4.out.trans (hb5.mono Hb4.out.size))
         have HA5 := hQ (HA4.out.new hb5); clear hb5 hg5 hat5 hown5
         have kb := (cRw HA5.out.box 0).trans rfl
         go_wp2_with fail
         refine (Hlv.out _).mono ?_
         rintro r w6 ⟨rfl, hb6⟩
         have Hb6 := hQ (Hb5.out.trans (hb6.mono Hb5.out.size))
         have HA6 := hQ (HA5.out.new hb6)
         have Hat6 := hQ (fun i hi => by
          obtain ⟨b1, o1, e, h⟩ := Hat5.out i hi
          exact (⟨b1, o1, e, (hb6.cell (p := ⟨b1, o1 + i, none⟩) (World.block_lt_of_cell? w5 _ h)).trans h⟩ : ∃ b1 o1, va = some ⟨b1, o1, none⟩ ∧ w6.cell? ⟨b1, o1 + i, none⟩ = some (.int .i64 ((natI (dl.map (oth lf))).getD i 0))))
         clear hb6 kb Hat5 Hb4 Hb5 HA4 HA5
         go_wp2_with fail
         refine (Hdir.out _ HA6.out).mono ?_
         rintro r w7 ⟨ra, rc, rfl, hb7, hdc⟩
         have Hb7 := hQ (Hb6.out.trans (hb7.mono Hb6.out.size))
         have HA7 := hQ (HA6.out.new hb7)
         have Hat7 := hQ (fun i hi => by
          obtain ⟨b1, o1, e, h⟩ := Hat6.out i hi
          exact (⟨b1, o1, e, (hb7.cell (p := ⟨b1, o1 + i, none⟩) (World.block_lt_of_cell? w6 _ h)).trans h⟩ : ∃ b1 o1, va = some ⟨b1, o1, none⟩ ∧ w7.cell? ⟨b1, o1 + i, none⟩ = some (.int .i64 ((natI (dl.map (oth lf))).getD i 0))))
         have Hdc := hQ hdc
         clear hb7 Hat6 Hb6 HA6 hdc
         go_wp2_with fail
         go_loopw [6, 43] (fun v i wr => RwRel T lf dl w7 v i wr) (fun _ i _ => dl.length - (intOf i).toNat)
         case atStart => exact ⟨0, [], Nat.zero_le _, rfl, RowsIn.nil _ _, rfl, Below.refl _ _⟩
         case round =>
          obtain ⟨k, Rs, hk, rfl, hin, hmap, hbr⟩ := hrel
          obtain ⟨oa, oc, rfl⟩ := hin.len
          have HAr := hQ (HA7.out.low hbr HA7.out.lt HA7.out.size)
          have hRl : Rs.length ≤ 3 := by
           have e := congrArg List.length hmap
           rw [List.length_map] at e
           have e3 : (rowsOf T lf (dl.take k)).length ≤ (dl.take k).length := by
            unfold rowsOf
            have := List.length_filter_le (fun r : Nat × List Nat => decide (r.2 ≠ [])) ((dl.take k).map fun x => (x, resD T 4 (oth lf x)))
            rw [List.length_map] at this
            exact this
           rw [List.length_take] at e3
           omega
          have HIn := hQ hin
          have HMap := hQ hmap
          have Hbr := hQ hbr
          have HRl := hQ hRl
          clear hin hmap hRl
          by_cases hkl : k < dl.length
          · obtain ⟨b1, o1, rfl, c1⟩ := Hat7.out k hkl
            obtain ⟨g1, cs1, rfl, hg1, hr1, hc1⟩ := Hdc.out (by intro h; rw [h] at hkl; simp at hkl)
            have d1 := (hbr.cell (p := ⟨g1, 1 + k, none⟩) (Array.getElem?_eq_some_iff.1 hr1).1).trans (hc1 k hkl)
            have d2 := (hbr.cell (p := ⟨b1, o1 + k, none⟩) (World.block_lt_of_cell? w7 _ c1)).trans c1
            have e4 : (natI (dl.map (oth lf))).getD k 0 = ((oth lf (dl.getD k 0) : Nat) : Int) := by
             rw [natI_get, List.getD_eq_getElem?_getD, List.getD_eq_getElem?_getD, List.getElem?_map, List.getElem?_eq_getElem hkl]
             rfl
            rw [e4] at d2
            have hmem : dl.getD k 0 ∈ dl := by rw [List.getD_eq_getElem?_getD, List.getElem?_eq_getElem hkl]; exact List.getElem_mem _
            obtain ⟨hy1, hy2⟩ := Hoth.out _ hmem
            have hstep := rowsOf_step (T := T) (leaf := lf) hkl
            have hr1' := Hres.out _ hy2
            have hl16 := Hrl.out _ hy2
            generalize dl.getD k 0 = y at d1 d2 hy1 hy2 hstep hr1' hl16
            generalize resD T 4 (oth lf y) = l at hstep hr1' hl16
            generalize oth lf y = z at d2 hr1' hy2
            have hkI : (k : Int) < dl.length := by omega
            have hyI : (y : Int) ≤ 15 := by omega
            have hlI : (l.length : Int) ≤ 144 := by omega
            have Hr1 := hQ hr1'
            have Hstep := hQ hstep
            have kb := (cRw HAr.out.box 0).trans rfl
            clear hbr hr1 hc1 c1 e4 hmem hstep hr1' hl16 hg1 hy1 hy2
            go_wp2_with fail
            go_region_with (go_at_call 294; refine (Hr1.out wr.drew (HAr.out.new ⟨rfl, rfl, rfl, Nat.le_refl _, fun _ _ => rfl⟩)).mono ?_; rintro e w8 ⟨la, lc, rfl, hol, hgl, hbl⟩; have hbl' : Below wr.heap.size wr w8 := ⟨hbl.os, hbl.tape, hbl.output, hbl.size, hbl.block⟩; have hgl' : ∀ g, (Value.slice la l.length lc).ownBlock = some g → wr.heap.size ≤ g := hgl; have Hol := hQ hol; have Hgl := hQ hgl'; have Hbl := hQ hbl'; clear hol hgl hbl hbl' hgl')
            all_goals
             by_cases hle : l = []
             · subst hle
               have hst := Hstep.out
               rw [if_pos rfl, List.append_nil] at hst
               have Hst := hQ hst
               clear hst Hstep d1 d2 kb
               go_wp2
               exact ⟨⟨k + 1, Rs, by omega, by go_num, HIn.out.new Hbl.out, by rw [Hst.out]; exact HMap.out, Hbr.out.trans (Hbl.out.mono Hbr.out.size)⟩, by simp [intOf]; omega⟩
             · have hst := Hstep.out
               rw [if_neg hle] at hst
               have Hst := hQ hst
               have hl0 : 0 < l.length := List.length_pos_iff.2 hle
               have hl0I : (0 : Int) < l.length := by omega
               have Hown := hQ (ownsRow_below HIn.out.own Hbl.out)
               clear hst Hstep d1 d2 kb hle
               go_wp2_with (at_builtin; refine wpList_append_lies _ rfl (.tmp 57) (.tmp 61) 179 rfl 0 183 i0 (.agg #[.int .i64 0, .slice none 0 0]) 2 32 Tryz.underlying179 hi0 hz0 hz1 hz2 rfl (by decide) (.slice oa Rs.length oc) Rs.length (Rs.flatMap RowV.cells) rfl (World.ownsRow.alloc Hown.out _) ⟨w8.heap.size, 0, none⟩ 1 1 [.int .i64 y, .slice la l.length lc] rfl rfl (mtwo_new _ _ _ _) (by intro u hu; simp at hu; rcases hu with rfl | rfl <;> rfl) (by omega) (by have := HRl.out; unfold maxLen; omega) (by have := HRl.out; omega) (Nat.zero_le _) (w8.heap.size + 1) (by simp) ?_; intro g2 c2 w9 hown2 hgrow2 hat2 hlt2; have HM := hQ (HIn.out.more (Hbr.out.size) Hbl.out Hol.out Hgl.out hown2 hgrow2 hat2); clear hown2 hgrow2 hat2 hlt2)
               exact ⟨⟨k + 1, Rs ++ [⟨y, l, .slice la l.length lc⟩], by omega, by go_num, HM.out.1, by rw [Hst.out, List.map_append, HMap.out]; rfl, Hbr.out.trans HM.out.2⟩, by simp [intOf]; omega⟩
          · obtain rfl : k = dl.length := by omega
            have hkI : ¬ (dl.length : Int) < dl.length := by omega
            have hm := HMap.out
            rw [List.take_length] at hm
            have HM := hQ hm
            clear hm
            go_wp2
            go_ret2
            exact ⟨_, Rs, by rw [Hak.out]; rfl, HIn.out.base (Hb7.out.size), by rw [Hrd.out Hak.out]; exact HM.out, Hb7.out.trans (Hbr.out.mono Hb7.out.size)⟩
     · have Hak := hQ (ask_gone (leaf := leaf) hok (.inr (.inl (by omega)))); clear hok
       have hlI : (lvD T.length : Int) ≤ leaf := by omega
       generalize lvD T.length = n at Hlv hlI
       clear hl1
       go_enter Tryz.func200, Tryz.ntmps200
       go_wp2_with fail
       refine (Hck.out _ HA.out).mono ?_
       rintro r w2 ⟨rfl, hb2⟩
       have Hb2 := hQ (Hb1.out.trans (hb2.mono Hb1.out.size))
       have HA2 := hQ (HA.out.new hb2); clear hb2
       have kb := (cRw HA2.out.box 0).trans rfl
       go_wp2_with fail
       refine (Hlv.out _).mono ?_
       rintro r w3 ⟨rfl, hb3⟩
       have Hb3 := hQ (Hb2.out.trans (hb3.mono Hb2.out.size)); clear hb3
       go_wp2
       go_ret2
       exact rows_none Hak.out (by decide) Hb3.out
 · have Hak := hQ (ask_bad (leaf := leaf) hok)
   rw [errD_bad hok] at Hck
   clear hok
   go_enter Tryz.func200, Tryz.ntmps200
   go_wp2_with fail
   refine (Hck.out _ HA.out).mono ?_
   rintro r w2 ⟨rfl, hb2⟩
   have Hb2 := hQ (Hb1.out.trans (hb2.mono Hb1.out.size)); clear hb2
   go_wp2
   go_ret2
   exact rows_none Hak.out (by decide) Hb2.out
end
section
open Go Go.RowKit
def pthD (T : List NodeD) (leaf : Nat) : List Nat := (rowsD T leaf).map (·.1)
theorem RowsIn.at {N0 : Nat} {w : World} {a : Option Addr} {n c : Nat} {Rs : List RowV} (h : RowsIn N0 w (.slice a n c) Rs) {i : Nat} (hi : i < Rs.length) :
    ∃ g, a = some ⟨g, 0, none⟩ ∧ g < w.heap.size ∧ N0 ≤ g ∧ w.cell? ⟨g, i * 2, none⟩ = some (.int .i64 (Rs[i]).node) ∧ w.cell? ⟨g, i * 2 + 1, none⟩ = some (Rs[i]).val := by
 have hown := h.own
 rcases hown.2 with ⟨_, h2⟩ | ⟨g, cap, cur, h1, hB, hg, h4, h5, hs, ht⟩
 · omega
 · obtain ⟨rfl, rfl, rfl⟩ : a = some ⟨g, 0, none⟩ ∧ n = Rs.length ∧ c = cap := by simpa using h1
   have hc := flat_at Rs i hi
   have key : ∀ j, j < Rs.length * 2 → w.cell? ⟨g, j, none⟩ = (Rs.flatMap RowV.cells)[j]? := fun j hj => by
    rw [cRw hg, ← ht, List.getElem?_take]
    simp [hj]
   exact ⟨g, rfl, (Array.getElem?_eq_some_iff.1 hg).1, h.far g rfl, (key _ (by omega)).trans hc.1, (key _ (by omega)).trans hc.2⟩
def NewL2 (l : List Nat) (k : Int) (w : World) (e : Ending) (w' : World) : Prop :=
 ∃ a c, e = .returned (.tuple #[.slice a l.length c, .int .i64 k]) ∧ OwnI (.slice a l.length c) (natI l) w' ∧ (∀ g, (Value.slice a l.length c).ownBlock = some g → w.heap.size ≤ g) ∧ Below w.heap.size w w'
def PathAns (T : List NodeD) (leaf : Int) (w : World) (e : Ending) (w' : World) : Prop := NewL2 (if askD T leaf = 0 then pthD T leaf.toNat else []) (askD T leaf) w e w'
def PthRel (Rs : List RowV) (W : World) (v i : Value) (wr : World) : Prop :=
 ∃ k : Nat, k ≤ Rs.length ∧ i = .int .i64 k ∧ ResIn W (.slice none 0 0) v ((Rs.take k).map (·.node)) wr
theorem rows_len {T : List NodeD} {leaf : Int} {Rs : List RowV} (h : Rs.map RowV.data = (if askD T leaf = 0 then rowsD T leaf.toNat else [])) : Rs.length ≤ 3 := by
 have e := congrArg List.length h
 rw [List.length_map] at e
 by_cases ha : askD T leaf = 0
 · rw [if_pos ha] at e
   have hlt : OkT' T ∧ ¬ (leaf < 0 ∨ (lvD T.length : Int) ≤ leaf) := by
    unfold askD at ha
    split at ha
    · rename_i h1
      refine ⟨errD_zero h1, fun h2 => ?_⟩
      rw [if_pos (h2.elim .inl (fun h => .inr (.inl h)))] at ha
      cases ha
    · cases ha
   obtain ⟨hn, _⟩ := leaves_isN (ok_leaves hlt.1 (by intro h; rw [h] at hlt; exact hlt.2 (by simp [lvD]; omega)))
   have hof := oth_facts hn (show leaf.toNat < lvD T.length by omega)
   have e3 : (rowsD T leaf.toNat).length ≤ 3 := by
    unfold rowsD rowsOf
    refine Nat.le_trans (List.length_filter_le _ _) ?_
    rw [List.length_map]
    exact hof.2.1
   omega
 · rw [if_neg ha] at e
   simp at e
   simp [e]
theorem ampath_any (B : Nat) (h3 : 3 ≤ B) (T : List NodeD) (hfit : FitT T) (hlen : T.length ≤ 262144) (a : Option Addr) (c : Nat) (leaf : Int) (w : World) (htz : TzF w) (hB : B ≤ w.heap.size) (hT : TreeAt B w a T) :
    Calls Tryz.prog 57 #[.agg #[.slice a T.length c], .int .i64 leaf] w (PathAns T leaf w) := by
 obtain ⟨i0, hi0, hz0, hz1, hz2⟩ := info_parts infoI
 have hb1 := (Below.refl w.heap.size w).alloc (Nat.le_refl _) (.cells #[.slice a T.length c] 44)
 have H := hQ (amrows_any B h3 T hfit hlen a c leaf _ (htz.below hb1 (Nat.le_trans h3 hB)) (Nat.le_trans hB hb1.size) (hT.below (hb1.mono hB)))
 have Hb1 := hQ hb1
 have hpd : (if askD T leaf = 0 then pthD T leaf.toNat else []) = (if askD T leaf = 0 then rowsD T leaf.toNat else []).map (·.1) := by
  unfold pthD
  split <;> rfl
 have Hpd := hQ hpd
 show Calls _ _ _ _ (NewL2 _ _ _)
 generalize (if askD T leaf = 0 then pthD T leaf.toNat else []) = pl at Hpd ⊢
 have hrl := fun (Rs : List RowV) (h : Rs.map RowV.data = (if askD T leaf = 0 then rowsD T leaf.toNat else [])) => rows_len h
 have Hrl := hQ hrl
 unfold RowsAns at H
 generalize (if askD T leaf = 0 then rowsD T leaf.toNat else []) = rl at H Hpd Hrl
 have hak : askD T leaf = 0 ∨ askD T leaf = 1 ∨ askD T leaf = 7 := by
  unfold askD
  split
  · split
    · exact .inr (.inr rfl)
    · exact .inl rfl
  · exact .inr (.inl rfl)
 generalize askD T leaf = ak at H hak
 clear hb1 hpd hrl hT htz
 go_enter Tryz.func57, Tryz.ntmps57
 go_wp2_with fail
 refine H.out.mono ?_
 rintro r w2 ⟨v, Rs, rfl, hin, hmap, hb2⟩
 obtain ⟨va, vc, rfl⟩ := hin.len
 have hRl := Hrl.out Rs hmap
 have hRI : (Rs.length : Int) ≤ 3 := by omega
 have Hb2 := hQ (Hb1.out.trans (hb2.mono Hb1.out.size))
 have HIn := hQ hin
 have HMap := hQ hmap
 clear hb2 hin hmap H
 go_wp2_with fail
 go_loopw [8, 19] (fun v i wr => PthRel Rs w2 v i wr) (fun _ i _ => Rs.length - (intOf i).toNat)
 case atStart => exact ⟨0, Nat.zero_le _, rfl, ResIn.start (ownI_nil w2)⟩
 case round =>
  obtain ⟨k, hk, rfl, hin⟩ := hrel
  obtain ⟨oa, oc, rfl⟩ := hin.len
  have hbr := hin.tur.below (Nat.le_refl _) (fun k e => by simp [Value.ownBlock] at e)
  have Hin := hQ hin
  have Hbr := hQ hbr
  by_cases hkl : k < Rs.length
  · obtain ⟨g, rfl, hg1, hg2, c0, c1⟩ := HIn.out.at hkl
    have d0 := (hbr.cell (p := ⟨g, k * 2, none⟩) hg1).trans c0
    have d1 := (hbr.cell (p := ⟨g, k * 2 + 1, none⟩) hg1).trans c1
    have htk : Rs.take (k + 1) = Rs.take k ++ [Rs[k]] := by rw [List.take_add_one, List.getElem?_eq_getElem hkl]; rfl
    have hnew : (Rs.take (k + 1)).map (·.node) = (Rs.take k).map (·.node) ++ [(Rs[k]).node] := by rw [htk, List.map_append]; rfl
    have Hnew := hQ hnew
    have hll : ((Rs.take k).map (·.node)).length ≤ 3 := by rw [List.length_map, List.length_take]; omega
    have Hll := hQ hll
    have hkI : (k : Int) < Rs.length := by omega
    obtain ⟨la, lc, hvl, _⟩ := ownI_len (HIn.out.each _ (List.getElem_mem hkl)).1
    rw [hvl] at d1
    generalize (natI (Rs[k]).other).length = ln at d1
    generalize (Rs[k]).node = y at d0 Hnew hnew
    generalize (Rs.take k).map (·.node) = lst at Hin Hnew Hll ⊢
    clear c0 c1 htk hnew hbr hin hll hvl
    go_wp2_with (at_builtin; refine wpList_append_lies _ rfl (.tmp 23) (.tmp 26) 27 rfl 0 3 i0 (.int .i64 0) 1 8 Tryz.underlying27 hi0 hz0 hz1 hz2 rfl (by decide) (.slice oa lst.length oc) lst.length ((natI lst).map intV) rfl (World.ownsRow.alloc (World.ownsRow.alloc Hin.out.own _) _) ⟨wr.heap.size + 1, 0, none⟩ 1 1 [intV (y : Int)] rfl rfl (by intro j u hj; have h9 := cell_one_new (wr.alloc (.cells #[.int .i64 (y : Int), .slice la ln lc] 183)) (intV (y : Int)) 3 j u hj; simpa [intV] using h9) (by intro u hu; simp [intV] at hu; rw [hu]; rfl) (by omega) (by have := Hll.out; unfold maxLen; omega) (by have := Hll.out; omega) (Nat.zero_le _) (wr.heap.size + 1 + 1) (by simp) ?_; intro g2 c2 w6 hown2 hgrow2 hat2 hlt2; have HN2 := hQ ((Hin.out.new ((Below.refl _ wr).alloc (Nat.le_refl _) (.cells #[.int .i64 (y : Int), .slice la ln lc] 183))).more (y := y) hown2 hgrow2 (hat2.imp id (fun e => by simpa using e))); clear hown2 hgrow2 hat2 hlt2)
    exact ⟨⟨k + 1, by omega, by go_num, by rw [Hnew.out]; exact HN2.out⟩, by simp [intOf]; omega⟩
  · obtain rfl : k = Rs.length := by omega
    have hkI : ¬ (Rs.length : Int) < Rs.length := by omega
    have hpl : (Rs.take Rs.length).map (·.node) = pl := by
     rw [List.take_length, Hpd.out, ← HMap.out, List.map_map]
     rfl
    have Hpl := hQ hpl
    generalize (Rs.take Rs.length).map (·.node) = lst at Hin Hpl ⊢
    clear hin hbr hpl
    go_wp2
    go_ret2
    refine ⟨oa, oc, by rw [← Hpl.out]; rfl, by rw [← Hpl.out]; exact Hin.out.ownI, fun g hg => ?_, Hb2.out.trans (Hbr.out.mono Hb2.out.size)⟩
    rw [← Hpl.out] at hg
    exact (Hin.out.blk g hg).elim (fun h => by simp [Value.ownBlock] at h) (fun h => Nat.le_trans Hb2.out.size h)
end
section
open Go Go.RowKit
def IdxRel (x : Int) (l : List Int) (W : World) (i : Value) (wr : World) : Prop :=
 ∃ k : Nat, k ≤ l.length ∧ i = .int .i64 k ∧ wr = W ∧ x ∉ l.take k
theorem not_take {x : Int} {l : List Int} {k : Nat} (h : k < l.length) (h1 : x ∉ l.take k) (h2 : x ≠ l.getD k 0) : x ∉ l.take (k + 1) := by
 rw [List.take_add_one, List.getElem?_eq_getElem h]
 rw [List.getD_eq_getElem?_getD, List.getElem?_eq_getElem h] at h2
 simp only [List.mem_append, Option.toList_some, List.mem_singleton, not_or]
 exact ⟨h1, h2⟩
theorem get_mem {l : List Int} {k : Nat} (h : k < l.length) : l.getD k 0 ∈ l := by rw [List.getD_eq_getElem?_getD, List.getElem?_eq_getElem h]; exact List.getElem_mem _
theorem mindex_any (B : Nat) (x : Int) (l : List Int) (hl : l.length ≤ 1000000000) (a : Option Addr) (c : Nat) (w : World) (hN : NumsAt B w a l) :
    Calls Tryz.prog 296 #[.slice a l.length c, .int .i64 x] w fun e w' => ∃ k : Int, e = .returned (.int .i64 k) ∧ (0 ≤ k ↔ x ∈ l) ∧ w' = w := by
 have HN := hQ hN; clear hN
 have hlI : (l.length : Int) ≤ 1000000000 := by omega
 go_enter Tryz.func296, Tryz.ntmps296
 go_wp2
 go_loopw [8] (fun i wr => IdxRel x l w i wr) (fun i _ => l.length - (intOf i).toNat)
 case atStart => exact ⟨0, Nat.zero_le _, rfl, rfl, by simp⟩
 case round =>
  obtain ⟨k, hk, rfl, rfl, hno⟩ := hrel
  have Hno := hQ hno; clear hno
  by_cases hkl : k < l.length
  · obtain ⟨b, o, rfl, _, c0⟩ := HN.out k hkl
    have hkI : (k : Int) < l.length := by omega
    have hm := get_mem hkl
    by_cases he : x = l.getD k 0
    · rw [← he] at c0
      rw [← he] at hm
      have Hm := hQ hm
      clear he hm
      go_wp2
      go_ret
      exact ⟨k, rfl, by simp [Hm.out], rfl⟩
    · have Hnew := hQ (not_take hkl Hno.out he)
      generalize l.getD k 0 = y at c0 he
      have he0 : (x == y) = false := beq_eq_false_iff_ne.2 he
      clear hm
      go_wp2
      exact ⟨⟨k + 1, by omega, by go_num, rfl, Hnew.out⟩, by simp [intOf]; omega⟩
  · obtain rfl : k = l.length := by omega
    have hno := Hno.out
    rw [List.take_length] at hno
    have Hn := hQ hno
    clear hno
    go_wp2
    go_ret
    exact ⟨-1, rfl, by simp [Hn.out], rfl⟩
theorem mcontains_any (B : Nat) (x : Int) (l : List Int) (hl : l.length ≤ 1000000000) (a : Option Addr) (c : Nat) (w : World) (hN : NumsAt B w a l) :
    Calls Tryz.prog 203 #[.slice a l.length c, .int .i64 x] w fun e w' => e = .returned (.bool (decide (x ∈ l))) ∧ w' = w := by
 have H := hQ (mindex_any B x l hl a c w hN); clear hN
 go_enter Tryz.func203, Tryz.ntmps203
 go_wp2_with fail
 refine H.out.mono ?_
 rintro e wx ⟨k, rfl, hk, hwx⟩
 subst wx
 have hd : decide (0 ≤ k) = decide (x ∈ l) := by simp [hk]
 have Hd := hQ hd
 clear hd hk
 go_wp2
 go_ret
 exact ⟨by rw [← Hd.out]; rfl, rfl⟩
theorem mhas_any (B : Nat) (x : Int) (l : List Int) (hl : l.length ≤ 1000000000) (a : Option Addr) (c : Nat) (w : World) (hN : NumsAt B w a l) :
    Calls Tryz.prog 210 #[.slice a l.length c, .int .i64 x] w fun e w' => e = .returned (.bool (decide (x ∈ l))) ∧ w' = w := by
 have HN := hQ hN; clear hN
 have hlI : (l.length : Int) ≤ 1000000000 := by omega
 go_enter Tryz.func210, Tryz.ntmps210
 go_wp2
 go_loopw [5] (fun i wr => IdxRel x l w i wr) (fun i _ => l.length - (intOf i).toNat)
 case atStart => exact ⟨0, Nat.zero_le _, rfl, rfl, by simp⟩
 case round =>
  obtain ⟨k, hk, rfl, rfl, hno⟩ := hrel
  have Hno := hQ hno; clear hno
  by_cases hkl : k < l.length
  · obtain ⟨b, o, rfl, _, c0⟩ := HN.out k hkl
    have hkI : (k : Int) < l.length := by omega
    have hm := get_mem hkl
    by_cases he : x = l.getD k 0
    · rw [← he] at c0
      rw [← he] at hm
      have Hm := hQ hm
      clear he hm
      go_wp2
      go_ret
      exact ⟨by simp [Hm.out], rfl⟩
    · have Hnew := hQ (not_take hkl Hno.out he)
      generalize l.getD k 0 = y at c0 he
      have he0 : (y == x) = false := beq_eq_false_iff_ne.2 (fun h => he h.symm)
      clear hm
      go_wp2
      exact ⟨⟨k + 1, by omega, by go_num, rfl, Hnew.out⟩, by simp [intOf]; omega⟩
  · obtain rfl : k = l.length := by omega
    have hno := Hno.out
    rw [List.take_length] at hno
    have Hn := hQ hno
    clear hno
    go_wp2
    go_ret
    exact ⟨by simp [Hn.out], rfl⟩
end
end Go.Proofs.YtedpljclnpiggaaGreatDoor
