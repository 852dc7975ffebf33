/- A tree of three nodes: Size, resolution of the second leaf. -/
import Derived.Test.YtedpljclnpiggaaGreatDoorV14
import Derived.Test.YtedpljclnpiggaaGreatDoorV06
import Derived.Test.YtedpljclnpiggaaGreatDoorV02
import Derived.Test.YtedpljclnpiggaaGreatDoorV09
set_option linter.unusedVariables false
set_option linter.unusedSimpArgs false
set_option maxRecDepth 100000
set_option maxHeartbeats 12800000
namespace Go.Proofs.YtedpljclnpiggaaGreatDoor
section
open Go Go.RowKit
def ResC (B : Nat) (T : List NodeD) (a : Option Addr) (c f : Nat) : Prop :=
 ∀ x, levD x < f → x < T.length → ∀ (pre : List Nat) (v : Value) (w : World), TzF w → B ≤ w.heap.size → TreeAt B w a T → OwnI v (natI pre) w → (∀ g, v.ownBlock = some g → B ≤ g) → pre.length + 9 * 2 ^ f ≤ 2000 →
  Calls Tryz.prog 294 #[v, .agg #[.slice a T.length c], .int .i64 x] w fun e w' => ∃ v', e = .returned v' ∧ ResIn w v v' (pre ++ resD T f x) w'
def RsRel (w : World) (v : Value) (pre : List Nat) (x : Nat) (us : List Int) (v' i : Value) (wr : World) : Prop :=
 ∃ k : Nat, k ≤ us.length ∧ i = .int .i64 k ∧ ResIn w v v' (pre ++ x :: (us.take k).map (fun u => (2 * u).toNat)) wr
theorem amres_any (B : Nat) (h3 : 3 ≤ B) (T : List NodeD) (hok : OkT' T) (hlen : T.length ≤ 262144) (a : Option Addr) (c : Nat) : ∀ f, ResC B T a c f
 | 0 => fun x hx => by omega
 | f + 1 => by
  have IH := hQ (amres_any B h3 T hok hlen a c f)
  intro x hlev hx pre v w htz hB hT hown hvB hpl
  obtain ⟨i0, hi0, hz0, hz1, hz2⟩ := info_parts infoI
  have hum := um_ok hok hx
  obtain ⟨hn, hTn⟩ := leaves_isN (ok_leaves hok (by omega))
  have h15 : T.length ≤ 15 := by rcases hn with h | h | h | h <;> omega
  obtain ⟨va, vc, rfl, _⟩ := ownI_len hown
  rw [nIl] at hown hvB ⊢
  have hvl : ∀ g, (Value.slice va pre.length vc).ownBlock = some g → g < w.heap.size := fun g hg => ownI_lt hown hg
  have hst : ResIn w (.slice va pre.length vc) (.slice va pre.length vc) pre w := ResIn.start hown
  have hb1 := (Below.refl w.heap.size w).alloc (Nat.le_refl _) (.cells #[.slice a T.length c] 44)
  have hrow := rAl (w := w) #[.slice a T.length c] 44 (0, 0)
  obtain ⟨b, o, rfl, hnode⟩ := hT x hx
  obtain ⟨ua, uc, k3, hnum⟩ := hnode.c3
  have k0 := hnode.c0
  have k1 := hnode.c1
  have k2 := hnode.c2
  have hbl : b < w.heap.size := Nat.lt_of_lt_of_le hnode.lt hB
  have hdef : resD T (f + 1) x = if (nodeD T x).pub ≠ 0 then x :: um2 (nodeD T x) else if x % 2 = 1 then resD T f (lefX x) ++ resD T f (rigX x) else [] := rfl
  have hxI : (x : Int) < T.length := by omega
  have h15I : (T.length : Int) ≤ 15 := by omega
  have hkids := fun ho => kid hn (by omega : x < 2 * lvD T.length - 1) ho
  have hrl := fun y hy => res_len hok f y hy
  have Hdef := hQ hdef
  have Hst := hQ hst
  have HT := hQ hT
  have Htz := hQ htz
  have HvB := hQ hvB
  have Hvl := hQ hvl
  have Hpl := hQ hpl
  have Hlev := hQ hlev
  have Hum := hQ hum
  have HB := hQ hB
  have H3 := hQ h3
  have Hkids := hQ hkids
  have Hrl := hQ hrl
  have Hb1 := hQ hb1
  have Hrow := hQ hrow
  have Hnum := hQ hnum
  have hb2 := hb1.alloc (by simp) (.cells #[.int .i64 (nodeD T x).pub, .int .i64 (nodeD T x).mem, .int .i64 (nodeD T x).ep, .slice ua (nodeD T x).um.length uc] 125)
  have Hb2 := hQ hb2
  have hst2 := hst.new hb2
  have Hst2 := hQ hst2
  have H15 := hQ h15
  have Hx := hQ hx
  have Hkl := hQ (show T.length = 2 * lvD T.length - 1 by omega)
  clear hdef hst hT htz hown hvB hvl hpl hlev hum hB h3 hkids hrl hb1 hrow hnum hb2 hst2 hnode hn hTn hok hlen h15 hx
  by_cases hp : 0 < (nodeD T x).pub
  · have hres : resD T (f + 1) x = x :: (nodeD T x).um.map (fun u => (2 * u).toNat) := by rw [Hdef.out, if_pos (by omega)]; rfl
    have Hres := hQ hres
    have Hu := hQ Hum.out.2
    clear hres Hdef Hum
    generalize (nodeD T x).um = us at k3 Hres Hu Hnum Hb2 Hst2
    generalize (nodeD T x).pub = p at k0 hp Hb2 Hst2
    generalize (nodeD T x).mem = m at k1 Hb2 Hst2
    generalize (nodeD T x).ep = ee at k2 Hb2 Hst2
    have husl : us.length ≤ 8 := Hu.out.1
    have husI : (us.length : Int) ≤ 8 := by omega
    go_enter Tryz.func294, Tryz.ntmps294
    go_wp2_with (at_builtin; refine wpList_append_lies _ rfl (.tmp 22) (.tmp 24) 27 rfl 0 3 i0 (.int .i64 0) 1 8 Tryz.underlying27 hi0 hz0 hz1 hz2 rfl (by decide) (.slice va pre.length vc) pre.length ((natI pre).map intV) rfl (World.ownsRow.alloc Hst2.out.own _) ⟨w.heap.size + 1 + 1, 0, none⟩ 1 1 [intV x] rfl rfl (by intro j u hj; have h9 := cell_one_new ((w.alloc (.cells #[.slice (some ⟨b, o, none⟩) T.length c] 44)).alloc (.cells #[.int .i64 p, .int .i64 m, .int .i64 ee, .slice ua us.length uc] 125)) (intV x) 3 j u hj; simpa [intV] using h9) (by intro u hu; simp [intV] at hu; rw [hu]; rfl) (by omega) (by have := Hpl.out; have : 1 ≤ 2 ^ (f + 1) := Nat.one_le_two_pow; unfold maxLen; omega) (by have := Hpl.out; have : 1 ≤ 2 ^ (f + 1) := Nat.one_le_two_pow; omega) (Nat.zero_le _) (w.heap.size + 1 + 1 + 1) (by simp) ?_; intro g1 c1 w5 hown1 hgrow1 hat1 hlt1; have HN1 := hQ (Hst2.out.more hown1 hgrow1 (hat1.imp id (fun e => by simpa using e))); have Hh1 := hQ (show w5.heap[w.heap.size + 1]? = some (.cells #[.int .i64 p, .int .i64 m, .int .i64 ee, .slice ua us.length uc] 125 (0, 0)) from (hgrow1.block (w.heap.size + 1) (by simp) (fun e => by have := Hvl.out _ e.symm; omega)).trans ((heap_alloc_old _ _ (by simp)).trans (by have h8 := rAl (w := w.alloc (.cells #[.slice (some ⟨b, o, none⟩) T.length c] 44)) #[.int .i64 p, .int .i64 m, .int .i64 ee, .slice ua us.length uc] 125 (0, 0); simpa using h8))); have n3 := (cRw Hh1.out 3).trans rfl; clear hown1 hgrow1 hat1 hlt1)
    have hnum5 : NumsAt B w5 ua us := (Hnum.out.below (HN1.out.tur.below HB.out HvB.out))
    have Hnum5 := hQ hnum5
    clear k0 k1 k2 k3 hnum5 Hst2 Hb2 Hh1 Hrow Hb1 Hst n3
    have hpl2 : pre.length + 10 ≤ 2000 := by have := Hpl.out; have : 2 ≤ 2 ^ (f + 1) := by rw [Nat.pow_succ]; have := Nat.one_le_two_pow (n := f); omega
                                             omega
    have Hpl2 := hQ hpl2
    clear hpl2
    go_loopw [0, 29] (fun v' i wr => RsRel w (.slice va pre.length vc) pre x us v' i wr ∧ NumsAt B wr ua us) (fun _ i _ => us.length - (intOf i).toNat)
    case atStart => exact ⟨⟨0, Nat.zero_le _, rfl, by rw [List.take_zero]; exact HN1.out⟩, Hnum5.out⟩
    case round =>
     obtain ⟨⟨k, hk, rfl, hin⟩, hnm⟩ := hrel
     obtain ⟨oa, oc, rfl⟩ := hin.len
     have Hin := hQ hin
     by_cases hkl : k < us.length
     · obtain ⟨ub, uo, rfl, hub, ku⟩ := hnm k hkl
       have hmem : us.getD k 0 ∈ us := by rw [List.getD_eq_getElem?_getD, List.getElem?_eq_getElem hkl]; exact List.getElem_mem _
       have hu2 := Hu.out.2 _ hmem
       have htk : us.take (k + 1) = us.take k ++ [us.getD k 0] := by rw [List.take_add_one, List.getD_eq_getElem?_getD, List.getElem?_eq_getElem hkl]; rfl
       generalize us.getD k 0 = u at ku hu2 htk
       obtain ⟨y, rfl⟩ : ∃ y : Nat, u = y := ⟨u.toNat, by omega⟩
       have hkI : (k : Int) < us.length := by omega
       have hyI : (y : Int) ≤ 15 := by have := H15.out; omega
       have hyy : 2 * (y : Int) = ((2 * y : Nat) : Int) := by omega
       have hll : (pre ++ x :: (us.take k).map (fun u => (2 * u).toNat)).length ≤ pre.length + 9 := by
        rw [List.length_append, List.length_cons, List.length_map, List.length_take]; omega
       have hnew : pre ++ x :: (us.take (k + 1)).map (fun u => (2 * u).toNat) = (pre ++ x :: (us.take k).map (fun u => (2 * u).toNat)) ++ [2 * y] := by
        rw [htk, List.map_append, List.append_assoc]
        congr 1
       have Hnew := hQ hnew
       have Hll := hQ hll
       have Hnm := hQ hnm
       have Hyy := hQ hyy
       clear htk hnew hll hmem hin hnm hyy hu2
       generalize pre ++ x :: (us.take k).map (fun u => (2 * u).toNat) = lst at Hin Hnew Hll ⊢
       go_wp2_with (at_builtin; refine wpList_append_lies _ rfl (.tmp 33) (.tmp 36) 27 rfl 0 3 i0 (.int .i64 0) 1 8 Tryz.underlying27 hi0 hz0 hz1 hz2 rfl (by decide) (.slice oa lst.length oc) lst.length ((natI lst).map intV) rfl (World.ownsRow.alloc Hin.out.own _) ⟨wr.heap.size, 0, none⟩ 1 1 [intV (2 * (y : Int))] rfl rfl (cell_one_new _ _ _) (by intro u hu; simp [intV] at hu; rw [hu]; rfl) (by omega) (by have := Hll.out; have := Hpl2.out; unfold maxLen; omega) (by have := Hll.out; have := Hpl2.out; omega) (Nat.zero_le _) (wr.heap.size + 1) (by simp) ?_; intro g2 c2 w6 hown2 hgrow2 hat2 hlt2; have HN2 := hQ (Hin.out.more (y := 2 * y) (by rw [← Hyy.out]; exact hown2) (by rw [← Hyy.out]; exact hgrow2) hat2); clear hown2 hgrow2 hat2 hlt2)
       exact ⟨⟨⟨k + 1, by omega, by go_num, by rw [Hnew.out]; exact HN2.out⟩, Hnum.out.below (HN2.out.tur.below HB.out HvB.out)⟩, by simp [intOf]; omega⟩
     · obtain rfl : k = us.length := by omega
       have hkI : ¬ (us.length : Int) < us.length := by omega
       have hl : pre ++ x :: (us.take us.length).map (fun u => (2 * u).toNat) = pre ++ resD T (f + 1) x := by rw [Hres.out, List.take_length]
       clear hin hnm
       generalize pre ++ x :: (us.take us.length).map (fun u => (2 * u).toNat) = lst at Hin hl ⊢
       generalize lst.length = nn at Hin ⊢
       subst hl
       go_wp2
       go_ret
       exact ⟨_, rfl, Hin.out⟩
  · have hp0 : (nodeD T x).pub = 0 := by have := Hum.out.1; omega
    have hne : ¬ (nodeD T x).pub ≠ 0 := by omega
    have hBe : Below B w _ := Hb2.out.mono HB.out
    have hdef2 := Hdef.out
    rw [if_neg hne] at hdef2
    rw [hp0] at k0 Hb2 Hst2 hBe
    have htz2 := Htz.out.below hBe H3.out
    have Htz2 := hQ htz2
    have hT2 := HT.out.below hBe
    have HT2 := hQ hT2
    have HBe := hQ hBe
    have hx15 : x < 15 := by have := H15.out; have := Hx.out; omega
    have Hx15 := hQ hx15
    have Hdef2 := hQ hdef2
    clear hp hp0 hne Hum Hdef htz2 hT2 hBe hx15 hdef2
    generalize (nodeD T x).um = us at k3 Hnum Hb2 Hst2 Htz2 HT2 HBe
    generalize (nodeD T x).mem = m at k1 Hb2 Hst2 Htz2 HT2 HBe
    generalize (nodeD T x).ep = ee at k2 Hb2 Hst2 Htz2 HT2 HBe
    by_cases ho : x % 2 = 1
    · have hk := Hkids.out ho
      have hres : resD T (f + 1) x = resD T f (lefX x) ++ resD T f (rigX x) := by rw [Hdef2.out, if_pos ho]
      have Hres := hQ hres
      have hTl := Hx.out
      obtain ⟨hk1, hk2, hk3, hk4⟩ := hk
      have hl1 := Hrl.out (lefX x) (by have := Hkl.out; omega)
      have hkl1 : lefX x < T.length := by have := Hkl.out; omega
      have hkr1 : rigX x < T.length := by have := Hkl.out; omega
      have hlv := Hlev.out
      have hpp : pre.length + 9 * 2 ^ f + 9 * 2 ^ f ≤ 2000 := by have := Hpl.out; rw [Nat.pow_succ] at this; omega
      have Hpp := hQ hpp
      have Hl1 := hQ hl1
      have Hk1 := hQ hkl1
      have Hk2 := hQ hkr1
      have Hk3 := hQ hk3
      have Hk4 := hQ hk4
      have Ho := hQ ho
      clear hk1 hk2 hk3 hk4 hl1 hkl1 hkr1 hlv hpp hTl hres Hdef2 ho
      go_enter Tryz.func294, Tryz.ntmps294
      go_wp2_with fail
      refine (amleft_odd x Hx15.out Ho.out _ Htz2.out).mono ?_
      rintro r wx ⟨rfl, hwx⟩
      subst wx
      generalize lefX x = lx at Hres Hl1 Hk1 Hk3 ⊢
      go_wp2_with fail
      refine (IH.out lx (by have := Hk3.out; have := Hlev.out; omega) Hk1.out pre _ _ Htz2.out (Nat.le_trans HB.out (by simp; omega)) HT2.out Hst2.out.ownI HvB.out (by have := Hpp.out; omega)).mono ?_
      rintro r w3 ⟨v1, rfl, hr1⟩
      have HN1 := hQ (Hst2.out.then' hr1)
      have Hh1 := hQ (show w3.heap[w.heap.size]? = some (.cells #[.slice (some ⟨b, o, none⟩) T.length c] 44 (0, 0)) from (hr1.tur.block w.heap.size (by simp; omega) (fun e => by have := Hvl.out _ e; omega)).trans ((heap_alloc_old _ _ (by simp)).trans Hrow.out))
      have hl2 : (pre ++ resD T f lx).length + 9 * 2 ^ f ≤ 2000 := by have := Hl1.out; have := Hpp.out; rw [List.length_append]; omega
      have hpre : pre ++ resD T (f + 1) x = (pre ++ resD T f lx) ++ resD T f (rigX x) := by rw [Hres.out, List.append_assoc]
      have Hl2 := hQ hl2
      have Hpre := hQ hpre
      obtain ⟨oa, oc, rfl⟩ := hr1.len
      clear hr1 hl2 hpre k0 k1 k2 k3
      generalize pre ++ resD T f lx = lst at HN1 Hl2 Hpre ⊢
      have hB3 : Below B w w3 := HN1.out.tur.below HB.out HvB.out
      have htz3 := Htz.out.below hB3 H3.out
      have hT3 := HT.out.below hB3
      have HT3 := hQ hT3
      have Htz3 := hQ htz3
      have HB3 := hQ hB3
      have n0 := (cRw Hh1.out 0).trans rfl
      clear Hh1 hB3 htz3 hT3 Hst2 Hb2 HT2 Htz2 HBe Hb1 Hrow Hnum
      go_wp2_with fail
      refine (amright_odd x Hx15.out Ho.out _ Htz3.out).mono ?_
      rintro r wx ⟨rfl, hwx⟩
      subst wx
      clear Hres
      generalize rigX x = rx at Hpre Hk2 Hk4 ⊢
      go_wp2_with fail
      refine (IH.out rx (by have := Hk4.out; have := Hlev.out; omega) Hk2.out lst _ _ Htz3.out (Nat.le_trans HB.out HN1.out.tur.size) HT3.out HN1.out.ownI (fun g hg => (HN1.out.blk g hg).elim (HvB.out g) (fun h => Nat.le_trans HB.out h)) (by have := Hl2.out; omega)).mono ?_
      rintro r w4 ⟨v2, rfl, hr2⟩
      have HN2 := hQ (HN1.out.then' hr2)
      clear hr2
      go_wp2
      go_ret
      exact ⟨_, rfl, by rw [Hpre.out]; exact HN2.out⟩
    · have hres : resD T (f + 1) x = [] := by rw [Hdef2.out, if_neg ho]
      have Hres := hQ hres
      have Ho := hQ ho
      clear hres ho Hdef2
      go_enter Tryz.func294, Tryz.ntmps294
      go_wp2_with fail
      refine (amleft_even x Hx15.out (by have := Ho.out; omega) _ Htz2.out).mono ?_
      rintro r wx ⟨rfl, hwx⟩
      subst wx
      go_wp2
      go_ret
      exact ⟨_, rfl, by rw [Hres.out, List.append_nil]; exact Hst2.out⟩
end
section
open Go Go.RowKit
def DirPost (w : World) (e : Ending) (w' : World) : Prop :=
 ∃ g, e = .returned (.slice (some ⟨g, 1, none⟩) 1 1) ∧ w'.cell? ⟨g, 1, none⟩ = some (.int .i64 1) ∧ (w.heap.size ≤ g ∧ g < w'.heap.size) ∧ Below w.heap.size w w'
theorem newI_two {x y : Int} {w w' : World} {e : Ending} (h : NewI [x, y] w e w') :
    ∃ g c, e = .returned (.slice (some ⟨g, 0, none⟩) 2 c) ∧ 2 ≤ c ∧ c ≤ maxLen ∧ (w.heap.size ≤ g ∧ g < w'.heap.size) ∧ w'.cell? ⟨g, 0, none⟩ = some (.int .i64 x) ∧ w'.cell? ⟨g, 1, none⟩ = some (.int .i64 y) ∧ Below w.heap.size w w' := by
 obtain ⟨v, rfl, hown, hg, hb⟩ := h
 rcases hown.2 with ⟨_, h2⟩ | ⟨g, cap, cur, h1, _, hgg, h4, h5, _⟩
 · simp at h2
 · subst h1
   have hc := ownI_at hown
   obtain ⟨b, o, e0, c0⟩ := hc 0 (by simp)
   obtain ⟨rfl, rfl⟩ : g = b ∧ 0 = o := by simpa using e0
   obtain ⟨b, o, e1, c1⟩ := hc 1 (by simp)
   obtain ⟨rfl, rfl⟩ : g = b ∧ 0 = o := by simpa using e1
   exact ⟨g, cap, rfl, h4, h5, ⟨hg g rfl, (Array.getElem?_eq_some_iff.1 hgg).1⟩, c0, c1, hb⟩
theorem idirect_0 (w : World) (h : TzEnv w) (hsz : 3 ≤ w.heap.size) : Calls Tryz.prog 186 #[.int .i64 0, .int .i64 2] w (DirPost w) := by
 have H := hQ (iup_0 w h hsz); clear h hsz
 go_enter Tryz.func186, Tryz.ntmps186
 go_wp2_with fail
 refine H.out.mono ?_
 intro e w1 h1
 obtain ⟨g, c, rfl, hc, hc2, hg, c0, c1, hb⟩ := newI_two h1
 unfold maxLen at hc2
 have Hg := hQ hg; clear hg h1
 have Hb := hQ hb; clear hb
 go_wp2
 go_ret
 exact ⟨g, rfl, c1, Hg.out, Hb.out⟩
theorem idirect_2 (w : World) (h : TzEnv w) (hsz : 3 ≤ w.heap.size) : Calls Tryz.prog 186 #[.int .i64 2, .int .i64 2] w (DirPost w) := by
 have H := hQ (iup_2 w h hsz); clear h hsz
 go_enter Tryz.func186, Tryz.ntmps186
 go_wp2_with fail
 refine H.out.mono ?_
 intro e w1 h1
 obtain ⟨g, c, rfl, hc, hc2, hg, c0, c1, hb⟩ := newI_two h1
 unfold maxLen at hc2
 have Hg := hQ hg; clear hg h1
 have Hb := hQ hb; clear hb
 go_wp2
 go_ret
 exact ⟨g, rfl, c1, Hg.out, Hb.out⟩
theorem icopath_0 (w : World) (h : TzEnv w) (hsz : 3 ≤ w.heap.size) : Calls Tryz.prog 293 #[.int .i64 0, .int .i64 2] w (NewI [2] w) := by
 obtain ⟨i0, hi0, hz0, hz1, hz2⟩ := info_parts infoI
 have H := hQ (iup_0 w h hsz)
 have He := hQ h; clear h
 go_enter Tryz.func293, Tryz.ntmps293
 go_wp2_with fail
 refine H.out.mono ?_
 intro e w1 h1
 obtain ⟨g, c, rfl, hc, hc2, hg, c0, c1, hb⟩ := newI_two h1
 unfold maxLen at hc2
 have Hg := hQ hg; clear hg h1 H
 have Hb := hQ hb; clear hb
 have HE1 := hQ (He.out.below Hb.out hsz)
 go_wp2
 refine wp_loop_rounds 3 ?_
 rw [rounds_succ]
 go_wp2_with fail
 refine (isibling_0 _ HE1.out).mono ?_
 rintro e wx ⟨rfl, hwx⟩
 subst wx
 have hn1 : ∀ W : World, OwnI (.slice none 0 0) [] W := ownI_nil
 have Hn1 := hQ hn1; clear hn1
 have hgl1 : g < w1.heap.size := Hg.out.2
 go_wp2_with (at_builtin; refine wpList_append_lies _ rfl (.tmp 25) (.tmp 27) 27 rfl 0 3 i0 (.int .i64 0) 1 8 Tryz.underlying27 hi0 hz0 hz1 hz2 rfl (by decide) (.slice none 0 0) 0 [] rfl (Hn1.out _) ⟨w1.heap.size, 0, none⟩ 1 1 [intV 2] rfl rfl (cell_one_new _ _ _) (by intro u hu; simp [intV] at hu; rw [hu]; rfl) (by omega) (by unfold maxLen; omega) (by omega) (Nat.zero_le _) (w1.heap.size + 1) (by simp) ?_; intro g2 c2 w2 hown2 hgrow2 hat2 hlt2; have Hown2 := hQ hown2; clear hown2; have hg2 : g2 = w1.heap.size + 1 := hat2.elim (fun e => by simp [Value.ownBlock] at e) id; have hb12 := ((Below.refl w1.heap.size w1).alloc (Nat.le_refl _) (.cells #[.int .i64 2] 3)).grown hgrow2 (by simp) (fun k hk => by simp [Value.ownBlock] at hk); have d1 := (hb12.cell (p := ⟨g, 1, none⟩) hgl1).trans c1; have Hb12 := hQ hb12; clear hb12 hgrow2 hat2 hlt2; have Hg2 := hQ hg2; clear hg2)
 rw [rounds_succ]
 go_wp2_with fail
 refine (isibling_1 _ (HE1.out.below Hb12.out (Nat.le_trans hsz Hb.out.size))).mono ?_
 rintro e wx ⟨rfl, hwx⟩
 subst wx
 go_wp2
 rw [rounds_succ]
 go_wp2
 go_ret
 exact newI_mk Hown2.out (by have := Hg2.out; have := Hb.out.size; omega) (Hb.out.trans (Hb12.out.mono Hb.out.size))
end
section
open Go Go.RowKit
structure T3 (w : World) (b : Nat) (p0 m0 e0 p1 p2 m2 e2 : Int) : Prop where
 c0 : w.cell? ⟨b, 0, none⟩ = some (.int .i64 p0)
 c1 : w.cell? ⟨b, 1, none⟩ = some (.int .i64 m0)
 c2 : w.cell? ⟨b, 2, none⟩ = some (.int .i64 e0)
 c3 : ∃ a c, w.cell? ⟨b, 3, none⟩ = some (.slice a 0 c)
 c4 : w.cell? ⟨b, 4, none⟩ = some (.int .i64 p1)
 c5 : w.cell? ⟨b, 5, none⟩ = some (.int .i64 0)
 c6 : w.cell? ⟨b, 6, none⟩ = some (.int .i64 0)
 c7 : ∃ a c, w.cell? ⟨b, 7, none⟩ = some (.slice a 0 c)
 c8 : w.cell? ⟨b, 8, none⟩ = some (.int .i64 p2)
 c9 : w.cell? ⟨b, 9, none⟩ = some (.int .i64 m2)
 c10 : w.cell? ⟨b, 10, none⟩ = some (.int .i64 e2)
 c11 : ∃ a c, w.cell? ⟨b, 11, none⟩ = some (.slice a 0 c)
theorem T3.lt {w : World} {b : Nat} {p0 m0 e0 p1 p2 m2 e2 : Int} (h : T3 w b p0 m0 e0 p1 p2 m2 e2) : b < w.heap.size := World.block_lt_of_cell? w _ h.c0
theorem T3.below {B : Nat} {w w' : World} {b : Nat} {p0 m0 e0 p1 p2 m2 e2 : Int} (h : T3 w b p0 m0 e0 p1 p2 m2 e2) (hb : Below B w w') (hB : b < B) : T3 w' b p0 m0 e0 p1 p2 m2 e2 :=
 have hc : ∀ j, w'.cell? ⟨b, j, none⟩ = w.cell? ⟨b, j, none⟩ := fun j => hb.cell (p := ⟨b, j, none⟩) hB
 ⟨(hc 0).trans h.c0, (hc 1).trans h.c1, (hc 2).trans h.c2, let ⟨a, c, e⟩ := h.c3; ⟨a, c, (hc 3).trans e⟩, (hc 4).trans h.c4, (hc 5).trans h.c5, (hc 6).trans h.c6, let ⟨a, c, e⟩ := h.c7; ⟨a, c, (hc 7).trans e⟩,
  (hc 8).trans h.c8, (hc 9).trans h.c9, (hc 10).trans h.c10, let ⟨a, c, e⟩ := h.c11; ⟨a, c, (hc 11).trans e⟩⟩
theorem T3.new {w w' : World} {b : Nat} {p0 m0 e0 p1 p2 m2 e2 : Int} (h : T3 w b p0 m0 e0 p1 p2 m2 e2) (hb : Below w.heap.size w w') : T3 w' b p0 m0 e0 p1 p2 m2 e2 := h.below hb h.lt
theorem leaves_3 (a : Option Addr) (c : Nat) (w : World) :
    Calls Tryz.prog 206 #[.agg #[.slice a 3 c]] w fun e w' => e = .returned (.int .i64 2) ∧ Below w.heap.size w w' := by
 have hb := (Below.refl w.heap.size w).alloc (Nat.le_refl _) (.cells #[.slice a 3 c] 44)
 have Hb := hQ hb; clear hb
 go_enter Tryz.func206, Tryz.ntmps206
 go_wp2_with fail
 go_quiet ((go_at_call 298; exact Calls.quiet_of_same (iwidth_2 _)))
 go_wp2
 go_ret
 exact ⟨rfl, bDr Hb.out _⟩
theorem iwithin_01 (w : World) (h : TzEnv w) :
    Calls Tryz.prog 282 #[.int .i64 0, .int .i64 1] w fun e w' => e = .returned (.bool true) ∧ ∃ d, w' = w.drewN d := by
 have H := hQ (fun d => level_0 (w.drewN d) ⟨h.t0, h.t1⟩)
 have H1 := hQ (level_1 w h); clear h
 go_enter Tryz.func282, Tryz.ntmps282
 go_wp2_with fail
 refine H1.out.mono ?_
 rintro e wx ⟨rfl, hwx⟩
 subst wx
 go_wp2_with fail
 go_quiet ((go_at_call 304; exact Calls.quiet_of_same (H.out _)))
 go_wp2
 go_ret
 exact ⟨rfl, _, rfl⟩
end
section
open Go Go.RowKit
theorem blank_no (p m e : Int) (hp : 0 < p) (a : Option Addr) (c : Nat) (w : World) :
    Calls Tryz.prog 284 #[.agg #[.int .i64 p, .int .i64 m, .int .i64 e, .slice a 0 c]] w fun r w' => r = .returned (.bool false) ∧ Below w.heap.size w w' := by
 have hb := (Below.refl w.heap.size w).alloc (Nat.le_refl _) (.cells #[.int .i64 p, .int .i64 m, .int .i64 e, .slice a 0 c] 125)
 have Hb := hQ hb; clear hb
 have hp0 : (p == 0) = false := beq_eq_false_iff_ne.2 (by omega)
 go_enter Tryz.func284, Tryz.ntmps284
 go_wp2
 go_ret
 exact ⟨rfl, Hb.out⟩
theorem blank_yes (a : Option Addr) (c : Nat) (w : World) :
    Calls Tryz.prog 284 #[.agg #[.int .i64 0, .int .i64 0, .int .i64 0, .slice a 0 c]] w fun r w' => r = .returned (.bool true) ∧ Below w.heap.size w w' := by
 have hb := (Below.refl w.heap.size w).alloc (Nat.le_refl _) (.cells #[.int .i64 0, .int .i64 0, .int .i64 0, .slice a 0 c] 125)
 have Hb := hQ hb; clear hb
 go_enter Tryz.func284, Tryz.ntmps284
 go_wp2
 go_ret
 exact ⟨rfl, Hb.out⟩
theorem ispan_1 (w : World) (h : TzEnv w) :
    Calls Tryz.prog 305 #[.int .i64 1] w fun r w' => r = .returned (.tuple #[.int .i64 0, .int .i64 1]) ∧ ∃ d, w' = w.drewN d := by
 have H := hQ (level_1 w h); clear h
 go_enter Tryz.func305, Tryz.ntmps305
 go_wp2_with fail
 refine H.out.mono ?_
 rintro e wx ⟨rfl, hwx⟩
 subst wx
 go_wp2_with fail
 go_quiet (fail)
 go_wp2
 go_ret2
 exact ⟨rfl, _, rfl⟩
theorem parent_blank (b c : Nat) (p0 m0 e0 p2 m2 e2 : Int) (w : World) (h : T3 w b p0 m0 e0 0 p2 m2 e2) :
    Calls Tryz.prog 283 #[.agg #[.slice (some ⟨b, 0, none⟩) 3 c], .int .i64 1] w fun r w' => r = .returned (.bool true) ∧ Below w.heap.size w w' := by
 have hb := (Below.refl w.heap.size w).alloc (Nat.le_refl _) (.cells #[.slice (some ⟨b, 0, none⟩) 3 c] 44)
 have h1 := h.new hb
 obtain ⟨a1, cc, c7⟩ := h1.c7
 have c4 := h1.c4
 have c5 := h1.c5
 have c6 := h1.c6
 have Hb := hQ hb; clear hb h1 h
 go_enter Tryz.func283, Tryz.ntmps283
 go_wp2_with fail
 refine (blank_yes a1 cc _).mono ?_
 rintro e w2 ⟨rfl, hb2⟩
 have hsz2 := hb2.size
 have Hb2 := hQ hb2; clear hb2
 go_wp2
 go_ret
 refine ⟨rfl, ?_⟩
 have h3 := Hb.out.alloc (by simp) (.cells #[.int .i64 0, .int .i64 0, .int .i64 0, .slice a1 0 cc] 125)
 exact h3.trans (Hb2.out.mono h3.size)
theorem parent_full (b c : Nat) (p0 m0 e0 p1 p2 m2 e2 : Int) (hp : 0 < p1) (w : World) (he : TzEnv w) (hsz : 3 ≤ w.heap.size) (h : T3 w b p0 m0 e0 p1 p2 m2 e2) :
    Calls Tryz.prog 283 #[.agg #[.slice (some ⟨b, 0, none⟩) 3 c], .int .i64 1] w fun r w' => r = .returned (.bool true) ∧ Below w.heap.size w w' := by
 have hb := (Below.refl w.heap.size w).alloc (Nat.le_refl _) (.cells #[.slice (some ⟨b, 0, none⟩) 3 c] 44)
 have h1 := h.new hb
 obtain ⟨a1, cc, c7⟩ := h1.c7
 have c4 := h1.c4
 have c5 := h1.c5
 have c6 := h1.c6
 have hb3 := hb.alloc (by simp) (.cells #[.int .i64 p1, .int .i64 0, .int .i64 0, .slice a1 0 cc] 125)
 have He := hQ (he.below hb3 hsz)
 have Hb3 := hQ hb3; clear hb hb3 h1 h he
 have hp1 : ¬ p1 < 1 := by omega
 go_enter Tryz.func283, Tryz.ntmps283
 go_wp2_with fail
 refine (ispan_1 _ He.out).mono ?_
 rintro e wx ⟨rfl, d, hwx⟩
 subst wx
 go_wp2
 refine wp_loop_rounds 1 ?_
 rw [rounds_succ]
 go_wp2
 go_ret
 exact ⟨rfl, bDr Hb3.out d⟩
end
section
open Go Go.RowKit
theorem keyedI : Maps.Keyed Tryz.prog 3 := Maps.int_keyed Tryz.underlying3
theorem key_int {k : Int} (h : i64ok k) : keyOf Tryz.prog 3 (.int .i64 k) = some (.int .i64 k) := Maps.keyOf_int_mk Tryz.underlying3 (WalkArith.wf_i64 h)
theorem run_make_ints (w : World) : (Instr.makeMap 173 none).run Tryz.prog w = .ok (.map (some w.heap.size)) (w.alloc (.map #[] 0)) := by kernel_rfl
abbrev IMap (w : World) (b n : Nat) (D : DataW Unit) : Prop := w.ownsMap Tryz.prog 3 (plainElem Tryz.prog 3) b n D
theorem look_cnt {W : World} {b n : Nat} {D : DataW Unit} (h : IMap W b n D) (k c : Int) (hk : i64ok k) (hc : D.atKey (.int .i64 k) (.lit (.int .i64 0)) = .lit (.int .i64 c)) :
    (Instr.lookup 173 (.map (some b)) (.int .i64 k) false).run Tryz.prog W = .ok (.int .i64 c) W := by
 obtain ⟨c', hrun, hat, _⟩ := World.ownsMap.lookup_int h keyedI Tryz.underlying173 Tryz.underlying3 (zero_int W) (key_int hk)
 rw [hc] at hat
 obtain rfl : c = c' := by simpa using hat
 exact hrun
theorem wpList_look_cnt {ops : Array Oper} {rest : List Oper} {o : Oper} {a : Act} {Q : Exit → Act → World → Prop} {w : World} {b n : Nat} {D : DataW Unit} (hg : o.guard = none) (m x : Operand) (hop : o.op = Op.lookup 173 m x false)
    (hm : a.eval m = .map (some b)) (k : Int) (hx : a.eval x = .int .i64 k) (h : IMap w b n D) (hk : i64ok k) (c : Int) (hc : D.atKey (.int .i64 k) (.lit (.int .i64 0)) = .lit (.int .i64 c))
    (hK : wpList Tryz.prog ops Q rest (a.put o.dst (.int .i64 c)) w) : wpList Tryz.prog ops Q (o :: rest) a w := by
 refine wpList_plain hg fun K' hK' => ?_
 unfold Oper.wp
 simp [execOp, hop, hm, hx, look_cnt h k c hk hc, Result.andThen]
 exact hK' _ _ hK
theorem IMap.below {B : Nat} {w w' : World} {b n : Nat} {D : DataW Unit} (h : IMap w b n D) (hb : Below B w w') (hB : b < B) : IMap w' b n D := by
 obtain ⟨es, clock, h1, rest⟩ := h
 exact ⟨es, clock, (hb.block b hB).trans h1, rest⟩
theorem T3.block {w w' : World} {b : Nat} {p0 m0 e0 p1 p2 m2 e2 : Int} (h : T3 w b p0 m0 e0 p1 p2 m2 e2) (hb : w'.heap[b]? = w.heap[b]?) : T3 w' b p0 m0 e0 p1 p2 m2 e2 :=
 have hc : ∀ j, w'.cell? ⟨b, j, none⟩ = w.cell? ⟨b, j, none⟩ := fun j => World.cell?_of_block (w := w) hb
 ⟨(hc 0).trans h.c0, (hc 1).trans h.c1, (hc 2).trans h.c2, let ⟨a, c, e⟩ := h.c3; ⟨a, c, (hc 3).trans e⟩, (hc 4).trans h.c4, (hc 5).trans h.c5, (hc 6).trans h.c6, let ⟨a, c, e⟩ := h.c7; ⟨a, c, (hc 7).trans e⟩,
  (hc 8).trans h.c8, (hc 9).trans h.c9, (hc 10).trans h.c10, let ⟨a, c, e⟩ := h.c11; ⟨a, c, (hc 11).trans e⟩⟩
theorem parent_3 (b c : Nat) (p0 m0 e0 p1 p2 m2 e2 : Int) (hp : 0 ≤ p1) (w : World) (he : TzEnv w) (hsz : 3 ≤ w.heap.size) (h : T3 w b p0 m0 e0 p1 p2 m2 e2) :
    Calls Tryz.prog 283 #[.agg #[.slice (some ⟨b, 0, none⟩) 3 c], .int .i64 1] w fun r w' => r = .returned (.bool true) ∧ Below w.heap.size w w' := by
 by_cases h0 : p1 = 0
 · subst h0; exact parent_blank b c p0 m0 e0 p2 m2 e2 w h
 · exact parent_full b c p0 m0 e0 p1 p2 m2 e2 (by omega) w he hsz h
theorem check_3 (b c : Nat) (p0 m0 e0 p1 p2 m2 e2 : Int) (h0 : 0 < p0) (h1 : 0 ≤ p1) (h2 : 0 < p2) (hm0 : 0 ≤ m0 ∧ m0 ≤ 1000) (hm2 : 0 ≤ m2 ∧ m2 ≤ 1000) (hm : m0 ≠ m2) (he0 : 0 ≤ e0 ∧ e0 ≤ 1000) (he2 : 0 ≤ e2 ∧ e2 ≤ 1000) (w : World) (he : TzEnv w) (hsz : 3 ≤ w.heap.size) (h : T3 w b p0 m0 e0 p1 p2 m2 e2) :
    Calls Tryz.prog 182 #[.agg #[.slice (some ⟨b, 0, none⟩) 3 c]] w fun r w' => r = .returned (.int .i64 0) ∧ Below w.heap.size w w' := by
 have hb1 := (Below.refl w.heap.size w).alloc (Nat.le_refl _) (.cells #[.slice (some ⟨b, 0, none⟩) 3 c] 44)
 have hbox := rAl (w := w) #[.slice (some ⟨b, 0, none⟩) 3 c] 44 (0, 0)
 have hs1 : w.heap.size < (w.alloc (.cells #[.slice (some ⟨b, 0, none⟩) 3 c] 44)).heap.size := by simp
 have Hb1 := hQ hb1; clear hb1
 have Hbox := hQ hbox; clear hbox
 have Hs1 := hQ hs1; clear hs1
 have He := hQ he; clear he
 have H := hQ h; clear h
 go_enter Tryz.func182, Tryz.ntmps182
 go_wp2_with fail
 refine (leaves_3 _ _ _).mono ?_
 rintro e w1 ⟨rfl, hb1⟩
 have hbx := (hb1.block w.heap.size Hs1.out).trans Hbox.out
 have Hsz1 := hQ (Nat.lt_of_lt_of_le Hs1.out hb1.size)
 have Hb2 := hQ (Hb1.out.trans (hb1.mono (Nat.le_of_lt Hs1.out)))
 clear hb1 Hb1 Hs1 Hbox
 have hmk := run_make_ints w1
 obtain ⟨q, hq⟩ : ∃ q, q = w.heap.size := ⟨_, rfl⟩
 rw [← hq] at hbx Hsz1 ⊢
 have Hq := hQ hq; clear hq
 have hx0 : w1.cell? ⟨q, 0, none⟩ = some (.slice (some ⟨b, 0, none⟩) 3 c) := (cRw hbx 0).trans rfl
 have hql : q < w1.heap.size := Hsz1.out
 go_wp2
 clear hmk
 refine wp_loop_rounds 4 ?_
 rw [rounds_succ]
 have hmap : IMap (w1.alloc (.map #[] 0)) w1.heap.size 0 (.map []) := World.ownsMap_made w1 Tryz.prog 3 (plainElem (H := Unit) Tryz.prog 3)
 have hT : T3 (w1.alloc (.map #[] 0)) b p0 m0 e0 p1 p2 m2 e2 := (H.out.new Hb2.out).new ((Below.refl _ _).alloc (Nat.le_refl _) _)
 have hb3 := Hb2.out.alloc Hb2.out.size (.map #[] 0)
 have hx1 : (w1.alloc (.map #[] 0)).cell? ⟨q, 0, none⟩ = some (.slice (some ⟨b, 0, none⟩) 3 c) := (((Below.refl _ _).alloc (Nat.le_refl _) _).cell (p := ⟨q, 0, none⟩) hql).trans hx0
 have hmw : w.heap.size ≤ w1.heap.size ∧ w1.heap.size < (w1.alloc (.map #[] 0)).heap.size := ⟨Hb2.out.size, by simp⟩
 obtain ⟨mb, hmb⟩ : ∃ mb, mb = w1.heap.size := ⟨_, rfl⟩
 rw [← hmb] at hmap hmw ⊢
 clear hx0
 generalize w1.alloc (.map #[] 0) = w2 at hmap hT hb3 hx1 hmw ⊢
 obtain ⟨a0, ca, t3⟩ := hT.c3
 have t0 := hT.c0
 have t1 := hT.c1
 have t2 := hT.c2
 have hTl := hT.lt
 have HT := hQ hT; clear hT
 have Hmap := hQ hmap; clear hmap
 have Hb3 := hQ hb3; clear hb3
 have Hmw := hQ hmw; clear hmw
 have Hmb := hQ hmb; clear hmb hbx
 go_wp2_with fail
 refine (blank_no p0 m0 e0 h0 a0 ca _).mono ?_
 rintro e w3 ⟨rfl, hb⟩
 have hal := (Below.refl w2.heap.size w2).alloc (Nat.le_refl _) (.cells #[.int .i64 p0, .int .i64 m0, .int .i64 e0, .slice a0 0 ca] 125)
 have hnode := (hb.block w2.heap.size (by simp)).trans (rAl (w := w2) #[.int .i64 p0, .int .i64 m0, .int .i64 e0, .slice a0 0 ca] 125 (0, 0))
 have hb23 := hal.trans (hb.mono (by simp))
 clear hb hal t0 t1 t2 t3
 have hT3 := HT.out.new hb23
 have hmap3 := Hmap.out.below hb23 Hmw.out.2
 have hx3 := (hb23.cell (p := ⟨q, 0, none⟩) (by have := Hmb.out; have := Hmw.out.2; simp only; omega)).trans hx1
 have hb3' := Hb3.out.trans (hb23.mono (by have := Hb3.out.size; omega))
 have hne : w2.heap.size ≠ mb ∧ w2.heap.size < w3.heap.size ∧ q ≠ mb ∧ b ≠ mb := ⟨by have := Hmw.out.2; omega, (Array.getElem?_eq_some_iff.1 hnode).1, by have := Hmb.out; omega, by have := H.out.lt; have := Hmw.out.1; omega⟩
 obtain ⟨nd, hnd⟩ : ∃ nd, nd = w2.heap.size := ⟨_, rfl⟩
 rw [← hnd] at hnode hne ⊢
 clear hnd hx1 hb23 Hb3 HT Hmap
 have n0 := (cRw hnode 0).trans rfl
 have n1 := (cRw hnode 1).trans rfl
 have n2 := (cRw hnode 2).trans rfl
 have n3 := (cRw hnode 3).trans rfl
 have Hnode := hQ hnode; clear hnode
 have HT3 := hQ hT3; clear hT3
 have Hmap3 := hQ hmap3; clear hmap3
 have Hb3 := hQ hb3'; clear hb3'
 have Hne := hQ hne; clear hne
 have hm0k : i64ok m0 := by unfold i64ok; omega
 have hm2k : i64ok m2 := by unfold i64ok; omega
 have Hm0k := hQ hm0k; clear hm0k
 have Hm2k := hQ hm2k; clear hm2k
 have hd0 : (DataW.map [] : DataW Unit).atKey (.int .i64 m0) (.lit (.int .i64 0)) = .lit (.int .i64 0) := rfl
 have Hd0 := hQ hd0; clear hd0
 have hd1 : ((DataW.map [] : DataW Unit).put (.int .i64 m0) (.lit (.int .i64 1))).atKey (.int .i64 m0) (.lit (.int .i64 0)) = .lit (.int .i64 1) := Maps.atKey_put_same Maps.isMap_empty (Maps.Keyed.key keyedI (key_int Hm0k.out)) _ _
 have Hd1 := hQ hd1; clear hd1
 have hp01 : ¬ p0 < 1 := by omega
 have hm00 : ¬ m0 < 0 := by omega
 have he00 : ¬ e0 < 0 := by omega
 have Hx3 := hQ hx3; clear hx3
 go_wp2_with (first
  | (at_lookup; refine wpList_look_cnt rfl (.tmp 34) (.tmp 36) rfl rfl m0 rfl Hmap3.out Hm0k.out 0 Hd0.out ?_)
  | (at_mapUpdate; refine wpList_mapUpdate_own _ rfl (.tmp 34) (.tmp 36) (.tmp 38) 173 rfl 3 3 keyedI Tryz.underlying173 (plainElem Tryz.prog 3) mb 0 (.map []) rfl Hmap3.out (by unfold maxLen; omega) (.int .i64 m0) (.int .i64 1) (.int .i64 m0) rfl rfl (key_int Hm0k.out) (.lit (.int .i64 1)) [] (plainElem_int (H := Unit) Tryz.underlying3 (q := .i64) (a := 1) (by decide)) ?_; intro w5 hmap5 hgrow5; have hb35 : ∀ k, k < w3.heap.size → k ≠ mb → w5.heap[k]? = w3.heap[k]? := fun k hk hn => hgrow5.block k hk (fun e => hn (by injection e)); have hnode5 := (hb35 nd Hne.out.2.1 Hne.out.1).trans Hnode.out; clear n0 n1 n2 n3; have n0 := (cRw hnode5 0).trans rfl; have n1 := (cRw hnode5 1).trans rfl; have n2 := (cRw hnode5 2).trans rfl; have n3 := (cRw hnode5 3).trans rfl; have Hb35 := hQ hb35; clear hb35 hnode5; have hlk := look_cnt hmap5 m0 1 Hm0k.out Hd1.out; have Hmap5 := hQ hmap5; clear hmap5; have Hgrow5 := hQ hgrow5; clear hgrow5))
 have hT5 := HT3.out.block (Hb35.out b HT3.out.lt Hne.out.2.2.2)
 have hql3 : q < w3.heap.size := World.block_lt_of_cell? w3 _ Hx3.out
 have hx5 : w5.cell? ⟨q, 0, none⟩ = some (.slice (some ⟨b, 0, none⟩) 3 c) := (World.cell?_of_block (w := w3) (a := ⟨q, 0, none⟩) (Hb35.out q hql3 Hne.out.2.2.1)).trans Hx3.out
 have hb5 := Hb3.out.grown Hgrow5.out Hb3.out.size (fun k e => by injection e with e; have := Hmw.out.1; omega)
 have hml5 : mb < w5.heap.size := World.ownsMap.lt Hmap5.out
 have hql5 : q < w5.heap.size := Nat.lt_of_lt_of_le hql3 Hgrow5.out.size
 have hsz5 : 3 ≤ w5.heap.size := Nat.le_trans hsz hb5.size
 obtain ⟨a1, cb, t7⟩ := hT5.c7
 have t4 := hT5.c4
 have t5 := hT5.c5
 have t6 := hT5.c6
 have hTl5 := hT5.lt
 clear n0 n1 n2 n3 hlk hTl
 have HT5 := hQ hT5; clear hT5
 have Hb5 := hQ hb5; clear hb5
 have hal5 := (Below.refl w5.heap.size w5).alloc (Nat.le_refl _) (.cells #[.int .i64 p1, .int .i64 0, .int .i64 0, .slice a1 0 cb] 125)
 have hpar := parent_3 b c p0 m0 e0 p1 p2 m2 e2 h1 _ ((He.out.below Hb5.out hsz).below hal5 hsz5) (Nat.le_trans hsz5 hal5.size) (HT5.out.new hal5)
 have Hpar := hQ hpar; clear hpar
 have Hal5 := hQ hal5; clear hal5
 rw [rounds_succ]
 go_wp2_with fail
 refine Hpar.out.mono ?_
 rintro e w6 ⟨rfl, hb56⟩
 have hb6 := Hal5.out.trans (hb56.mono Hal5.out.size)
 clear hb56 t4 t5 t6 t7 Hpar Hal5
 have hT6 := HT5.out.new hb6
 have hmap6 : IMap w6 mb 1 ((DataW.map [] : DataW Unit).put (.int .i64 m0) (.lit (.int .i64 1))) := IMap.below (w := w5) Hmap5.out hb6 hml5
 have hb6w := Hb5.out.trans (hb6.mono Hb5.out.size)
 have hml6 : mb < w6.heap.size := World.ownsMap.lt hmap6
 clear hx5 hml5 hql5 hsz5 hb6
 obtain ⟨a2, cc, t11⟩ := hT6.c11
 have t8 := hT6.c8
 have t9 := hT6.c9
 have t10 := hT6.c10
 have hTl6 := hT6.lt
 have HT6 := hQ hT6; clear hT6
 have Hmap6 := hQ hmap6; clear hmap6
 have Hb6 := hQ hb6w; clear hb6w
 go_wp2_with fail
 rw [rounds_succ]
 go_wp2_with fail
 refine (blank_no p2 m2 e2 h2 a2 cc _).mono ?_
 rintro e w7 ⟨rfl, hb⟩
 have hal := (Below.refl w6.heap.size w6).alloc (Nat.le_refl _) (.cells #[.int .i64 p2, .int .i64 m2, .int .i64 e2, .slice a2 0 cc] 125)
 have hnode := (hb.block w6.heap.size (by simp)).trans (rAl (w := w6) #[.int .i64 p2, .int .i64 m2, .int .i64 e2, .slice a2 0 cc] 125 (0, 0))
 have hb67 := hal.trans (hb.mono (by simp))
 clear hb hal t8 t9 t10 t11
 have hmap7 : IMap w7 mb 1 ((DataW.map [] : DataW Unit).put (.int .i64 m0) (.lit (.int .i64 1))) := IMap.below (w := w6) Hmap6.out hb67 hml6
 have hb7 := Hb6.out.trans (hb67.mono Hb6.out.size)
 have hne7 : w6.heap.size ≠ mb ∧ w6.heap.size < w7.heap.size := ⟨by omega, (Array.getElem?_eq_some_iff.1 hnode).1⟩
 obtain ⟨nd2, hnd2⟩ : ∃ nd, nd = w6.heap.size := ⟨_, rfl⟩
 rw [← hnd2] at hnode hne7 ⊢
 clear hnd2 hb67
 have n0 := (cRw hnode 0).trans rfl
 have n1 := (cRw hnode 1).trans rfl
 have n2 := (cRw hnode 2).trans rfl
 have n3 := (cRw hnode 3).trans rfl
 have Hnode7 := hQ hnode; clear hnode
 have Hmap7 := hQ hmap7; clear hmap7
 have Hb7 := hQ hb7; clear hb7
 have Hne7 := hQ hne7; clear hne7
 have hkne : (Lit.int .i64 m2) ≠ (Lit.int .i64 m0) := fun e => hm (by injection e with _ e; exact e.symm)
 have hd2 : ((DataW.map [] : DataW Unit).put (.int .i64 m0) (.lit (.int .i64 1))).atKey (.int .i64 m2) (.lit (.int .i64 0)) = .lit (.int .i64 0) := (Maps.atKey_put_other hkne _ _).trans rfl
 have Hd2 := hQ hd2; clear hd2 hkne
 have hd3 : (((DataW.map [] : DataW Unit).put (.int .i64 m0) (.lit (.int .i64 1))).put (.int .i64 m2) (.lit (.int .i64 1))).atKey (.int .i64 m2) (.lit (.int .i64 0)) = .lit (.int .i64 1) := Maps.atKey_put_same (Maps.IsMap.put Maps.isMap_empty _ _) (Maps.Keyed.key keyedI (key_int Hm2k.out)) _ _
 have Hd3 := hQ hd3; clear hd3
 have hp21 : ¬ p2 < 1 := by omega
 have hm20 : ¬ m2 < 0 := by omega
 have he20 : ¬ e2 < 0 := by omega
 go_wp2_with (first
  | (at_lookup; refine wpList_look_cnt rfl (.tmp 34) (.tmp 36) rfl rfl m2 rfl Hmap7.out Hm2k.out 0 Hd2.out ?_)
  | (at_mapUpdate; refine wpList_mapUpdate_own _ rfl (.tmp 34) (.tmp 36) (.tmp 38) 173 rfl 3 3 keyedI Tryz.underlying173 (plainElem Tryz.prog 3) mb 1 ((DataW.map [] : DataW Unit).put (.int .i64 m0) (.lit (.int .i64 1))) rfl Hmap7.out (by unfold maxLen; omega) (.int .i64 m2) (.int .i64 1) (.int .i64 m2) rfl rfl (key_int Hm2k.out) (.lit (.int .i64 1)) [] (plainElem_int (H := Unit) Tryz.underlying3 (q := .i64) (a := 1) (by decide)) ?_; intro w8 hmap8 hgrow8; have hnode8 := (hgrow8.block nd2 Hne7.out.2 (fun e => Hne7.out.1 (by injection e))).trans Hnode7.out; clear n0 n1 n2 n3; have n0 := (cRw hnode8 0).trans rfl; have n1 := (cRw hnode8 1).trans rfl; have n2 := (cRw hnode8 2).trans rfl; have n3 := (cRw hnode8 3).trans rfl; clear hnode8; have hlk8 := look_cnt hmap8 m2 1 Hm2k.out Hd3.out; clear hmap8; have Hgrow8 := hQ hgrow8; clear hgrow8))
 rw [rounds_succ]
 go_wp2
 go_ret
 exact ⟨rfl, Hb7.out.grown Hgrow8.out Hb7.out.size (fun k e => by injection e with e; have := Hmw.out.1; omega)⟩
end
section
open Go Go.RowKit
def heldD (T : List NodeD) (n : Nat) : Prop := ∀ x, x < T.length → (nodeD T x).pub = 0 ∨ thereD n (nodeD T x).pub = true
def pubD (T : List NodeD) (x : Nat) : Int := (nodeD T x).pub
theorem mem_risingD {l : List KeyP} {k : KeyP} (h : k ∈ rsD l) : k ∈ l := by
 unfold rsD at h
 have : ∀ (l m : List KeyP), RisingK m → k ∈ l.foldl putD m → k ∈ l ∨ k ∈ m := by
  intro l
  induction l with
  | nil => intro m _ h; exact .inr h
  | cons x r ih =>
   intro m hm h
   rw [List.foldl_cons] at h
   rcases ih _ (rising_putD m x hm) h with h | h
   · exact .inl (List.mem_cons_of_mem _ h)
   · rcases (mem_putD m x hm k).1 h with rfl | ⟨h, _⟩
     · exact .inl (by simp)
     · exact .inr h
 rcases this l [] List.Pairwise.nil h with h | h
 · exact h
 · simp at h
end
section
open Go Go.RowKit
theorem size_3 (b c : Nat) (p0 m0 e0 p1 p2 m2 e2 : Int) (h0 : 0 < p0) (h1 : 0 ≤ p1) (h2 : 0 < p2) (hm0 : 0 ≤ m0 ∧ m0 ≤ 1000) (hm2 : 0 ≤ m2 ∧ m2 ≤ 1000) (hm : m0 ≠ m2) (he0 : 0 ≤ e0 ∧ e0 ≤ 1000) (he2 : 0 ≤ e2 ∧ e2 ≤ 1000) (w : World) (he : TzEnv w) (hsz : 3 ≤ w.heap.size) (h : T3 w b p0 m0 e0 p1 p2 m2 e2) :
    Calls Tryz.prog 187 #[.agg #[.slice (some ⟨b, 0, none⟩) 3 c]] w fun r w' => r = .returned (.int .i64 2) ∧ Below w.heap.size w w' := by
 have hb1 := (Below.refl w.heap.size w).alloc (Nat.le_refl _) (.cells #[.slice (some ⟨b, 0, none⟩) 3 c] 44)
 have hs1 : w.heap.size < (w.alloc (.cells #[.slice (some ⟨b, 0, none⟩) 3 c] 44)).heap.size := by simp
 have hbox := rAl (w := w) #[.slice (some ⟨b, 0, none⟩) 3 c] 44 (0, 0)
 have hck := check_3 b c p0 m0 e0 p1 p2 m2 e2 h0 h1 h2 hm0 hm2 hm he0 he2 _ (he.below hb1 hsz) (Nat.le_trans hsz hb1.size) (h.new hb1)
 have Hck := hQ hck; clear hck
 have Hb1 := hQ hb1; clear hb1
 have Hs1 := hQ hs1; clear hs1
 have Hbox := hQ hbox; clear hbox
 clear h he h0 h1 h2 hm0 hm2 hm he0 he2
 go_enter Tryz.func187, Tryz.ntmps187
 go_wp2_with fail
 refine Hck.out.mono ?_
 rintro e w2 ⟨rfl, hb2⟩
 have hx : w2.cell? ⟨w.heap.size, 0, none⟩ = some (.slice (some ⟨b, 0, none⟩) 3 c) := by rw [cRw ((hb2.block w.heap.size Hs1.out).trans Hbox.out)]; rfl
 have Hb2 := hQ (Hb1.out.trans (hb2.mono (Nat.le_of_lt Hs1.out))); clear hb2
 go_wp2_with fail
 refine (leaves_3 _ _ _).mono ?_
 rintro e w3 ⟨rfl, hb3⟩
 have Hb3 := hQ (Hb2.out.trans (hb3.mono Hb2.out.size)); clear hb3
 go_wp2
 go_ret
 exact ⟨rfl, Hb3.out⟩
theorem resolution_2 (b c : Nat) (p0 m0 e0 p1 p2 m2 e2 : Int) (h2 : 0 < p2) (w : World) (h : T3 w b p0 m0 e0 p1 p2 m2 e2) :
    Calls Tryz.prog 294 #[.slice none 0 0, .agg #[.slice (some ⟨b, 0, none⟩) 3 c], .int .i64 2] w (NewI [2] w) := by
 obtain ⟨i0, hi0, hz0, hz1, hz2⟩ := info_parts infoI
 have hb1 := (Below.refl w.heap.size w).alloc (Nat.le_refl _) (.cells #[.slice (some ⟨b, 0, none⟩) 3 c] 44)
 have hT := h.new hb1
 obtain ⟨a, cc, t3⟩ := hT.c11
 have t0 := hT.c8
 have t1 := hT.c9
 have t2 := hT.c10
 have Hb1 := hQ hb1; clear hb1 hT h
 go_enter Tryz.func294, Tryz.ntmps294
 have hn1 : ∀ W : World, OwnI (.slice none 0 0) [] W := ownI_nil
 have Hn1 := hQ hn1; clear hn1
 have hb3 := (Hb1.out.alloc (by simp) (.cells #[.int .i64 p2, .int .i64 m2, .int .i64 e2, .slice a 0 cc] 125)).alloc (by simp; omega) (.cells #[.int .i64 2] 3)
 have Hb3 := hQ hb3; clear hb3
 go_wp2_with (at_builtin; refine wpList_append_lies _ rfl (.tmp 22) (.tmp 24) 27 rfl 0 3 i0 (.int .i64 0) 1 8 Tryz.underlying27 hi0 hz0 hz1 hz2 rfl (by decide) (.slice none 0 0) 0 [] rfl (Hn1.out _) ⟨w.heap.size + 1 + 1, 0, none⟩ 1 1 [intV 2] rfl rfl (by intro j u hj; have h9 := cell_one_new ((w.alloc (.cells #[.slice (some ⟨b, 0, none⟩) 3 c] 44)).alloc (.cells #[.int .i64 p2, .int .i64 m2, .int .i64 e2, .slice a 0 cc] 125)) (intV 2) 3 j u hj; simpa [intV] using h9) (by intro u hu; simp [intV] at hu; rw [hu]; rfl) (by omega) (by unfold maxLen; omega) (by omega) (Nat.zero_le _) (w.heap.size + 1 + 1 + 1) (by simp) ?_; intro g5 c5 w5 hown5 hgrow5 hat5 hlt5; have hg5 : g5 = w.heap.size + 1 + 1 + 1 := hat5.elim (fun e => by simp [Value.ownBlock] at e) id; have hb5 := Hb3.out.grown hgrow5 Hb3.out.size (fun k hk => by simp [Value.ownBlock] at hk); have hr0 := rAl (w := w.alloc (.cells #[.slice (some ⟨b, 0, none⟩) 3 c] 44)) #[.int .i64 p2, .int .i64 m2, .int .i64 e2, .slice a 0 cc] 125 (0, 0); have hr1 : w5.heap[w.heap.size + 1]? = some (.cells #[.int .i64 p2, .int .i64 m2, .int .i64 e2, .slice a 0 cc] 125 (0, 0)) := (hgrow5.block (w.heap.size + 1) (by simp) (fun e => by simp [Value.ownBlock] at e)).trans ((heap_alloc_old _ _ (by simp)).trans (by simpa using hr0)); have hcell : w5.cell? ⟨w.heap.size + 1, 3, none⟩ = some (.slice a 0 cc) := (cRw hr1 3).trans rfl; clear hr0 hr1; have Hown5 := hQ hown5; clear hown5; have Hb5 := hQ hb5; clear hb5; have Hg5 := hQ hg5; clear hg5 hgrow5 hat5 hlt5)
 refine wp_loop_rounds 1 ?_
 rw [rounds_succ]
 go_wp2
 go_ret
 exact newI_mk Hown5.out (by have := Hg5.out; omega) Hb5.out
end
end Go.Proofs.YtedpljclnpiggaaGreatDoor
