/- path.rising: the walk. -/
import Derived.Test.YtedpljclnpiggaaGreatDoorV02
import Derived.Test.YtedpljclnpiggaaGreatDoorV15
import Derived.Test.YtedpljclnpiggaaGreatDoorV17
import Derived.Maps.RangeWalk
import Derived.Maps.AppendAt
import Derived.Sort.OwnSorted
import Derived.Deep.AppendLies
import Derived.Test.YtedpljclnpiggaaGreatDoorV14
set_option linter.unusedVariables false
set_option linter.unusedSimpArgs false
set_option maxRecDepth 100000
set_option maxHeartbeats 12800000
namespace Go.Proofs.YtedpljclnpiggaaGreatDoor
section
open Go Go.RowKit Go.Lib Go.Sort
def keyV (k : KeyP) : List Value := [.int .i64 k.1, .int .i64 k.2]
abbrev OwnK (v : Value) (l : List KeyP) (w : World) : Prop := w.ownsRow 0 123 2 v l.length (l.flatMap keyV)
def KeysAt (w : World) (a : Option Addr) (l : List KeyP) : Prop := ∀ i, i < l.length → ∃ b o, a = some ⟨b, o, none⟩ ∧ w.cell? ⟨b, o + i * 2, none⟩ = some (.int .i64 (l.getD i (0, 0)).1) ∧ w.cell? ⟨b, o + i * 2 + 1, none⟩ = some (.int .i64 (l.getD i (0, 0)).2)
theorem KeysAt.below {B : Nat} {w w' : World} {a : Option Addr} {l : List KeyP} (h : KeysAt w a l) (hb : Below B w w') (hB : w.heap.size ≤ B) : KeysAt w' a l := fun i hi => by
 obtain ⟨b, o, e, c0, c1⟩ := h i hi
 have hl := World.block_lt_of_cell? w _ c0
 exact ⟨b, o, e, (hb.cell (p := ⟨b, o + i * 2, none⟩) (Nat.lt_of_lt_of_le hl hB)).trans c0, (hb.cell (p := ⟨b, o + i * 2 + 1, none⟩) (Nat.lt_of_lt_of_le hl hB)).trans c1⟩
theorem infoKey : (Tryz.prog.info? 123).map (fun i => (i.zero, i.size, i.bytes)) = some (some (.agg #[.int .i64 0, .int .i64 0]), 2, 16) := by kernel_rfl
structure KTab (D : DataW Unit) (l : List KeyP) : Prop where
 isMap : Maps.IsMap D
 has : ∀ n, Maps.has D (.int .i64 n) = hasNode (rsD l) n
 num : ∀ p ∈ rsD l, D.atKey (.int .i64 p.1) (.lit (.int .i64 0)) = .lit (.int .i64 p.2)
theorem ktab_nil : KTab (.map []) [] := ⟨Maps.isMap_empty, fun _ => rfl, fun p h => by simp [rsD] at h⟩
theorem lit_ne {a b : Int} (h : a ≠ b) : (Lit.int .i64 a : Lit) ≠ .int .i64 b := fun e => h (by injection e)
theorem lit_key (a : Int) : WideAt.IsKeyLit (.int .i64 a) := trivial
theorem KTab.put {D : DataW Unit} {l : List KeyP} (h : KTab D l) (k : KeyP) : KTab (D.put (.int .i64 k.1) (.lit (.int .i64 k.2))) (l ++ [k]) := by
 have hr := rising_risingD l
 refine ⟨h.isMap.put _ _, fun n => ?_, fun p hp => ?_⟩
 · rw [risingD_snoc, hasNode_put hr]
   by_cases e : n = k.1
   · subst e
     rw [Maps.has_put_same h.isMap (lit_key _)]
     simp
   · rw [Maps.has_put_other (lit_ne e), h.has n]
     simp [e]
 · rw [risingD_snoc] at hp
   rcases (mem_putD _ k hr p).1 hp with rfl | ⟨hp, hne⟩
   · rw [Maps.atKey_put_same h.isMap (lit_key _)]
   · rw [Maps.atKey_put_other (lit_ne hne), h.num p hp]
def RisIn (l : List KeyP) (w : World) (mb k : Nat) (wr : World) : Prop := ∃ D, IMap wr mb k D ∧ KTab D (l.take k) ∧ Below w.heap.size w wr ∧ mb < wr.heap.size
def RisRel (l : List KeyP) (w : World) (mb : Nat) (i : Value) (wr : World) : Prop := ∃ k, k ≤ l.length ∧ i = .int .i64 k ∧ RisIn l w mb k wr
def ColK (l : List KeyP) (left : Lit → Bool) (out : List KeyP) : Prop :=
 (out.map (·.1)).Nodup ∧ ∀ p, p ∈ out ↔ (p ∈ rsD l ∧ left (.int .i64 p.1) = false)
theorem colK_start {l : List KeyP} {D : DataW Unit} (h : KTab D l) : ColK l (Maps.has D) [] := by
 refine ⟨by simp, fun p => ⟨fun hp => by simp at hp, fun ⟨hp, hl⟩ => ?_⟩⟩
 rw [h.has p.1] at hl
 have : hasNode (rsD l) p.1 = true := hasNode_iff.2 ⟨p.2, hp⟩
 rw [this] at hl
 cases hl
theorem ColK.step {l : List KeyP} {D : DataW Unit} {left : Lit → Bool} {out : List KeyP} {x c : Int} (h : ColK l left out) (hT : KTab D l) (hleft : ∀ n, left (.int .i64 n) = true → hasNode (rsD l) n = true) (hx : left (.int .i64 x) = true) (hat : ∀ zd, D.atKey (.int .i64 x) zd = .lit (.int .i64 c)) :
    ColK l (fun z => left z && !z.sameKey (.int .i64 x)) (out ++ [(x, c)]) := by
 obtain ⟨s, hs⟩ := hasNode_iff.1 (hleft x hx)
 have hsc : s = c := by
  have h1 := hT.num _ hs
  rw [hat] at h1
  simpa using h1.symm
 subst hsc
 refine ⟨?_, fun p => ?_⟩
 · rw [List.map_append, List.nodup_append]
   refine ⟨h.1, by simp, fun a ha b hb e => ?_⟩
   obtain ⟨p, hp, rfl⟩ := List.mem_map.1 ha
   have hbx : b = x := by simpa using hb
   have h2 := ((h.2 p).1 hp).2
   rw [e, hbx, hx] at h2
   cases h2
 · rw [List.mem_append, h.2 p, List.mem_singleton]
   constructor
   · rintro (⟨hp, hl⟩ | rfl)
     · exact ⟨hp, by simp [hl]⟩
     · exact ⟨hs, by simp [Lit.sameKey]⟩
   · rintro ⟨hp, hl⟩
     by_cases e : p.1 = x
     · refine .inr (RisingK.one (rising_risingD l) hp hs e)
     · refine .inl ⟨hp, ?_⟩
       have : (Lit.int .i64 p.1).sameKey (.int .i64 x) = false := by simp [Lit.sameKey, e]
       simpa [this] using hl
def RngRel (l : List KeyP) (D : DataW Unit) (w : World) (mb r n B : Nat) (v : Value) (wr : World) : Prop :=
 ∃ (left : Lit → Bool) (cnt : Nat) (out : List KeyP), wr.ranges Tryz.prog 3 (plainElem Tryz.prog 3) mb r n D left cnt ∧ out.length + cnt ≤ Maps.size D ∧
  wr.ownsRow B 123 2 v out.length (out.flatMap keyV) ∧ ColK l left out ∧ (∀ z, left (.int .i64 z) = true → hasNode (rsD l) z = true) ∧ Below w.heap.size w wr
theorem sorted_is {l out d : List KeyP} (hc : ColK l (fun _ => false) out) (hp : d.Perm out) (hs : d.Pairwise (fun a b => ¬ b.1 < a.1)) : d = rsD l := by
 have hnd : (d.map (·.1)).Nodup := (hp.map _).nodup_iff.2 hc.1
 have hr : RisingK d := by
  have h2 : d.Pairwise (fun a b => a.1 ≠ b.1) := List.pairwise_map.1 hnd
  exact (hs.and h2).imp (fun ⟨h1, h3⟩ => by omega)
 refine rising_ext hr (rising_risingD l) fun p => ?_
 rw [hp.mem_iff, hc.2 p]
 simp
end
section
open Go Go.RowKit
structure CntTab (D : DataW Unit) (l : List Int) : Prop where
 isMap : Maps.IsMap D
 cnt : ∀ m, D.atKey (.int .i64 m) (.lit (.int .i64 0)) = .lit (.int .i64 (l.count m : Nat))
theorem cnt_nil : CntTab (.map []) [] := ⟨Maps.isMap_empty, fun _ => rfl⟩
theorem CntTab.put {D : DataW Unit} {l : List Int} (h : CntTab D l) (m : Int) : CntTab (D.put (.int .i64 m) (.lit (.int .i64 (((l.count m : Nat) : Int) + 1)))) (m :: l) := by
 refine ⟨h.isMap.put _ _, fun n => ?_⟩
 by_cases e : n = m
 · subst e
   rw [Maps.atKey_put_same h.isMap (lit_key _), List.count_cons_self]
   rfl
 · rw [Maps.atKey_put_other (lit_ne e), h.cnt n, List.count_cons_of_ne (fun h => e h.symm)]
structure CkIn (T : List NodeD) (q mb : Nat) (a : Option Addr) (c : Nat) (w : World) (k : Nat) (wr : World) : Prop where
 box : wr.heap[q]? = some (.cells #[.slice a T.length c] 44 (0, 0))
 map : ∃ D, IMap wr mb (memsD T k).length D ∧ CntTab D (memsD T k)
 b : Below w.heap.size w wr
 good : ∀ x, x < k → goodAt T x
 ap : w.heap.size ≤ q ∧ q < mb
def CkRel (T : List NodeD) (q mb : Nat) (a : Option Addr) (c : Nat) (w : World) (i l : Value) (wr : World) : Prop :=
 ∃ k : Nat, k ≤ T.length ∧ i = .int .i64 k ∧ l = .int .i64 (lastD T k) ∧ CkIn T q mb a c w k wr
theorem memsD_len (T : List NodeD) : ∀ k, (memsD T k).length ≤ k
 | 0 => by simp [memsD]
 | k + 1 => by
  have := memsD_len T k
  unfold memsD
  split
  · simp; omega
  · omega
theorem mems_skip {T : List NodeD} {k : Nat} (h : ¬ (k % 2 = 0 ∧ blankD (nodeD T k) = false)) : memsD T (k + 1) = memsD T k ∧ lastD T (k + 1) = lastD T k := by
 constructor
 · conv => lhs; unfold memsD
   rw [if_neg h]
 · conv => lhs; unfold lastD
   rw [if_neg h]
theorem mems_take {T : List NodeD} {k : Nat} (h : k % 2 = 0 ∧ blankD (nodeD T k) = false) : memsD T (k + 1) = (nodeD T k).mem :: memsD T k ∧ lastD T (k + 1) = ((k / 2 : Nat) : Int) := by
 constructor
 · conv => lhs; unfold memsD
   rw [if_pos h]
 · conv => lhs; unfold lastD
   rw [if_pos h]
theorem not_ok_at {T : List NodeD} {k : Nat} (hk : k < T.length) (h : ¬ goodAt T k) : errD T = 1 := errD_bad fun ho => by
 rcases ho with ho | ⟨_, h1, _⟩
 · omega
 · exact h (h1 k hk)
theorem CkIn.new {T : List NodeD} {q mb : Nat} {a : Option Addr} {c : Nat} {w : World} {k k' : Nat} {wr wr' : World} (h : CkIn T q mb a c w k wr) (hb : Below wr.heap.size wr wr') (hk : k' = k + 1) (hm : memsD T k' = memsD T k) (hg : goodAt T k) : CkIn T q mb a c w k' wr' := by
 subst hk
 obtain ⟨D, hD, hT⟩ := h.map
 exact ⟨(hb.block q (Array.getElem?_eq_some_iff.1 h.box).1).trans h.box, ⟨D, by rw [hm]; exact hD.below hb (World.ownsMap.lt hD), by rw [hm]; exact hT⟩, h.b.trans (hb.mono h.b.size), fun x hx => by
  by_cases e : x = k
  · subst e; exact hg
  · exact h.good x (by omega), h.ap⟩
theorem acheck_any (B : Nat) (T : List NodeD) (hfit : FitT T) (hlen : T.length ≤ 262144) (a : Option Addr) (c : Nat) (w : World) (he : TzF w) (h3 : 3 ≤ B) (hB : B ≤ w.heap.size) (hT : TreeAt B w a T) :
    Calls Tryz.prog 182 #[.agg #[.slice a T.length c]] w fun r w' => r = .returned (.int .i64 (errD T)) ∧ Below w.heap.size w w' := by
 have hb := (Below.refl w.heap.size w).alloc (Nat.le_refl _) (.cells #[.slice a T.length c] 44)
 have hbox := rAl (w := w) #[.slice a T.length c] 44 (0, 0)
 have Hb := hQ hb; clear hb
 have Hbox := hQ hbox; clear hbox
 have hs : w.heap.size < (w.alloc (.cells #[.slice a T.length c] 44)).heap.size := by simp
 have Hs := hQ hs; clear hs
 have HT := hQ hT; clear hT
 have He := hQ he; clear he
 have Hfit := hQ hfit; clear hfit
 by_cases h0 : T.length = 0
 · have Hok := hQ (errD_ok (T := T) (.inl h0))
   rw [h0]
   clear HT Hbox Hfit He Hs hB h3 hlen
   rw [h0] at Hb
   go_enter Tryz.func182, Tryz.ntmps182
   go_wp2
   go_ret
   exact ⟨by rw [Hok.out]; rfl, Hb.out⟩
 · have hpI : ((T.length : Int) == 0) = false := beq_eq_false_iff_ne.2 (by omega)
   by_cases hlv : lvD T.length = 0
   · have Hbad := hQ (errD_bad (T := T) (fun h => ok_leaves h h0 hlv))
     go_enter Tryz.func182, Tryz.ntmps182
     go_wp2_with fail
     refine (aleaves_any a T.length c hlen _).mono ?_
     rintro e w1 ⟨rfl, hb1⟩
     rw [hlv]
     have Hb1 := hQ (Hb.out.trans (hb1.mono Hb.out.size)); clear hb1
     go_wp2
     go_ret
     exact ⟨by rw [Hbad.out]; rfl, Hb1.out⟩
   · obtain ⟨hn, hTn⟩ := leaves_isN hlv
     obtain ⟨n, hnl⟩ : ∃ n, n = lvD T.length := ⟨_, rfl⟩
     rw [← hnl] at hn hTn hlv
     have Hn := hQ hn
     have HTn := hQ hTn
     have Hnl := hQ hnl
     have hnI : ((n : Int) == 0) = false := beq_eq_false_iff_ne.2 (by omega)
     have hn8 : (n : Int) ≤ 8 := by rcases hn with h | h | h | h <;> omega
     have h15 : T.length ≤ 15 := by rcases hn with h | h | h | h <;> omega
     have h15I : (T.length : Int) ≤ 15 := by omega
     clear hn hTn hnl
     go_enter Tryz.func182, Tryz.ntmps182
     go_wp2_with fail
     refine (aleaves_any a T.length c hlen _).mono ?_
     rintro e w1 ⟨rfl, hb1⟩
     rw [← Hnl.out]
     have hbx := (hb1.block w.heap.size Hs.out).trans Hbox.out
     have Hb1 := hQ (Hb.out.trans (hb1.mono Hb.out.size)); clear hb1
     have hql := (Array.getElem?_eq_some_iff.1 hbx).1
     obtain ⟨q, hq⟩ : ∃ q, q = w.heap.size := ⟨_, rfl⟩
     rw [← hq] at hbx hql ⊢
     have Hq := hQ hq; clear hq
     have hx0 := (cRw hbx 0).trans rfl
     have hmk := run_make_ints w1
     have hst : CkIn T q w1.heap.size a c w 0 (w1.alloc (.map #[] 0)) :=
      ⟨(Below.heap_alloc _ _ _ hql).trans hbx, ⟨_, World.ownsMap_made w1 Tryz.prog 3 (plainElem (H := Unit) Tryz.prog 3), cnt_nil⟩, Hb1.out.alloc Hb1.out.size _, fun x hx => by omega, by have := Hq.out; omega, hql⟩
     have Hst := hQ hst
     have kq : (w1.alloc (.map #[] 0)).cell? ⟨q, 0, none⟩ = some (.slice a T.length c) := (cRw hst.box 0).trans rfl
     clear hst hbx
     go_wp2
     clear hmk hx0
     obtain ⟨mb, hmb⟩ : ∃ mb, mb = w1.heap.size := ⟨_, rfl⟩
     rw [← hmb] at Hst ⊢
     have Hmb := hQ hmb; clear hmb
     generalize w1.alloc (.map #[] 0) = w2 at Hst kq ⊢
     clear kq
     go_loopw [20, 5] (fun i l wr => CkRel T q mb a c w i l wr) (fun i _ _ => T.length - (intOf i).toNat)
     case atStart => exact ⟨0, Nat.zero_le _, rfl, rfl, Hst.out⟩
     case round =>
      obtain ⟨k, hk, rfl, rfl, hin⟩ := hrel
      have Hin := hQ hin
      by_cases hlt : k < T.length
      · obtain ⟨b, o, rfl, hnode⟩ := (HT.out.below (hin.b.mono hB)) k hlt
        obtain ⟨ua, uc, k3, _⟩ := hnode.c3
        have k0 := hnode.c0
        have k1 := hnode.c1
        have k2 := hnode.c2
        have hkI : (k : Int) < T.length := by omega
        have kb := (cRw hin.box 0).trans rfl
        have hqw := (Array.getElem?_eq_some_iff.1 hin.box).1
        have hfk := Hfit.out k hlt
        have hgoodk : goodAt T k ↔ ((k % 2 = 1 ∧ parentD T k = true) ∨ (k % 2 = 0 ∧ (blankD (nodeD T k) = true ∨ (0 < (nodeD T k).pub ∧ 0 ≤ (nodeD T k).mem ∧ 0 ≤ (nodeD T k).ep ∧ (nodeD T k).um.length = 0 ∧ (nodeD T k).mem ∉ memsD T k)))) := Iff.rfl
        have Hgood := hQ hgoodk; clear hgoodk
        by_cases ho : k % 2 = 1
        · have ho1 : (k : Int).tmod 2 = 1 := by rw [Int.tmod_eq_emod_of_nonneg (by omega)]; omega
          have ho2 : (k : Int) % 2 = 1 := by omega
          have hal := (Below.refl wr.heap.size wr).alloc (Nat.le_refl _) (.cells #[.int .i64 (nodeD T k).pub, .int .i64 (nodeD T k).mem, .int .i64 (nodeD T k).ep, .slice ua (nodeD T k).um.length uc] 125)
          have hpar := aparent_T B n k Hn.out T HTn.out hlt ho (Hfit.out k hlt).2.2.2 (some ⟨b, o, none⟩) c _ ((He.out.below hin.b (Nat.le_trans h3 hB)).below hal (Nat.le_trans (Nat.le_trans h3 hB) hin.b.size)) h3 (Nat.le_trans (Nat.le_trans hB hin.b.size) hal.size) ((HT.out.below (hin.b.mono hB)).below (hal.mono (Nat.le_trans hB hin.b.size)))
          have Hpar := hQ hpar; clear hpar
          have Hal := hQ hal; clear hal
          clear hin hnode hfk
          generalize (nodeD T k).pub = p at k0 Hpar Hal
          generalize (nodeD T k).mem = m at k1 Hpar Hal
          generalize (nodeD T k).ep = ee at k2 Hpar Hal
          generalize (nodeD T k).um.length = ul at k3 Hpar Hal
          go_wp2_with fail
          refine Hpar.out.mono ?_
          rintro r w3 ⟨rfl, hb3⟩
          have hb4 := Hal.out.trans (hb3.mono Hal.out.size)
          clear hb3 Hal Hpar kb
          have Hb4 := hQ hb4; clear hb4 k0 k1 k2 k3
          cases hp : parentD T k with
          | false =>
           have Hbad := hQ (not_ok_at hlt (fun h => by
            rcases Hgood.out.1 h with ⟨_, h⟩ | ⟨h, _⟩
            · rw [hp] at h; cases h
            · omega))
           clear hp
           go_wp2
           go_ret
           exact ⟨by rw [Hbad.out]; rfl, Hin.out.b.trans (Hb4.out.mono Hin.out.b.size)⟩
          | true =>
           have hsk := mems_skip (T := T) (k := k) (by omega)
           have hg := Hgood.out.2 (.inl ⟨ho, hp⟩)
           have Hnx := hQ (Hin.out.new Hb4.out rfl hsk.1 hg)
           have Hl := hQ hsk.2
           clear hsk hg hp
           go_wp2
           exact ⟨⟨k + 1, by omega, by go_num, by rw [Hl.out], Hnx.out⟩, by simp [intOf]; omega⟩
        · have ho0 : k % 2 = 0 := by omega
          have ho1 : ¬ (k : Int).tmod 2 = 1 := by rw [Int.tmod_eq_emod_of_nonneg (by omega)]; omega
          have ho2 : ¬ (k : Int) % 2 = 1 := by omega
          have ho3 : (k : Int).tmod 2 = 0 := by rw [Int.tmod_eq_emod_of_nonneg (by omega)]; omega
          have ho4 : (k : Int) % 2 = 0 := by omega
          have hal := (Below.refl wr.heap.size wr).alloc (Nat.le_refl _) (.cells #[.int .i64 (nodeD T k).pub, .int .i64 (nodeD T k).mem, .int .i64 (nodeD T k).ep, .slice ua (nodeD T k).um.length uc] 125)
          have hndw := rAl (w := wr) #[.int .i64 (nodeD T k).pub, .int .i64 (nodeD T k).mem, .int .i64 (nodeD T k).ep, .slice ua (nodeD T k).um.length uc] 125 (0, 0)
          have hblk : blankD (nodeD T k) = (decide ((nodeD T k).pub = 0) && decide ((nodeD T k).mem = 0) && decide ((nodeD T k).ep = 0) && decide ((nodeD T k).um.length = 0)) := rfl
          obtain ⟨D, hD, hTab⟩ := hin.map
          have hmt := mems_take (T := T) (k := k)
          have hms := mems_skip (T := T) (k := k)
          have hcnt := hTab.cnt (nodeD T k).mem
          have hput := hTab.put (nodeD T k).mem
          have hcl : (memsD T k).count (nodeD T k).mem ≤ 15 := Nat.le_trans List.count_le_length (Nat.le_trans (memsD_len T k) (by omega))
          have hcm : 0 < (memsD T k).count (nodeD T k).mem ↔ (nodeD T k).mem ∈ memsD T k := List.count_pos_iff
          clear hnode
          obtain ⟨bd, hbd⟩ : ∃ bd, bd = blankD (nodeD T k) := ⟨_, rfl⟩
          rw [← hbd] at hblk hmt hms Hgood
          generalize (nodeD T k).pub = p at k0 hal hndw hblk Hgood hfk
          generalize (nodeD T k).mem = m at k1 hal hndw hblk Hgood hfk hcnt hput hcl hcm hmt
          generalize (nodeD T k).ep = ee at k2 hal hndw hblk Hgood hfk
          generalize (nodeD T k).um.length = ul at k3 hal hndw hblk Hgood hfk
          generalize (memsD T k).count m = cn at hcnt hput hcl hcm
          have Hal := hQ hal; clear hal
          have Hndw := hQ hndw; clear hndw
          have Hblk := hQ hblk; clear hblk
          have Hmt := hQ hmt; clear hmt
          have Hms := hQ hms; clear hms
          have HD := hQ hD; clear hD
          have Hcnt := hQ hcnt; clear hcnt
          have Hput := hQ hput; clear hput
          have Hcm := hQ hcm
          have HisM := hQ hTab.isMap; clear hcm hTab
          have Hfk := hQ hfk; clear hfk hbd hin
          go_wp2_with fail
          refine (ablank_any p m ee ua ul uc _).mono ?_
          rintro r w3 ⟨rfl, hb3⟩
          rw [← Hblk.out]
          have hnd := (hb3.block wr.heap.size (by simp)).trans Hndw.out
          have hb4 := Hal.out.trans (hb3.mono Hal.out.size)
          clear hb3 Hal Hndw kb k0 k1 k2 k3
          have Hb4 := hQ hb4; clear hb4
          cases bd with
          | true =>
           have hsk := Hms.out (by simp)
           have hg := Hgood.out.2 (.inr ⟨ho0, .inl rfl⟩)
           have Hnx := hQ (Hin.out.new Hb4.out rfl hsk.1 hg)
           have Hl := hQ hsk.2
           clear hsk hg hnd
           go_wp2
           exact ⟨⟨k + 1, by omega, by go_num, by rw [Hl.out], Hnx.out⟩, by simp [intOf]; omega⟩
          | false =>
           obtain ⟨hmem, hlast⟩ := Hmt.out ⟨ho0, rfl⟩
           have Hmem := hQ hmem; clear hmem
           have Hlast := hQ hlast; clear hlast
           have hmbl : mb < wr.heap.size := World.ownsMap.lt HD.out
           have hD3 := HD.out.below Hb4.out hmbl
           obtain ⟨nd, hnde⟩ : ∃ nd, nd = wr.heap.size := ⟨_, rfl⟩
           rw [← hnde] at hnd hmbl ⊢
           have n0 := (cRw hnd 0).trans rfl
           have n1 := (cRw hnd 1).trans rfl
           have n2 := (cRw hnd 2).trans rfl
           have n3 := (cRw hnd 3).trans rfl
           have Hnd := hQ hnd; clear hnd
           have Hne := hQ (show nd ≠ mb by omega); clear hnde
           have HD3 := hQ hD3; clear hD3 hmbl
           have hcnI : (cn : Int) ≤ 15 := by omega
           have Hmk := hQ Hfk.out.2.1
           have Hml := hQ (show (memsD T k).length < maxLen from by have := memsD_len T k; unfold maxLen; omega)
           have hcase : p < 1 ∨ (¬ p < 1 ∧ m < 0) ∨ (¬ p < 1 ∧ ¬ m < 0 ∧ ee < 0) ∨ (¬ p < 1 ∧ ¬ m < 0 ∧ ¬ ee < 0 ∧ 0 < (ul : Int)) ∨ (¬ p < 1 ∧ ¬ m < 0 ∧ ¬ ee < 0 ∧ ul = 0 ∧ 1 < (cn : Int) + 1) ∨ (¬ p < 1 ∧ ¬ m < 0 ∧ ¬ ee < 0 ∧ ul = 0 ∧ ¬ 1 < (cn : Int) + 1) := by omega
           have hbadw : ∀ w5, Below w.heap.size w w5 → (p < 1 ∨ m < 0 ∨ ee < 0 ∨ 0 < (ul : Int) ∨ 0 < cn) → (Ending.returned (.int .i64 1) = .returned (.int .i64 (errD T))) ∧ Below w.heap.size w w5 := fun w5 h5 hc => by
            refine ⟨?_, h5⟩
            rw [not_ok_at hlt]
            intro hg
            rcases Hgood.out.1 hg with ⟨h, _⟩ | ⟨_, h | ⟨a1, a2, a3, a4, a5⟩⟩
            · omega
            · cases h
            · rcases hc with h | h | h | h | h
              · omega
              · omega
              · omega
              · omega
              · exact a5 (Hcm.out.1 h)
           have Hbadw := hQ hbadw; clear hbadw
           have hgrowB : ∀ w5, w3.grownBy w5 (some mb) → Below w.heap.size w w5 := fun w5 hg => (Hin.out.b.trans (Hb4.out.mono Hin.out.b.size)).grown hg (by have := Hin.out.b.size; have := Hb4.out.size; omega) (fun j e => by have := Hin.out.ap; injection e with e; omega)
           have HgB := hQ hgrowB; clear hgrowB
           rcases hcase with h | ⟨a1, h⟩ | ⟨a1, a2, h⟩ | ⟨a1, a2, a3, h⟩ | ⟨a1, a2, a3, rfl, h⟩ | ⟨a1, a2, a3, rfl, h⟩
           all_goals
            have Hh := hQ h
            go_wp2_with (first
             | (at_lookup; refine wpList_look_cnt rfl (.tmp 34) (.tmp 36) rfl rfl m rfl HD3.out Hmk.out _ Hcnt.out ?_)
             | (at_mapUpdate; refine wpList_mapUpdate_own _ rfl (.tmp 34) (.tmp 36) (.tmp 38) 173 rfl 3 3 keyedI Tryz.underlying173 (plainElem Tryz.prog 3) mb (memsD T k).length D rfl HD3.out Hml.out (.int .i64 m) (.int .i64 _) (.int .i64 m) rfl rfl (key_int Hmk.out) (.lit (.int .i64 _)) [] (plainElem_int (H := Unit) Tryz.underlying3 (q := .i64) (WalkArith.wf_i64 (by omega))) ?_; intro w5 hmap5 hgrow5; have hnd5 := (hgrow5.block nd (Array.getElem?_eq_some_iff.1 Hnd.out).1 (fun e => Hne.out (by injection e))).trans Hnd.out; clear n0 n1 n2 n3; have n0 := (cRw hnd5 0).trans rfl; have n1 := (cRw hnd5 1).trans rfl; have n2 := (cRw hnd5 2).trans rfl; have n3 := (cRw hnd5 3).trans rfl; clear hnd5; have hlk := look_cnt hmap5 m _ Hmk.out (Maps.atKey_put_same HisM.out (lit_key _) _ _); have Hmap5 := hQ hmap5; clear hmap5; have Hgrow5 := hQ hgrow5; clear hgrow5))
           · go_ret
             have hfin := Hbadw.out w5 (HgB.out _ Hgrow5.out) (.inl Hh.out)
             exact ⟨hfin.1, hfin.2⟩
           · go_ret
             have hfin := Hbadw.out w5 (HgB.out _ Hgrow5.out) (.inr (.inl Hh.out))
             exact ⟨hfin.1, hfin.2⟩
           · go_ret
             have hfin := Hbadw.out w5 (HgB.out _ Hgrow5.out) (.inr (.inr (.inl Hh.out)))
             exact ⟨hfin.1, hfin.2⟩
           · go_ret
             have hfin := Hbadw.out w5 (HgB.out _ Hgrow5.out) (.inr (.inr (.inr (.inl Hh.out))))
             exact ⟨hfin.1, hfin.2⟩
           · go_ret
             have hfin := Hbadw.out w5 (HgB.out _ Hgrow5.out) (.inr (.inr (.inr (.inr (by have := Hh.out; omega)))))
             exact ⟨hfin.1, hfin.2⟩
           · have hcn0 : cn = 0 := by have := Hh.out; omega
             have hbox5 : w5.heap[q]? = some (.cells #[.slice (some ⟨b, o, none⟩) T.length c] 44 (0, 0)) :=
              (Hgrow5.out.block q (Nat.lt_of_lt_of_le hqw Hb4.out.size) (fun e => by have := Hin.out.ap.2; injection e with e; omega)).trans ((Hb4.out.block q hqw).trans Hin.out.box)
             have hnot : m ∉ memsD T k := fun hm => by have := Hcm.out.2 hm; omega
             have hgk := Hgood.out.2 (.inr ⟨ho0, .inr ⟨by omega, by omega, by omega, by simp, hnot⟩⟩)
             have hnext : CkIn T q mb (some ⟨b, o, none⟩) c w (k + 1) w5 :=
              ⟨hbox5, ⟨_, by rw [Hmem.out]; exact Hmap5.out, by rw [Hmem.out]; exact Hput.out⟩, HgB.out _ Hgrow5.out, fun x hx => by
               by_cases e : x = k
               · subst e; exact hgk
               · exact Hin.out.good x (by omega), Hin.out.ap⟩
             exact ⟨⟨k + 1, by omega, by go_num, by rw [Hlast.out]; first | rfl | (congr 1; omega) | (simp; omega), hnext⟩, by simp [intOf]; omega⟩
      · obtain rfl : k = T.length := by omega
        have hokk : OkT' T ↔ ((lvD T.length / 2 : Nat) : Int) ≤ lastD T T.length := by
         constructor
         · rintro (h | ⟨_, _, h⟩)
           · exact absurd h h0
           · exact h
         · exact fun h => .inr ⟨by rw [← Hnl.out]; exact hlv, hin.good, h⟩
        rw [← Hnl.out] at hokk
        have Hokk := hQ hokk
        have hq1 : (n : Int).tdiv 2 = ((n / 2 : Nat) : Int) := by rw [Int.tdiv_eq_ediv_of_nonneg (by omega)]; omega
        have hq2 : (n : Int) / 2 = ((n / 2 : Nat) : Int) := by omega
        generalize lastD T T.length = lv at Hokk ⊢
        generalize n / 2 = m2 at Hokk hq1 hq2
        have Hb5 := hQ hin.b
        clear hin hokk
        by_cases hl : lv < (m2 : Int)
        · have Hbad := hQ (errD_bad (T := T) (fun h => by have := Hokk.out.1 h; omega))
          go_wp2
          go_ret
          exact ⟨by rw [Hbad.out]; rfl, Hb5.out⟩
        · have Hgd := hQ (errD_ok (T := T) (Hokk.out.2 (by omega)))
          go_wp2
          go_ret
          exact ⟨by rw [Hgd.out]; rfl, Hb5.out⟩
end
section
open Go Go.RowKit Go.Lib Go.Sort Go.Shelf
theorem flat2 (l : List KeyP) (i j : Nat) (hi : i < l.length) (hj : j < 2) : (l.flatMap keyV)[i * 2 + j]? = (keyV (l.getD i (0, 0)))[j]? := by
 induction l generalizing i with
 | nil => simp at hi
 | cons x r ih =>
  cases i with
  | zero => rw [List.flatMap_cons, List.getElem?_append_left (by simp [keyV]; omega)]; simp
  | succ i =>
   rw [List.flatMap_cons, List.getElem?_append_right (by simp [keyV]; omega), show (i + 1) * 2 + j - (keyV x).length = i * 2 + j by simp [keyV]; omega, ih i (by simpa using hi)]
   simp
theorem flat2_len (l : List KeyP) : (l.flatMap keyV).length = l.length * 2 := by
 induction l with
 | nil => rfl
 | cons x r ih => rw [List.flatMap_cons, List.length_append, ih]; simp [keyV]; omega
theorem flatK_keys (l : List KeyP) : flatK keyV 2 l.toArray = (l.flatMap keyV).toArray := by
 apply Array.toList_inj.1
 apply List.ext_getElem?
 intro t
 have hsz : (flatK keyV 2 l.toArray).toList.length = l.length * 2 := by simp
 by_cases ht : t < l.length * 2
 · have h1 : t / 2 < l.length := by omega
   have h2 : t % 2 < 2 := by omega
   have h3 := flat2 l (t / 2) (t % 2) h1 h2
   rw [show t / 2 * 2 + t % 2 = t by omega] at h3
   rw [show ((l.flatMap keyV).toArray).toList = l.flatMap keyV from rfl, h3]
   have h4 := get_flatK keyV 2 l.toArray t (by simpa using ht)
   rw [Array.getElem?_toList, Array.getElem?_eq_getElem (by simpa using ht)]
   rw [getElem!_pos (flatK keyV 2 l.toArray) t (by simpa using ht)] at h4
   rw [h4]
   rcases (by omega : t % 2 = 0 ∨ t % 2 = 1) with e | e <;> simp [e, keyV, h1]
 · rw [List.getElem?_eq_none (by omega), show ((l.flatMap keyV).toArray).toList = l.flatMap keyV from rfl, List.getElem?_eq_none (by rw [flat2_len]; omega)]
theorem holdsK_keys {w : World} {g : Nat} {cur : Array Value} {e : TypeId} {l : List KeyP} (hb : w.heap[g]? = some (.cells cur e (0, 0))) (ht : cur.toList.take (l.length * 2) = l.flatMap keyV) : HoldsK keyV 2 w g 0 l.toArray := by
 unfold HoldsK
 rw [flatK_keys]
 intro j hj
 have hj' : j < l.length * 2 := by rw [List.size_toArray, flat2_len] at hj; exact hj
 refine ⟨?_, by simp [World.frozen?, hb]⟩
 have h1 : (cur.toList.take (l.length * 2))[j]? = (l.flatMap keyV)[j]? := by rw [ht]
 rw [List.getElem?_take_of_lt hj'] at h1
 rw [Nat.zero_add, cRw hb, ← Array.getElem?_toList, h1, List.getElem?_eq_getElem (by rw [flat2_len]; exact hj')]
 rw [getElem!_pos _ j hj]
 rfl
theorem rise_lt (x y : KeyP) : ltOf (fun x y : KeyP => Lib.compareInt x.1 y.1) x y = decide (x.1 < y.1) := by
 unfold ltOf Lib.compareInt
 by_cases h1 : x.1 < y.1
 · simp [h1]
 · by_cases h2 : y.1 < x.1 <;> simp [h1, h2]
theorem rise_swo : SWO (ltOf fun x y : KeyP => Lib.compareInt x.1 y.1) where
 irrefl x := by rw [rise_lt]; simp
 trans x y z h1 h2 := by rw [rise_lt] at *; simp at *; omega
 ntrans x y z h1 h2 := by rw [rise_lt] at *; simp at *; omega
theorem rise_fn (x y : KeyP) (W : World) : Calls Tryz.prog 189 #[.agg #[.int .i64 x.1, .int .i64 x.2], .agg #[.int .i64 y.1, .int .i64 y.2]] W fun e w' => e = .returned (.int .i64 (Lib.compareInt x.1 y.1)) ∧ ∃ q os', w' = grow (W.drewN q) os' := by
 have hcon := fun W' => AnyG.cmp_Compare_int Tryz.cmpInt x.1 y.1 W'
 change ∀ W', Calls Tryz.prog 190 _ _ _ at hcon
 generalize Lib.compareInt x.1 y.1 = r at hcon ⊢
 go_enter Tryz.func189, Tryz.ntmps189
 go_wp2_with (go_at_call 190; refine (hcon _).mono ?_; rintro e w' ⟨rfl, rfl⟩)
 go_ret
 exact ⟨rfl, 0, _, by rw [alloc_eq_grow, alloc_eq_grow, grow_grow]; rfl⟩
def SortPost (out : List KeyP) (B g cap : Nat) (w : World) (e : Ending) (w' : World) : Prop :=
 e = .returned (.tuple #[]) ∧ ∃ d : List KeyP, d.Perm out ∧ d.Pairwise (fun a b => ¬ b.1 < a.1) ∧ w'.ownsRow B 123 2 (.slice (some ⟨g, 0, none⟩) d.length cap) d.length (d.flatMap keyV) ∧ w.grownBy w' (some g)
theorem sort_any (out : List KeyP) (B g cap : Nat) (hn : out.length ≤ 2000000) (w : World) (h : w.ownsRow B 123 2 (.slice (some ⟨g, 0, none⟩) out.length cap) out.length (out.flatMap keyV)) :
    Calls Tryz.prog 188 #[.slice (some ⟨g, 0, none⟩) out.length cap, .func (.func 189) #[] #[]] w (SortPost out B g cap w) := by
 rcases h.2 with ⟨e, _⟩ | ⟨g', cap', cur, e, hB, hb, h1, h2, h3, h4⟩
 · simp at e
 · obtain ⟨rfl, _, rfl⟩ : g = g' ∧ out.length = out.length ∧ cap = cap' := by simpa using e
   have hgl : g < w.heap.size := (Array.getElem?_eq_some_iff.1 hb).1
   have eg : ∀ args w, (callFunc 189 args).run Tryz.prog w = .ok (.enter 189 args) w := enters_of Tryz.func189 (by kernel_rfl) rfl
   have hcmp : CmpLays Tryz.prog 189 #[] keyV 2 (fun x y => Lib.compareInt x.1 y.1) g 0 out.toArray.size w := fun _ _ _ _ x y => rise_fn x y _
   have hcon := AnyQ.slices_SortFunc Tryz.sortKeys 2 Tryz.isAgg123 Tryz.sizeOf123 keyV (fun _ => rfl) (fun x v hv => by simp [keyV] at hv; rcases hv with rfl | rfl <;> rfl) (fun x y => Lib.compareInt x.1 y.1) rise_swo 189 #[] g 0 cap out.toArray w eg hcmp (holdsK_keys hb h4) hgl (by simp; omega)
   change Calls Tryz.prog 188 _ _ _ at hcon
   rw [show out.toArray.size = out.length from by simp] at hcon
   refine hcon.mono ?_
   rintro e w' ⟨rfl, d', n, os, hp, hs, rfl⟩
   obtain ⟨d, rfl⟩ : ∃ d : List KeyP, d' = d.toArray := ⟨d'.toList, by simp⟩
   have hdl : d.length = out.length := by have := hp.1; simpa using this
   refine ⟨rfl, d, ?_, ?_, ?_, ?_⟩
   · have := hp.2.2
     rw [← hdl] at this
     rw [hdl] at this
     simpa [List.take_of_length_le (Nat.le_of_eq hdl)] using this
   · rw [List.pairwise_iff_getElem]
     intro i j hi hj hij
     have := hs i j (Nat.zero_le _) hij (by omega)
     rw [rise_lt] at this
     simpa [hi, hj] using this
   · refine ⟨by rw [flat2_len], .inr ⟨g, cap, putCells id 0 (flatK keyV 2 d.toArray) cur, rfl, hB, ?_, by omega, h2, by simp [putCells, h3], ?_⟩⟩
     · unfold sortWorldK putRowK
       rw [heap_grow_old _ _ (by simpa using hgl)]
       simp [putRow, mapBlock, Sort.ahead, Array.getElem?_modify, hb, onCells]
     · rw [flatK_keys]
       apply List.ext_getElem?
       intro j
       by_cases hj : j < d.length * 2
       · rw [List.getElem?_take_of_lt hj, Array.getElem?_toList]
         have hc : j < cur.size := by rw [h3]; omega
         have hf : j < (d.flatMap keyV).length := by rw [flat2_len]; exact hj
         have hs2 : (d.flatMap keyV).toArray.size = d.length * 2 := by rw [List.size_toArray, flat2_len]
         unfold putCells
         rw [Array.getElem?_mapIdx, Array.getElem?_eq_getElem hc, List.getElem?_eq_getElem hf]
         simp only [Option.map_some, Nat.zero_le, true_and, Nat.zero_add, hs2, if_pos hj, Nat.sub_zero, id]
         rw [getElem!_pos _ j (by rw [hs2]; exact hj)]
         rfl
       · rw [List.getElem?_take_eq_none (by omega), List.getElem?_eq_none (by rw [flat2_len]; omega)]
   · refine ⟨rfl, rfl, rfl, by simp [sortWorldK, putRowK], fun k hk hne => ?_⟩
     unfold sortWorldK putRowK
     rw [heap_grow_old _ _ (by simpa using hk)]
     have : g ≠ k := fun e => hne (by rw [e])
     simp [putRow, mapBlock, Sort.ahead, Array.getElem?_modify, this]
end
section
open Go Go.RowKit Go.Lib Go.Sort
def RisPost (l : List KeyP) (w : World) (e : Ending) (w' : World) : Prop :=
 ∃ v, e = .returned v ∧ OwnK v (rsD l) w' ∧ (∀ g, v.ownBlock = some g → w.heap.size ≤ g) ∧ Below w.heap.size w w'
theorem keyV_cells (w : World) (k : KeyP) (t : TypeId) : ∀ j u, (keyV k)[j]? = some u → (w.alloc (.cells #[.int .i64 k.1, .int .i64 k.2] t)).cell? ((⟨w.heap.size, 0, none⟩ : Addr).add j) = some u := by
 intro j u hj
 have ha : (⟨w.heap.size, 0, none⟩ : Addr).add j = ⟨w.heap.size, j, none⟩ := by unfold Addr.add; split <;> simp_all
 rw [ha, cRw (rAl _ _ _)]
 rw [show (#[.int .i64 k.1, .int .i64 k.2] : Array Value) = (keyV k).toArray from rfl, List.getElem?_toArray]
 exact hj
theorem ownsRow_base {w : World} {B B' : Nat} {e : TypeId} {s : Nat} {v : Value} {n : Nat} {xs : List Value} (h : w.ownsRow B e s v n xs) (hB : B' ≤ B) : w.ownsRow B' e s v n xs := by
 refine ⟨h.1, ?_⟩
 rcases h.2 with h0 | ⟨g, cap, cur, e, hb, rest⟩
 · exact .inl h0
 · exact .inr ⟨g, cap, cur, e, Nat.le_trans hB hb, rest⟩
theorem risingD_ne {l : List KeyP} (h : l ≠ []) : rsD l ≠ [] := by
 rcases List.eq_nil_or_concat l with e | ⟨m, k, rfl⟩
 · exact absurd e h
 · rw [List.concat_eq_append, risingD_snoc]
   intro e
   have h2 := (mem_putD (rsD m) k (rising_risingD m) k).2 (.inl rfl)
   rw [e] at h2
   simp at h2
theorem col_ne {l out : List KeyP} {left : Lit → Bool} (h : l ≠ []) (hC : ColK l left out) (hz : ∀ kl, left kl = false) : out ≠ [] := by
 intro e
 obtain ⟨p, hp⟩ := List.exists_mem_of_ne_nil _ (risingD_ne h)
 have := (hC.2 p).2 ⟨hp, hz _⟩
 rw [e] at this
 simp at this
theorem rising_any (a : Option Addr) (c : Nat) (l : List KeyP) (hl0 : l ≠ []) (hl : l.length ≤ 1000000) (hok : ∀ k ∈ l, i64ok k.1 ∧ i64ok k.2) (w : World) (h : KeysAt w a l) :
    Calls Tryz.prog 49 #[.slice a l.length c] w (RisPost l w) := by
 obtain ⟨i0, hi0, hz0, hz1, hz2⟩ := info_parts infoKey
 have hmk := run_make_ints w
 have hmap : IMap (w.alloc (.map #[] 0)) w.heap.size 0 (.map []) := World.ownsMap_made w Tryz.prog 3 (plainElem (H := Unit) Tryz.prog 3)
 have hst : RisIn l w w.heap.size 0 (w.alloc (.map #[] 0)) := ⟨_, hmap, by rw [List.take_zero]; exact ktab_nil, (Below.refl _ _).alloc (Nat.le_refl _) _, by simp⟩
 have Hst := hQ hst; clear hst hmap
 have H := hQ h; clear h
 have Hok := hQ hok; clear hok
 have Hl0 := hQ hl0; clear hl0
 have Hl := hQ hl
 have hlI : (l.length : Int) ≤ 1000000 := by omega
 clear hl
 go_enter Tryz.func49, Tryz.ntmps49
 go_wp2
 clear hmk
 obtain ⟨mb, hmb⟩ : ∃ mb, mb = w.heap.size := ⟨_, rfl⟩
 rw [← hmb] at Hst ⊢
 have Hmb := hQ hmb; clear hmb
 go_loopw [12] (fun i wr => RisRel l w mb i wr) (fun i _ => l.length - (intOf i).toNat)
 case atStart => exact ⟨0, Nat.zero_le _, rfl, Hst.out⟩
 case round =>
  obtain ⟨k, hk, rfl, D, hmap, hT, hb, hmbl⟩ := hrel
  by_cases hlt : k < l.length
  · obtain ⟨b, o, rfl, c0, c1⟩ := H.out.below hb (by omega) k hlt
    have hmem : l.getD k (0, 0) ∈ l := by rw [List.getD_eq_getElem?_getD, List.getElem?_eq_getElem hlt]; exact List.getElem_mem _
    have hkk : l.take (k + 1) = l.take k ++ [l.getD k (0, 0)] := by rw [List.take_add_one, List.getD_eq_getElem?_getD, List.getElem?_eq_getElem hlt]; rfl
    have hx := Hok.out _ hmem
    generalize l.getD k (0, 0) = kp at c0 c1 hx hkk
    obtain ⟨x, s⟩ := kp
    simp only at c0 c1 hx
    have hkl : (k : Int) < l.length := by omega
    have Hb := hQ (hb.alloc hb.size (.cells #[.int .i64 x, .int .i64 s] 123)); clear hb
    have Hmap := hQ (hmap.alloc (.cells #[.int .i64 x, .int .i64 s] 123)); clear hmap
    have HT := hQ hT; clear hT
    have Hx := hQ hx; clear hx
    have Hkk := hQ hkk; clear hkk
    have Hml := hQ hmbl; clear hmbl hmem
    have Hk := hQ hlt
    go_wp2_with (at_mapUpdate; refine wpList_mapUpdate_own _ rfl (.tmp 16) (.tmp 18) (.tmp 20) 173 rfl 3 3 keyedI Tryz.underlying173 (plainElem Tryz.prog 3) mb k D rfl Hmap.out (by have := Hl.out; have := Hk.out; unfold maxLen; omega) (.int .i64 x) (.int .i64 s) (.int .i64 x) rfl rfl (key_int Hx.out.1) (.lit (.int .i64 s)) [] (plainElem_int (H := Unit) Tryz.underlying3 (q := .i64) (a := s) (WalkArith.wf_i64 Hx.out.2)) ?_; intro w5 hmap5 hgrow5; have Hmap5 := hQ hmap5; have Hgrow5 := hQ hgrow5; clear hmap5 hgrow5)
    have hb5 := Hb.out.grown Hgrow5.out Hb.out.size (fun j hj => by have := Hmb.out; have : j = mb := by injection hj with h; exact h.symm
                                                                    omega)
    have hT5 := HT.out.put (x, s)
    rw [← Hkk.out] at hT5
    refine ⟨⟨k + 1, by omega, by go_num, _, Hmap5.out, hT5, hb5, ?_⟩, by simp [intOf]; omega⟩
    have h1 := Hgrow5.out.size
    have h2 := Hml.out
    simp at h1
    omega
  · obtain rfl : k = l.length := by omega
    rw [List.take_length] at hT
    have Hb := hQ hb; clear hb
    have Hmap := hQ hmap; clear hmap
    have HT := hQ hT; clear hT
    have Hml := hQ hmbl; clear hmbl
    have hsz : Maps.size D ≤ l.length := Hmap.out.size_le
    have Hsz := hQ hsz; clear hsz
    go_wp2_with (at_range; refine wpList_range_own _ rfl (.tmp 22) 173 rfl 3 3 keyedI Tryz.underlying173 (plainElem Tryz.prog 3) mb l.length D rfl Hmap.out ?_; intro w0 hrg0 hg0 hs0)
    have Hrg0 := hQ hrg0; clear hrg0
    have Hg0 := hQ hg0; clear hg0
    have Hs0 := hQ hs0; clear hs0
    obtain ⟨r, hr⟩ : ∃ r, r = wr.heap.size := ⟨_, rfl⟩
    rw [← hr] at Hrg0 Hs0 ⊢
    have Hr := hQ hr; clear hr
    go_frame
    go_loopw [6] (fun v w2 => RngRel l D w mb r l.length (r + 1) v w2) (fun _ w2 => w2.rangeLeft mb r)
    case atStart =>
     exact ⟨_, _, [], Hrg0.out, by simp, World.ownsRow_nil _ _ _ _, colK_start HT.out, fun z hz => by rw [← HT.out.has z]; exact hz, Hb.out.grown Hg0.out Hb.out.size (fun j hj => by cases hj)⟩
    case round =>
     obtain ⟨left, cnt, out, hrg, hcs, hrow, hC, hL, hnx⟩ := hrel
     have Hrow := hQ hrow; clear hrow
     have HC := hQ hC; clear hC
     have HL := hQ hL; clear hL
     have Hnx := hQ hnx; clear hnx
     have Hcs := hQ hcs; clear hcs
     have Hrg := hQ hrg; clear hrg
     go_wp2_with (at_next; refine wpList_next_ranges_ii _ rfl (.tmp 23) rfl 3 3 .i64 .i64 keyedI Tryz.underlying3 Tryz.underlying3 mb r l.length D left cnt rfl Hrg.out ?_ ?_)
     · intro hc0 hlz
       have hne := col_ne Hl0.out HC.out hlz
       have hCf : ColK l (fun _ => false) out := by
        have : left = fun _ => false := funext hlz
        rw [← this]; exact HC.out
       have HCf := hQ hCf; clear hCf
       obtain ⟨g, cap, rfl, hgr⟩ : ∃ g cap, u6 = Value.slice (some ⟨g, 0, none⟩) out.length cap ∧ r + 1 ≤ g := by
        rcases Hrow.out.2 with ⟨_, e⟩ | ⟨g, cap, cur, e, hB, _⟩
        · exact absurd (List.length_eq_zero_iff.1 e) hne
        · exact ⟨g, cap, e, hB⟩
       have hsort := sort_any out (r + 1) g cap (by have := Hl.out; have := Hsz.out; have := Hcs.out; omega) wr Hrow.out
       have Hsort := hQ hsort; clear hsort hne hlz hc0
       have Hgr := hQ hgr; clear hgr
       go_wp2_with (go_at_call 188; refine Hsort.out.mono ?_; rintro e w' ⟨rfl, d, hp, hs, hown, hgrow⟩; have Hp := hQ hp; have Hs := hQ hs; have Hown := hQ hown; have Hgrow := hQ hgrow; clear hp hs hown hgrow)
       go_ret
       have hd := sorted_is HCf.out Hp.out (Hs.out.imp (fun {a b} h => by omega))
       have hdl := Hp.out.length_eq
       have hrb : w.heap.size ≤ r + 1 := by have := Hb.out.size; have := Hr.out; omega
       refine ⟨_, rfl, ?_, fun g' hg' => ?_, Hnx.out.grown Hgrow.out Hnx.out.size (fun j hj => ?_)⟩
       · have h9 := ownsRow_base Hown.out (Nat.zero_le (r + 1))
         rw [hdl] at h9
         rw [hd] at h9 hdl
         unfold OwnK
         rw [hdl]
         exact h9
       · have : g = g' := by simpa [Value.ownBlock] using hg'
         have := Hgr.out
         omega
       · have : j = g := by injection hj with h; exact h.symm
         have := Hgr.out
         omega
     · intro x s w2 cnt2 hwx hws hlx hat hrg2 hlt hg2 hs2 hen
       have hrow2 := Hrow.out.kept hg2 (Or.inr (row_ne_low Hrow.out (Nat.lt_succ_self r)).symm)
       have Hrow2 := hQ hrow2; clear hrow2
       have Hrg2 := hQ hrg2; clear hrg2
       have Hat := hQ hat; clear hat
       have Hlx := hQ hlx; clear hlx
       have Hlt := hQ hlt; clear hlt
       have Hg2 := hQ hg2; clear hg2
       clear hs2 hwx hws
       have hr2 : r + 1 ≤ w2.heap.size := Hrg2.out.lt
       have Hr2 := hQ hr2; clear hr2
       have hol : out.length + 1 ≤ 1000000 := by have := Hl.out; have := Hsz.out; have := Hcs.out; have := Hlt.out; omega
       have Hol := hQ hol; clear hol
       go_wp2_with (at_builtin; refine wpList_append_lies _ rfl (.tmp 29) (.tmp 33) 47 rfl (r + 1) 123 i0 (.agg #[.int .i64 0, .int .i64 0]) 2 16 Tryz.underlying47 hi0 hz0 hz1 hz2 rfl (by decide) u6 out.length (out.flatMap keyV) rfl (Hrow2.out.alloc _) ⟨w2.heap.size, 0, none⟩ 1 1 (keyV (x, s)) rfl rfl (keyV_cells w2 (x, s) 123) (by intro u hu; simp [keyV] at hu; rcases hu with rfl | rfl <;> rfl) (by omega) (by have := Hol.out; unfold maxLen; omega) (by have := Hol.out; omega) (by have := Hr2.out; simp; omega) (w2.heap.size + 1) (by simp) ?_; intro g5 c5 w5 hown5 hgrow5 hat5 hlt5; have Hown5 := hQ hown5; have Hgrow5 := hQ hgrow5; clear hown5 hgrow5 hat5 hlt5)
       have hbl : mb < r + 1 := by have := Hml.out; have := Hr.out; omega
       have hrg3 := (Hrg2.out.alloc (.cells #[.int .i64 x, .int .i64 s] 123)).kept Hgrow5.out (row_ne_low Hrow2.out hbl) (row_ne_low Hrow2.out (Nat.lt_succ_self r))
       have Hrg3 := hQ hrg3; clear hrg3
       go_roundw
       case rel =>
        have hrb : w.heap.size ≤ r := by have := Hb.out.size; have := Hr.out; omega
        have hb2 := Hnx.out.grown Hg2.out Hnx.out.size (fun j hj => by have : j = r := by injection hj with h; exact h.symm
                                                                       omega)
        have hb3 := (hb2.alloc hb2.size (.cells #[.int .i64 x, .int .i64 s] 123)).grown Hgrow5.out (by have := hb2.size; simp; omega) (fun j hj => by have := (Hrow2.out.lt j hj).1; omega)
        refine ⟨_, cnt2, out ++ [(x, s)], Hrg3.out, by have := Hcs.out; have := Hlt.out; simp; omega, ?_, HC.out.step HT.out HL.out Hlx.out Hat.out, fun z hz => HL.out z (by simp at hz; exact hz.1), hb3⟩
        have h9 := Hown5.out
        rw [List.length_append, List.flatMap_append]
        simpa using h9
       case measure => rw [Hrg3.out.left_eq, Hrg.out.left_eq]; exact Hlt.out
end
end Go.Proofs.YtedpljclnpiggaaGreatDoor
