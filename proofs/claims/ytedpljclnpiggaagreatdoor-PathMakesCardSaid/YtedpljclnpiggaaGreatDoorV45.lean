/- phratrylaw01's Book: held lists of any kind, as data and in memory. -/
import Derived.Test.YtedpljclnpiggaaGreatDoorV21
set_option linter.unusedVariables false
set_option linter.unusedSimpArgs false
set_option maxRecDepth 100000
set_option maxHeartbeats 12800000
namespace Go.Proofs.YtedpljclnpiggaaGreatDoor
section
open Go Go.RowKit
theorem markNode_any (n : Nat) (hn : n ≤ 300000) (w : World) : Calls Tryz.prog 199 #[.int .i64 n] w fun e w' => e = .returned (.agg #[.int .i64 (markI n), .int .i64 0, .int .i64 0, .slice none 0 0]) ∧ Below w.heap.size w w' := by
 have hnI : (n : Int) ≤ 300000 := by omega
 go_enter Tryz.func199, Tryz.ntmps199
 go_wp2
 exact bodyPost_ret (v := .agg #[.int .i64 (markI n), .int .i64 0, .int .i64 0, .slice none 0 0]) (by simp [results, Tryz.results199, go_sem, markI]) rfl ⟨rfl, (Below.refl _ _).alloc (Nat.le_refl _) _⟩
theorem isNode_any (n : Nat) (hn : n ≤ 300000) (m e : Int) (w : World) : Calls Tryz.prog 213 #[.agg #[.int .i64 (markI n), .int .i64 m, .int .i64 e, .slice none 0 0], .int .i64 n] w fun r w' => r = .returned (.bool true) ∧ Below w.heap.size w w' := by
 have hnI : (n : Int) ≤ 300000 := by omega
 have hm : markI n = -1000 - (n : Int) := rfl
 rw [hm]
 go_enter Tryz.func213, Tryz.ntmps213
 go_wp2
 go_ret
 exact ⟨rfl, (Below.refl _ _).alloc (Nat.le_refl _) _⟩
theorem twinNode_any (B : Nat) (d : NodeD) (hl : d.um.length ≤ 262144) (a : Option Addr) (c : Nat) (w : World) (hB : B ≤ w.heap.size) (hN : NumsAt B w a d.um) :
    Calls Tryz.prog 198 #[.agg #[.int .i64 d.pub, .int .i64 d.mem, .int .i64 d.ep, .slice a d.um.length c]] w fun e w' => ∃ g, e = .returned (.agg #[.int .i64 d.pub, .int .i64 d.mem, .int .i64 d.ep, .slice (some ⟨g, 0, none⟩) d.um.length (d.um.length + 2)]) ∧ TwN w' g d.um ∧ w.heap.size ≤ g ∧ Below w.heap.size w w' := by
 obtain ⟨p, m, e, l⟩ := d
 simp only at hl hN ⊢
 have hb0 := (Below.refl w.heap.size w).alloc (Nat.le_refl _) (.cells #[.int .i64 p, .int .i64 m, .int .i64 e, .slice a l.length c] 125)
 have hb := hb0.alloc hb0.size (.cells #[.int .i64 0, .int .i64 0, .int .i64 0, .slice none 0 0] 125)
 have hrow : ((w.alloc (.cells #[.int .i64 p, .int .i64 m, .int .i64 e, .slice a l.length c] 125)).alloc (.cells #[.int .i64 0, .int .i64 0, .int .i64 0, .slice none 0 0] 125)).heap[w.heap.size]? = some (.cells #[.int .i64 p, .int .i64 m, .int .i64 e, .slice a l.length c] 125 (0, 0)) :=
  (heap_alloc_old _ _ (by simp)).trans (rAl _ _ _)
 have hres : ((w.alloc (.cells #[.int .i64 p, .int .i64 m, .int .i64 e, .slice a l.length c] 125)).alloc (.cells #[.int .i64 0, .int .i64 0, .int .i64 0, .slice none 0 0] 125)).heap[w.heap.size + 1]? = some (.cells #[.int .i64 0, .int .i64 0, .int .i64 0, .slice none 0 0] 125 (0, 0)) := by
  have := rAl (w := w.alloc (.cells #[.int .i64 p, .int .i64 m, .int .i64 e, .slice a l.length c] 125)) #[.int .i64 0, .int .i64 0, .int .i64 0, .slice none 0 0] 125 (0, 0)
  simpa using this
 have htw := twinNumbers_any B l hl a c _ (Nat.le_trans hB hb.size) (hN.below (hb.mono hB))
 have Htw := hQ htw
 have Hb := hQ hb
 have Hrow := hQ hrow
 have Hres := hQ hres
 clear htw hb0 hb hrow hN hres
 go_enter Tryz.func198, Tryz.ntmps198
 go_wp2_with fail
 refine Htw.out.mono ?_
 rintro r w2 ⟨rfl, ht, hb2⟩
 have hr2 := (hb2.block w.heap.size (by simp; omega)).trans Hrow.out
 have hr3 := (hb2.block (w.heap.size + 1) (by simp)).trans Hres.out
 have k0 := (cRw hr2 0).trans rfl
 have k1 := (cRw hr2 1).trans rfl
 have k2 := (cRw hr2 2).trans rfl
 have k3 := (cRw hr2 3).trans rfl
 have f3 := fRw hr2 3
 have g0 := (cRw hr3 0).trans rfl
 have g1 := (cRw hr3 1).trans rfl
 have g2 := (cRw hr3 2).trans rfl
 have g3 := (cRw hr3 3).trans rfl
 have e0 := fRw hr3 0
 have e1 := fRw hr3 1
 have e2 := fRw hr3 2
 have e3 := fRw hr3 3
 have Ht := hQ ht
 have Hr3 := hQ hr3
 have Hb2 := hQ (Hb.out.trans (hb2.mono Hb.out.size))
 clear ht hb2 hr2 hr3
 go_wp2
 have hr4 : (w2.setCell ⟨w.heap.size, 3, none⟩ (.slice (some ⟨w.heap.size + 1 + 1, 0, none⟩) l.length (l.length + 2))).heap[w.heap.size + 1]? = _ := (Below.heap_setCell _ _ _ _ (by simp)).trans Hr3.out
 refine bodyPost_ret_by (results_cell_row rfl _ _ (w.heap.size + 1) _ #[.int .i64 p, .int .i64 m, .int .i64 e, .slice (some ⟨w.heap.size + 1 + 1, 0, none⟩) l.length (l.length + 2)] (0, 0) _ rfl (by exact rSc (rSc (rSc (rSc hr4 0 _) 1 _) 2 _) 3 _) Tryz.underlying125 rfl (by kernel_rfl)) rfl ?_
 have hT : Turned (fun k => k = w.heap.size ∨ k = w.heap.size + 1) w2 (((((w2.setCell ⟨w.heap.size, 3, none⟩ (.slice (some ⟨w.heap.size + 1 + 1, 0, none⟩) l.length (l.length + 2))).setCell ⟨w.heap.size + 1, 0, none⟩ (.int .i64 p)).setCell ⟨w.heap.size + 1, 1, none⟩ (.int .i64 m)).setCell ⟨w.heap.size + 1, 2, none⟩ (.int .i64 e)).setCell ⟨w.heap.size + 1, 3, none⟩ (.slice (some ⟨w.heap.size + 1 + 1, 0, none⟩) l.length (l.length + 2))) :=
  (((((Turned.refl (fun k => k = w.heap.size ∨ k = w.heap.size + 1) w2).setCell (fun _ => .inl rfl) _).setCell (fun _ => .inr rfl) _).setCell (fun _ => .inr rfl) _).setCell (fun _ => .inr rfl) _).setCell (fun _ => .inr rfl) _
 have ht : TwN w2 (w.heap.size + 1 + 1) l := by simpa using Ht.out
 exact ⟨_, rfl, ht.kept (hT.block _ (by obtain ⟨c, h, _⟩ := ht; exact (Array.getElem?_eq_some_iff.1 h).1) (by omega)), by omega, Hb2.out.trans (hT.below Hb2.out.size (fun k hk => by omega))⟩
def twNd (T : List NodeD) (i : Nat) : NodeD := if i < T.length then nodeD T i else ⟨markI i, 0, 0, []⟩
def twU (n : Nat) (T : List NodeD) (H : Nat → Nat) (i : Nat) : Value := if i < n then .slice (some ⟨H i, 0, none⟩) (nodeD T i).um.length ((nodeD T i).um.length + 2) else .slice none 0 0
structure TwT (N0 : Nat) (w : World) (g : Nat) (T : List NodeD) (H : Nat → Nat) : Prop where
 row : ∃ c, w.heap[g]? = some (.cells c 125 (0, 0)) ∧ c.size = (T.length + 2) * 4 ∧ ∀ i, i < T.length + 2 → ArrNode c i (twNd T i) (twU T.length T H i)
 nums : ∀ i, i < T.length → TwN w (H i) (nodeD T i).um ∧ N0 ≤ H i
 far : N0 ≤ g
theorem TwN.lt {w : World} {g : Nat} {l : List Int} (h : TwN w g l) : g < w.heap.size := by obtain ⟨c, h, _⟩ := h; exact (Array.getElem?_eq_some_iff.1 h).1
theorem TwT.lt {N0 : Nat} {w : World} {g : Nat} {T : List NodeD} {H : Nat → Nat} (h : TwT N0 w g T H) : g < w.heap.size := by obtain ⟨c, h, _⟩ := h.row; exact (Array.getElem?_eq_some_iff.1 h).1
theorem TwT.kept {N0 : Nat} {w w' : World} {g : Nat} {T : List NodeD} {H : Nat → Nat} {G : Nat → Prop} (h : TwT N0 w g T H) (hT : Turned G w w') (hd : ∀ k, N0 ≤ k → k < w.heap.size → ¬ G k) : TwT N0 w' g T H := by
 obtain ⟨c, h1, h2⟩ := h.row
 exact ⟨⟨c, (hT.block g h.lt (hd g h.far h.lt)).trans h1, h2⟩, fun i hi => ⟨(h.nums i hi).1.kept (hT.block _ (h.nums i hi).1.lt (hd _ (h.nums i hi).2 (h.nums i hi).1.lt)), (h.nums i hi).2⟩, h.far⟩
structure TwTK (w0 : World) (g : Nat) (T : List NodeD) (H : Nat → Nat) (k : Nat) (wr : World) : Prop where
 row : ∃ c, wr.heap[g]? = some (.cells c 125 (0, 0)) ∧ c.size = (T.length + 2) * 4 ∧ ∀ i, i < k → ArrNode c i (twNd T i) (twU T.length T H i)
 nums : ∀ i, i < k → i < T.length → TwN wr (H i) (nodeD T i).um ∧ g < H i
 bel : Below g w0 wr
 zero : w0.heap.size = g
theorem TwTK.node {w0 wr w2 : World} {g k : Nat} {T : List NodeD} {H : Nat → Nat} {h : Nat} (hK : TwTK w0 g T H k wr) (hk : k < T.length) (hb : Below wr.heap.size wr w2) (hn : TwN w2 h (nodeD T k).um) (hh : wr.heap.size ≤ h) :
    TwTK w0 g T (updF H k h) (k + 1) (((((w2.setCell ⟨g, k * 4, none⟩ (.int .i64 (nodeD T k).pub)).setCell ⟨g, k * 4 + 1, none⟩ (.int .i64 (nodeD T k).mem)).setCell ⟨g, k * 4 + 2, none⟩ (.int .i64 (nodeD T k).ep)).setCell ⟨g, k * 4 + 3, none⟩ (.slice (some ⟨h, 0, none⟩) (nodeD T k).um.length ((nodeD T k).um.length + 2)))) := by
 obtain ⟨c, hr, hs, hc⟩ := hK.row
 have hgl : g < wr.heap.size := (Array.getElem?_eq_some_iff.1 hr).1
 have hr2 := (hb.block g hgl).trans hr
 have hT : Turned (fun x => x = g) w2 (((((w2.setCell ⟨g, k * 4, none⟩ (.int .i64 (nodeD T k).pub)).setCell ⟨g, k * 4 + 1, none⟩ (.int .i64 (nodeD T k).mem)).setCell ⟨g, k * 4 + 2, none⟩ (.int .i64 (nodeD T k).ep)).setCell ⟨g, k * 4 + 3, none⟩ (.slice (some ⟨h, 0, none⟩) (nodeD T k).um.length ((nodeD T k).um.length + 2)))) :=
  ((((Turned.refl (fun k => k = g) w2).setCell (fun _ => rfl) _).setCell (fun _ => rfl) _).setCell (fun _ => rfl) _).setCell (fun _ => rfl) _
 refine ⟨⟨put4 c (k * 4) (nodeD T k).pub (nodeD T k).mem (nodeD T k).ep _, rSc (rSc (rSc (rSc hr2 _ _) _ _) _ _) _ _, by rw [put4_size, hs], fun i hi => ?_⟩, fun i hi hiT => ?_, ?_, hK.zero⟩
 · by_cases e : i = k
   · subst e
     rw [show twNd T i = nodeD T i from if_pos hk, show twU T.length T (updF H i h) i = .slice (some ⟨h, 0, none⟩) (nodeD T i).um.length ((nodeD T i).um.length + 2) by unfold twU; rw [if_pos hk, uSm]]
     unfold ArrNode put4
     simp only [Array.getElem?_setIfInBounds]
     refine ⟨?_, ?_, ?_, ?_⟩ <;> simp <;> omega
   · obtain ⟨h0, h1, h2, h3⟩ := hc i (by omega)
     rw [show twU T.length T (updF H k h) i = twU T.length T H i by unfold twU; rw [uOt e]]
     unfold ArrNode put4
     simp only [Array.getElem?_setIfInBounds]
     refine ⟨?_, ?_, ?_, ?_⟩
     all_goals
      rw [if_neg (by omega), if_neg (by omega), if_neg (by omega), if_neg (by omega)]
      assumption
 · by_cases e : i = k
   · subst e
     rw [uSm]
     exact ⟨hn.kept (hT.block _ hn.lt (by omega)), by omega⟩
   · rw [uOt e]
     have h1 := hK.nums i (by omega) hiT
     exact ⟨(h1.1.kept (hb.block _ h1.1.lt)).kept (hT.block _ (Nat.lt_of_lt_of_le h1.1.lt hb.size) (by omega)), h1.2⟩
 · have hg := hK.bel.size
   have h1 := hK.bel.trans (hb.mono (Nat.le_of_lt hgl))
   exact (((h1.setCell (p := ⟨g, k * 4, none⟩) (Nat.le_refl _) _).setCell (p := ⟨g, k * 4 + 1, none⟩) (Nat.le_refl _) _).setCell (p := ⟨g, k * 4 + 2, none⟩) (Nat.le_refl _) _).setCell (p := ⟨g, k * 4 + 3, none⟩) (Nat.le_refl _) _
theorem TwTK.mark {w0 wr w2 : World} {g k : Nat} {T : List NodeD} {H : Nat → Nat} (hK : TwTK w0 g T H k wr) (hk : T.length ≤ k) (hk2 : k < T.length + 2) (hb : Below wr.heap.size wr w2) :
    TwTK w0 g T H (k + 1) (((((w2.setCell ⟨g, k * 4, none⟩ (.int .i64 (markI k))).setCell ⟨g, k * 4 + 1, none⟩ (.int .i64 0)).setCell ⟨g, k * 4 + 2, none⟩ (.int .i64 0)).setCell ⟨g, k * 4 + 3, none⟩ (.slice none 0 0))) := by
 obtain ⟨c, hr, hs, hc⟩ := hK.row
 have hgl : g < wr.heap.size := (Array.getElem?_eq_some_iff.1 hr).1
 have hr2 := (hb.block g hgl).trans hr
 have hT : Turned (fun x => x = g) w2 (((((w2.setCell ⟨g, k * 4, none⟩ (.int .i64 (markI k))).setCell ⟨g, k * 4 + 1, none⟩ (.int .i64 0)).setCell ⟨g, k * 4 + 2, none⟩ (.int .i64 0)).setCell ⟨g, k * 4 + 3, none⟩ (.slice none 0 0))) :=
  ((((Turned.refl (fun k => k = g) w2).setCell (fun _ => rfl) _).setCell (fun _ => rfl) _).setCell (fun _ => rfl) _).setCell (fun _ => rfl) _
 refine ⟨⟨put4 c (k * 4) (markI k) 0 0 _, rSc (rSc (rSc (rSc hr2 _ _) _ _) _ _) _ _, by rw [put4_size, hs], fun i hi => ?_⟩, fun i hi hiT => ?_, ?_, hK.zero⟩
 · by_cases e : i = k
   · subst e
     rw [show twNd T i = ⟨markI i, 0, 0, []⟩ from if_neg (by omega), show twU T.length T H i = .slice none 0 0 from if_neg (by omega)]
     unfold ArrNode put4
     simp only [Array.getElem?_setIfInBounds]
     refine ⟨?_, ?_, ?_, ?_⟩ <;> simp <;> omega
   · obtain ⟨h0, h1, h2, h3⟩ := hc i (by omega)
     unfold ArrNode put4
     simp only [Array.getElem?_setIfInBounds]
     refine ⟨?_, ?_, ?_, ?_⟩
     all_goals
      rw [if_neg (by omega), if_neg (by omega), if_neg (by omega), if_neg (by omega)]
      assumption
 · have h1 := hK.nums i (by omega) hiT
   exact ⟨(h1.1.kept (hb.block _ h1.1.lt)).kept (hT.block _ (Nat.lt_of_lt_of_le h1.1.lt hb.size) (by omega)), h1.2⟩
 · have h1 := hK.bel.trans (hb.mono (Nat.le_of_lt hgl))
   exact (((h1.setCell (p := ⟨g, k * 4, none⟩) (Nat.le_refl _) _).setCell (p := ⟨g, k * 4 + 1, none⟩) (Nat.le_refl _) _).setCell (p := ⟨g, k * 4 + 2, none⟩) (Nat.le_refl _) _).setCell (p := ⟨g, k * 4 + 3, none⟩) (Nat.le_refl _) _
theorem run_make_twnodes (n : Nat) (hn : n ≤ 262144) (w : World) :
    (Instr.makeSlice 42 (.int .i64 n) (.int .i64 (n + 2))).run Tryz.prog w = .ok (.slice (some ⟨w.heap.size, 0, none⟩) n (n + 2)) (w.alloc (.cells (zeroN4 ((n + 2) * 4)) 125)) := by
 obtain ⟨i0, hi, hz0, hz1, hz2⟩ := info_parts mInfoNode
 have h := run_make (P := Tryz.prog) w 42 125 i0 _ Tryz.underlying42 hi hz0 .i64 .i64 n (n + 2) (by omega) (by omega) (by rw [hz2]; omega) (by omega)
 rw [hz1] at h
 exact h
def TwTRel (w0 : World) (g : Nat) (T : List NodeD) (i : Value) (wr : World) : Prop := ∃ (k : Nat) (H : Nat → Nat), k ≤ T.length ∧ i = .int .i64 k ∧ TwTK w0 g T H k wr
def TwTRel2 (w0 : World) (g : Nat) (T : List NodeD) (i : Value) (wr : World) : Prop := ∃ (k : Nat) (H : Nat → Nat), T.length ≤ k ∧ k ≤ T.length + 2 ∧ i = .int .i64 k ∧ TwTK w0 g T H k wr
theorem TwTK.cells {w0 wr : World} {g k j : Nat} {T : List NodeD} {H : Nat → Nat} (hK : TwTK w0 g T H k wr) (hj : j < T.length + 2) :
    ((∃ v, wr.cell? ⟨g, j * 4, none⟩ = some v) ∧ (∃ v, wr.cell? ⟨g, j * 4 + 1, none⟩ = some v) ∧ (∃ v, wr.cell? ⟨g, j * 4 + 2, none⟩ = some v) ∧ ∃ v, wr.cell? ⟨g, j * 4 + 3, none⟩ = some v) ∧ (∀ t, wr.frozen? ⟨g, t, none⟩ = false) ∧ g < wr.heap.size := by
 obtain ⟨c, hr, hs, _⟩ := hK.row
 have key : ∀ t, t < 4 → ∃ v, wr.cell? ⟨g, j * 4 + t, none⟩ = some v := fun t ht => ⟨_, (cRw hr _).trans (Array.getElem?_eq_getElem (by omega))⟩
 exact ⟨⟨key 0 (by omega), key 1 (by omega), key 2 (by omega), key 3 (by omega)⟩, fun t => fRw hr t, (Array.getElem?_eq_some_iff.1 hr).1⟩
theorem twinNodes_any (B : Nat) (T : List NodeD) (hT : T.length ≤ 262144) (hul : ∀ x, x < T.length → (nodeD T x).um.length ≤ 262144) (a : Option Addr) (c : Nat) (w : World) (hB : B ≤ w.heap.size) (hA : TreeAt B w a T) :
    Calls Tryz.prog 54 #[.slice a T.length c] w fun e w' => ∃ H, e = .returned (.slice (some ⟨w.heap.size, 0, none⟩) T.length (T.length + 2)) ∧ TwT w.heap.size w' w.heap.size T H ∧ Below w.heap.size w w' := by
 have hmk := run_make_twnodes T.length hT w
 have hst : TwTK w w.heap.size T (fun _ => 0) 0 (w.alloc (.cells (zeroN4 ((T.length + 2) * 4)) 125)) :=
  ⟨⟨_, rAl _ _ _, by simp [zeroN4, madeCells], fun i hi => absurd hi (Nat.not_lt_zero _)⟩, fun i hi => absurd hi (Nat.not_lt_zero _), (Below.refl _ _).alloc (Nat.le_refl _) _, rfl⟩
 have Hst := hQ hst
 have HA := hQ hA
 have Hul := hQ hul
 have HB := hQ hB
 have hTI : (T.length : Int) ≤ 262144 := by omega
 clear hst hA hul hB
 go_enter Tryz.func54, Tryz.ntmps54
 go_wp2_with fail
 go_loopw [15] (fun i wr => TwTRel w w.heap.size T i wr) (fun i _ => T.length - (intOf i).toNat)
 case atStart => exact ⟨0, _, Nat.zero_le _, rfl, Hst.out⟩
 case round =>
  obtain ⟨k, H, hk, rfl, hK⟩ := hrel
  by_cases hkl : k < T.length
  · obtain ⟨b, o, rfl, hnd⟩ := HA.out k hkl
    have hnd' := hnd.below (hK.bel.mono HB.out)
    obtain ⟨ua, uc, k3, hN⟩ := hnd'.c3
    have k0 := hnd'.c0
    have k1 := hnd'.c1
    have k2 := hnd'.c2
    have hum := Hul.out k hkl
    have hBr : B ≤ wr.heap.size := Nat.le_trans HB.out hK.bel.size
    have htw := fun (W : World) (hW : Below wr.heap.size wr W) => twinNode_any B (nodeD T k) hum ua uc W (Nat.le_trans hBr hW.size) (hN.below (hW.mono hBr))
    have hstep := fun (w2 : World) (h : Nat) h1 h2 h3 => hK.node (w2 := w2) (h := h) hkl h1 h2 h3
    obtain ⟨⟨⟨v0, s0⟩, ⟨v1, s1⟩, ⟨v2, s2⟩, ⟨v3, s3⟩⟩, hfr, hgl⟩ := hK.cells (show k < T.length + 2 by omega)
    have f0 := hfr (k * 4)
    have f1 := hfr (k * 4 + 1)
    have f2 := hfr (k * 4 + 2)
    have f3 := hfr (k * 4 + 3)
    have hfrz := fun (w2 : World) (hb : Below wr.heap.size wr w2) => (hK.cells (show k < T.length + 2 by omega)).2.1
    have hrw := hK.row
    obtain ⟨cr, hr, _, _⟩ := hrw
    have Hr := hQ hr
    have hkI : (k : Int) < T.length := by omega
    generalize nodeD T k = d at k0 k1 k2 k3 htw hstep hum
    obtain ⟨dp, dm, de, du⟩ := d
    simp only at k0 k1 k2 k3 htw hstep hum
    have Htw := hQ htw
    have Hstep := hQ hstep
    have humI : (du.length : Int) ≤ 262144 := by omega
    have Hnd := hQ hnd
    clear htw hstep hnd hnd' hN hum hK hr hfrz hfr
    go_wp2_with fail
    refine (Htw.out wr (Below.refl _ _)).mono ?_
    rintro e w2 ⟨h, rfl, hn, hh, hb2⟩
    have hr2 := (hb2.block _ hgl).trans Hr.out
    have q0 := (hb2.cell (p := ⟨w.heap.size, k * 4, none⟩) hgl).trans s0
    have q1 := (hb2.cell (p := ⟨w.heap.size, k * 4 + 1, none⟩) hgl).trans s1
    have q2 := (hb2.cell (p := ⟨w.heap.size, k * 4 + 2, none⟩) hgl).trans s2
    have q3 := (hb2.cell (p := ⟨w.heap.size, k * 4 + 3, none⟩) hgl).trans s3
    have f0' := fRw hr2 (k * 4)
    have f1' := fRw hr2 (k * 4 + 1)
    have f2' := fRw hr2 (k * 4 + 2)
    have f3' := fRw hr2 (k * 4 + 3)
    have HS := hQ (Hstep.out w2 h hb2 hn hh)
    clear hb2 hr2 hn hh
    all_goals
     go_wp2
     exact ⟨⟨k + 1, _, by omega, by go_num, HS.out⟩, by simp [intOf]; omega⟩
  · obtain rfl : k = T.length := by omega
    have hkI : ¬ (T.length : Int) < T.length := by omega
    have HK := hQ hK
    clear hK
    go_wp2_with fail
    go_loopw [6] (fun i wr => TwTRel2 w w.heap.size T i wr) (fun i _ => T.length + 2 - (intOf i).toNat)
    case atStart => exact ⟨T.length, H, Nat.le_refl _, by omega, rfl, HK.out⟩
    case round =>
     obtain ⟨k, H2, hk1, hk2, rfl, hK⟩ := hrel
     by_cases hkl : k < T.length + 2
     · have hstep := fun (w2 : World) h1 => hK.mark (w2 := w2) hk1 hkl h1
       obtain ⟨⟨⟨v0, s0⟩, ⟨v1, s1⟩, ⟨v2, s2⟩, ⟨v3, s3⟩⟩, hfr, hgl⟩ := hK.cells hkl
       obtain ⟨cr, hr, _, _⟩ := hK.row
       have Hr := hQ hr
       have hkI : (k : Int) < T.length + 2 := by omega
       have hkI2 : (T.length : Int) ≤ k := by omega
       have hmk := fun W => markNode_any k (by omega) W
       generalize markI k = mx at hstep hmk
       have Hmk := hQ hmk
       have Hstep := hQ hstep
       have f0 := hfr (k * 4)
       have f1 := hfr (k * 4 + 1)
       have f2 := hfr (k * 4 + 2)
       have f3 := hfr (k * 4 + 3)
       clear hK hr hfr hmk hstep
       go_wp2_with fail
       refine (Hmk.out wr).mono ?_
       rintro e w2 ⟨rfl, hb2⟩
       have hr2 := (hb2.block _ hgl).trans Hr.out
       have q0 := (hb2.cell (p := ⟨w.heap.size, k * 4, none⟩) hgl).trans s0
       have q1 := (hb2.cell (p := ⟨w.heap.size, k * 4 + 1, none⟩) hgl).trans s1
       have q2 := (hb2.cell (p := ⟨w.heap.size, k * 4 + 2, none⟩) hgl).trans s2
       have q3 := (hb2.cell (p := ⟨w.heap.size, k * 4 + 3, none⟩) hgl).trans s3
       have f0' := fRw hr2 (k * 4)
       have f1' := fRw hr2 (k * 4 + 1)
       have f2' := fRw hr2 (k * 4 + 2)
       have f3' := fRw hr2 (k * 4 + 3)
       have HS := hQ (Hstep.out w2 hb2)
       clear hb2 hr2
       all_goals
        go_wp2
        exact ⟨⟨k + 1, _, by omega, by omega, by go_num, HS.out⟩, by simp [intOf]; omega⟩
     · obtain rfl : k = T.length + 2 := by omega
       have HK2 := hQ hK
       clear hK
       go_wp2
       go_ret
       exact ⟨H2, rfl, ⟨HK2.out.row, fun i hi => ⟨(HK2.out.nums i (by omega) hi).1, Nat.le_of_lt (HK2.out.nums i (by omega) hi).2⟩, Nat.le_refl _⟩, HK2.out.bel⟩
theorem twinTree_any (B : Nat) (T : List NodeD) (hT : T.length ≤ 262144) (hul : ∀ x, x < T.length → (nodeD T x).um.length ≤ 262144) (a : Option Addr) (c : Nat) (w : World) (hB : B ≤ w.heap.size) (hA : TreeAt B w a T) :
    Calls Tryz.prog 20 #[.agg #[.slice a T.length c]] w fun e w' => ∃ g H, e = .returned (.agg #[.slice (some ⟨g, 0, none⟩) T.length (T.length + 2)]) ∧ TwT w.heap.size w' g T H ∧ Below w.heap.size w w' := by
 have hb0 := (Below.refl w.heap.size w).alloc (Nat.le_refl _) (.cells #[.slice a T.length c] 44)
 have hb := hb0.alloc hb0.size (.cells #[.slice none 0 0] 44)
 have hrow : ((w.alloc (.cells #[.slice a T.length c] 44)).alloc (.cells #[.slice none 0 0] 44)).heap[w.heap.size]? = some (.cells #[.slice a T.length c] 44 (0, 0)) := (heap_alloc_old _ _ (by simp)).trans (rAl _ _ _)
 have hres : ((w.alloc (.cells #[.slice a T.length c] 44)).alloc (.cells #[.slice none 0 0] 44)).heap[w.heap.size + 1]? = some (.cells #[.slice none 0 0] 44 (0, 0)) := by
  have := rAl (w := w.alloc (.cells #[.slice a T.length c] 44)) #[.slice none 0 0] 44 (0, 0)
  simpa using this
 have htw := twinNodes_any B T hT hul a c _ (Nat.le_trans hB hb.size) (hA.below (hb.mono hB))
 have Htw := hQ htw
 have Hb := hQ hb
 have Hrow := hQ hrow
 have Hres := hQ hres
 have hTI : (T.length : Int) ≤ 262144 := by omega
 clear htw hb0 hb hrow hA hres hul
 go_enter Tryz.func20, Tryz.ntmps20
 go_wp2_with fail
 refine Htw.out.mono ?_
 rintro r w2 ⟨H, rfl, ht, hb2⟩
 have hr2 := (hb2.block w.heap.size (by simp; omega)).trans Hrow.out
 have hr3 := (hb2.block (w.heap.size + 1) (by simp)).trans Hres.out
 have k0 := (cRw hr2 0).trans rfl
 have f0 := fRw hr2 0
 have g0 := (cRw hr3 0).trans rfl
 have e0 := fRw hr3 0
 have Ht := hQ ht
 have Hr3 := hQ hr3
 have Hb2 := hQ (Hb.out.trans (hb2.mono Hb.out.size))
 clear ht hb2 hr2 hr3
 go_wp2
 have hr4 : (w2.setCell ⟨w.heap.size, 0, none⟩ (.slice (some ⟨w.heap.size + 1 + 1, 0, none⟩) T.length (T.length + 2))).heap[w.heap.size + 1]? = _ := (Below.heap_setCell _ _ _ _ (by simp)).trans Hr3.out
 refine bodyPost_ret_by (results_cell_row rfl _ _ (w.heap.size + 1) _ #[.slice (some ⟨w.heap.size + 1 + 1, 0, none⟩) T.length (T.length + 2)] (0, 0) _ rfl (by exact rSc hr4 0 _) Tryz.underlying44 rfl (by kernel_rfl)) rfl ?_
 have hT2 : Turned (fun k => k = w.heap.size ∨ k = w.heap.size + 1) w2 ((w2.setCell ⟨w.heap.size, 0, none⟩ (.slice (some ⟨w.heap.size + 1 + 1, 0, none⟩) T.length (T.length + 2))).setCell ⟨w.heap.size + 1, 0, none⟩ (.slice (some ⟨w.heap.size + 1 + 1, 0, none⟩) T.length (T.length + 2))) :=
  ((Turned.refl (fun k => k = w.heap.size ∨ k = w.heap.size + 1) w2).setCell (fun _ => .inl rfl) _).setCell (fun _ => .inr rfl) _
 have ht : TwT (w.heap.size + 1 + 1) w2 (w.heap.size + 1 + 1) T H := by simpa using Ht.out
 have ht2 := ht.kept hT2 (fun k hk _ => by omega)
 exact ⟨_, H, rfl, ⟨ht2.row, fun i hi => ⟨(ht2.nums i hi).1, by have := (ht2.nums i hi).2; omega⟩, by omega⟩, Hb2.out.trans (hT2.below Hb2.out.size (fun k hk => by omega))⟩
/-! LeftTree. -/
theorem leftNode_any (B : Nat) (d : NodeD) (hl : d.um.length ≤ 262144) (g : Nat) (a : Option Addr) (c : Nat) (w : World) (hg : TwN w g d.um) (hN : NumsAt B w a d.um) :
    Calls Tryz.prog 212 #[.agg #[.int .i64 d.pub, .int .i64 d.mem, .int .i64 d.ep, .slice (some ⟨g, 0, none⟩) d.um.length (d.um.length + 2)], .agg #[.int .i64 d.pub, .int .i64 d.mem, .int .i64 d.ep, .slice a d.um.length c]] w fun e w' => e = .returned (.bool true) ∧ Below w.heap.size w w' := by
 obtain ⟨p, m, e, l⟩ := d
 simp only at hl hg hN ⊢
 have hln := fun (W : World) (hW : Below w.heap.size w W) => leftNumbers_any w.heap.size l hl g a c W (hg.kept (hW.block _ hg.lt)) (fun i hi => let ⟨b, o, e1, _, e2⟩ := hN i hi; ⟨b, o, e1, World.block_lt_of_cell? w _ e2, (hW.cell (p := ⟨b, o + i, none⟩) (World.block_lt_of_cell? w _ e2)).trans e2⟩)
 have Hln := hQ hln
 clear hln hg hN
 go_enter Tryz.func212, Tryz.ntmps212
 go_wp2_with fail
 have hb2 : Below w.heap.size w ((w.alloc (.cells #[.int .i64 p, .int .i64 m, .int .i64 e, .slice (some ⟨g, 0, none⟩) l.length (l.length + 2)] 125)).alloc (.cells #[.int .i64 p, .int .i64 m, .int .i64 e, .slice a l.length c] 125)) := ((Below.refl w.heap.size w).alloc (Nat.le_refl _) _).alloc (by simp) _
 have Hb2 := hQ hb2
 refine (Hln.out _ hb2).mono ?_
 rintro r wx ⟨rfl, d, hwx⟩
 have Hw := hQ hwx
 clear hwx hb2
 go_wp2
 go_ret
 exact ⟨rfl, by rw [Hw.out]; exact bDr Hb2.out d⟩
def LtRel (n : Nat) (w : World) (i : Value) (wr : World) : Prop := ∃ k : Nat, k ≤ n ∧ i = .int .i64 k ∧ Below w.heap.size w wr
def LtRel2 (n : Nat) (w : World) (i : Value) (wr : World) : Prop := ∃ k : Nat, n ≤ k ∧ k ≤ n + 2 ∧ i = .int .i64 k ∧ Below w.heap.size w wr
theorem leftNodes_any (B N0 : Nat) (T : List NodeD) (hT : T.length ≤ 262144) (hul : ∀ x, x < T.length → (nodeD T x).um.length ≤ 262144) (g : Nat) (H : Nat → Nat) (a : Option Addr) (c : Nat) (w : World) (hB : B ≤ w.heap.size) (hg : TwT N0 w g T H) (hA : TreeAt B w a T) :
    Calls Tryz.prog 64 #[.slice (some ⟨g, 0, none⟩) T.length (T.length + 2), .slice a T.length c] w fun e w' => e = .returned (.bool true) ∧ Below w.heap.size w w' := by
 have HA := hQ hA
 have Hg := hQ hg
 have Hul := hQ hul
 have HB := hQ hB
 have hTI : (T.length : Int) ≤ 262144 := by omega
 clear hA hg hul hB
 go_enter Tryz.func64, Tryz.ntmps64
 go_wp2
 go_loopw [15] (fun i wr => LtRel T.length w i wr) (fun i _ => T.length - (intOf i).toNat)
 case atStart => exact ⟨0, Nat.zero_le _, rfl, Below.refl _ _⟩
 case round =>
  obtain ⟨k, hk, rfl, hbr⟩ := hrel
  have hgr : TwT N0 wr g T H := Hg.out.kept (Turned.new (fun _ => False) hbr) (fun _ _ _ h => h)
  obtain ⟨cr, hr, hs, hc⟩ := hgr.row
  have Hbr := hQ hbr
  by_cases hkl : k < T.length
  · obtain ⟨b, o, rfl, hnd⟩ := HA.out k hkl
    have hnd' := hnd.below (hbr.mono HB.out)
    obtain ⟨ua, uc, k3, hN⟩ := hnd'.c3
    have k0 := hnd'.c0
    have k1 := hnd'.c1
    have k2 := hnd'.c2
    obtain ⟨c0, c1, c2, c3⟩ := hc k (by omega)
    rw [show twNd T k = nodeD T k from if_pos hkl] at c0 c1 c2
    rw [show twU T.length T H k = .slice (some ⟨H k, 0, none⟩) (nodeD T k).um.length ((nodeD T k).um.length + 2) from if_pos hkl] at c3
    have s0 := (cRw hr _).trans c0
    have s1 := (cRw hr _).trans c1
    have s2 := (cRw hr _).trans c2
    have s3 := (cRw hr _).trans c3
    have hBr : B ≤ wr.heap.size := Nat.le_trans HB.out hbr.size
    have hln := fun (W : World) (hW : Below wr.heap.size wr W) => leftNode_any B (nodeD T k) (Hul.out k hkl) (H k) ua uc W ((hgr.nums k hkl).1.kept (hW.block _ (hgr.nums k hkl).1.lt)) (hN.below (hW.mono hBr))
    have hum := Hul.out k hkl
    have hkI : (k : Int) < T.length := by omega
    generalize nodeD T k = d at k0 k1 k2 k3 s0 s1 s2 s3 hln hum
    obtain ⟨dp, dm, de, du⟩ := d
    simp only at k0 k1 k2 k3 s0 s1 s2 s3 hln hum
    have Hln := hQ hln
    have humI : (du.length : Int) ≤ 262144 := by omega
    clear hln hnd hnd' hN hum hr hc c0 c1 c2 c3 hgr hs hbr
    go_wp2_with fail
    go_region_with (go_at_call 212; refine (Hln.out wr.drew ⟨rfl, rfl, rfl, Nat.le_refl _, fun _ _ => rfl⟩).mono ?_; rintro e w2 ⟨rfl, hb2x⟩; have hb2 : Below wr.heap.size wr w2 := ⟨hb2x.os, hb2x.tape, hb2x.output, hb2x.size, hb2x.block⟩; have Hb2 := hQ (Hbr.out.trans (hb2.mono Hbr.out.size)); clear hb2 hb2x)
    all_goals
     go_wp2
     exact ⟨⟨k + 1, by omega, by go_num, Hb2.out⟩, by simp [intOf]; omega⟩
  · obtain rfl : k = T.length := by omega
    have hkI : ¬ (T.length : Int) < T.length := by omega
    clear hr hc hgr hs hbr
    go_wp2_with fail
    go_loopw [7] (fun i wr => LtRel2 T.length w i wr) (fun i _ => T.length + 2 - (intOf i).toNat)
    case atStart => exact ⟨T.length, Nat.le_refl _, by omega, rfl, Hbr.out⟩
    case round =>
     obtain ⟨k, hk1, hk2, rfl, hbr⟩ := hrel
     have hgr : TwT N0 wr g T H := Hg.out.kept (Turned.new (fun _ => False) hbr) (fun _ _ _ h => h)
     obtain ⟨cr, hr, hs, hc⟩ := hgr.row
     have Hbr2 := hQ hbr
     by_cases hkl : k < T.length + 2
     · obtain ⟨c0, c1, c2, c3⟩ := hc k hkl
       rw [show twNd T k = ⟨markI k, 0, 0, []⟩ from if_neg (by omega)] at c0 c1 c2
       rw [show twU T.length T H k = .slice none 0 0 from if_neg (by omega)] at c3
       have s0 := (cRw hr _).trans c0
       have s1 := (cRw hr _).trans c1
       have s2 := (cRw hr _).trans c2
       have s3 := (cRw hr _).trans c3
       have his := isNode_any k (by omega) 0 0 wr
       simp only at s0 s1 s2 s3
       generalize markI k = mx at s0 his
       have His := hQ his
       have hkI : (k : Int) < T.length + 2 := by omega
       have hkI2 : (T.length : Int) ≤ k := by omega
       clear his hr hc c0 c1 c2 c3 hgr hs hbr
       go_wp2_with fail
       refine His.out.mono ?_
       rintro e w2 ⟨rfl, hb2⟩
       have Hb2 := hQ (Hbr2.out.trans (hb2.mono Hbr2.out.size))
       clear hb2
       go_wp2
       exact ⟨⟨k + 1, by omega, by omega, by go_num, Hb2.out⟩, by simp [intOf]; omega⟩
     · obtain rfl : k = T.length + 2 := by omega
       clear hr hc hgr hs hbr
       go_wp2
       go_ret
       exact ⟨rfl, Hbr2.out⟩
theorem leftTree_any (B N0 : Nat) (T : List NodeD) (hT : T.length ≤ 262144) (hul : ∀ x, x < T.length → (nodeD T x).um.length ≤ 262144) (g : Nat) (H : Nat → Nat) (a : Option Addr) (c : Nat) (w : World) (hB : B ≤ w.heap.size) (hg : TwT N0 w g T H) (hA : TreeAt B w a T) :
    Calls Tryz.prog 26 #[.agg #[.slice (some ⟨g, 0, none⟩) T.length (T.length + 2)], .agg #[.slice a T.length c]] w fun e w' => e = .returned (.bool true) ∧ Below w.heap.size w w' := by
 have hb2 : Below w.heap.size w ((w.alloc (.cells #[.slice (some ⟨g, 0, none⟩) T.length (T.length + 2)] 44)).alloc (.cells #[.slice a T.length c] 44)) := ((Below.refl w.heap.size w).alloc (Nat.le_refl _) _).alloc (by simp) _
 have hln := leftNodes_any B N0 T hT hul g H a c _ (Nat.le_trans hB hb2.size) (hg.kept (Turned.new (fun _ => False) hb2) (fun _ _ _ h => h)) (hA.below (hb2.mono hB))
 have Hln := hQ hln
 have Hb2 := hQ hb2
 have hTI : (T.length : Int) ≤ 262144 := by omega
 clear hln hg hA hul hb2
 go_enter Tryz.func26, Tryz.ntmps26
 go_wp2_with fail
 refine Hln.out.mono ?_
 rintro e w2 ⟨rfl, hb3⟩
 have Hb3 := hQ (Hb2.out.trans (hb3.mono Hb2.out.size))
 clear hb3
 go_wp2
 go_ret
 exact ⟨rfl, Hb3.out⟩
end
section
open Go Go.RowKit
def marksV (mk : List Value) (n : Nat) : List Value := (List.range n).flatMap fun _ => mk
theorem marksV_succ (mk : List Value) (n : Nat) : marksV mk (n + 1) = marksV mk n ++ mk := by unfold marksV; rw [List.range_succ, List.flatMap_append]; simp
theorem marksV_get {mk : List Value} {sz n i j : Nat} (hs : mk.length = sz) (hi : i < n) (hj : j < sz) : (marksV mk n)[i * sz + j]? = mk[j]? := flat_get (fun _ => mk) sz (fun _ => hs) n i j hi hj
theorem marksV_len {mk : List Value} {sz : Nat} (hs : mk.length = sz) (n : Nat) : (marksV mk n).length = n * sz := flat_len (fun _ => mk) sz (fun _ => hs) n
structure HeldR (ht et : TypeId) (sz : Nat) (w : World) (g n0 m : Nat) (V : Nat → Value) (K : Nat → Nat) (X : Nat → List Value) : Prop where
 row : ∃ hc, w.heap[g]? = some (.cells hc ht (0, 0)) ∧ ∀ i, i < m → hc[i * 2]? = some (V i) ∧ hc[i * 2 + 1]? = some (.int .i64 ((n0 + i : Nat) : Int))
 own : ∀ i, i < m → w.ownsRow 0 et sz (V i) (K i) (X i)
 apart : ∀ i j, i < m → j < m → i ≠ j → ∀ x, (V i).ownBlock = some x → (V j).ownBlock ≠ some x
 ne : ∀ i, i < m → (V i).ownBlock ≠ some g
def HFoot (g m : Nat) (V : Nat → Value) : Nat → Prop := fun k => k = g ∨ ∃ i, i < m ∧ (V i).ownBlock = some k
section
variable {ht et : TypeId} {sz : Nat} {w w' : World} {g n0 m : Nat} {V : Nat → Value} {K : Nat → Nat} {X : Nat → List Value}
theorem HeldR.lt (h : HeldR ht et sz w g n0 m V K X) : ∀ k, HFoot g m V k → k < w.heap.size := fun k hk => by
 rcases hk with rfl | ⟨i, hi, hb⟩
 · obtain ⟨hc, hr, _⟩ := h.row
   exact (Array.getElem?_eq_some_iff.1 hr).1
 · exact ((h.own i hi).lt k hb).2
theorem HeldR.kept {G : Nat → Prop} (h : HeldR ht et sz w g n0 m V K X) (hT : Turned G w w') (hd : ∀ k, HFoot g m V k → ¬ G k) : HeldR ht et sz w' g n0 m V K X := by
 obtain ⟨hc, hr, h2⟩ := h.row
 exact ⟨⟨hc, (hT.block g (h.lt g (.inl rfl)) (hd g (.inl rfl))).trans hr, h2⟩, fun i hi => oKp (h.own i hi) hT (fun k hk => hd k (.inr ⟨i, hi, hk⟩)), h.apart, h.ne⟩
theorem HeldR.slice (h : HeldR ht et sz w g n0 m V K X) {i : Nat} (hi : i < m) : ∃ a c, V i = .slice a (K i) c := by
 rcases (h.own i hi).2 with ⟨e, h2⟩ | ⟨g, cap, cur, e, _⟩
 · exact ⟨none, 0, by rw [e, h2]⟩
 · exact ⟨_, _, e⟩
theorem HeldR.cells (h : HeldR ht et sz w g n0 m V K X) {i : Nat} (hi : i < m) : w.cell? ⟨g, i * 2, none⟩ = some (V i) ∧ w.cell? ⟨g, i * 2 + 1, none⟩ = some (.int .i64 ((n0 + i : Nat) : Int)) ∧ (∀ j, w.frozen? ⟨g, j, none⟩ = false) ∧ g < w.heap.size := by
 obtain ⟨hc, hr, h2⟩ := h.row
 exact ⟨(cRw hr _).trans (h2 i hi).1, (cRw hr _).trans (h2 i hi).2, fun j => fRw hr j, (Array.getElem?_eq_some_iff.1 hr).1⟩
theorem HeldR.congr {K' : Nat → Nat} {X' : Nat → List Value} (h : HeldR ht et sz w g n0 m V K X) (h1 : ∀ i, i < m → K' i = K i) (h2 : ∀ i, i < m → X' i = X i) : HeldR ht et sz w g n0 m V K' X' :=
 ⟨h.row, fun i hi => by rw [h1 i hi, h2 i hi]; exact h.own i hi, h.apart, h.ne⟩
end
def MarkedTo (w : World) (g : Nat) (et : TypeId) (sz cap : Nat) (mk : List Value) (j : Nat) : Prop :=
 ∃ cur, w.heap[g]? = some (.cells cur et (0, 0)) ∧ cur.size = cap * sz ∧ ∀ i, i < j → ∀ t, t < sz → cur[i * sz + t]? = mk[t]?
theorem setCells_at (g : Nat) {e : TypeId} {fz : Nat × Nat} : ∀ (vs : List Value) (o : Nat) (w : World) (cur : Array Value), w.heap[g]? = some (.cells cur e fz) → o + vs.length ≤ cur.size →
    ∃ cur', (w.setCells g o vs).heap[g]? = some (.cells cur' e fz) ∧ cur'.size = cur.size ∧ (∀ j, (j < o ∨ o + vs.length ≤ j) → cur'[j]? = cur[j]?) ∧ (∀ t, t < vs.length → cur'[o + t]? = vs[t]?) ∧ Turned (fun k => k = g) w (w.setCells g o vs)
 | [], o, w, cur, h, _ => ⟨cur, h, rfl, fun _ _ => rfl, fun t ht => absurd ht (Nat.not_lt_zero _), Turned.refl _ _⟩
 | v :: r, o, w, cur, h, hl => by
  simp only [List.length_cons] at hl
  obtain ⟨c, h1, h2, h3, h4, h5⟩ := setCells_at g r (o + 1) (w.setCell ⟨g, o, none⟩ v) _ (rSc h o v) (by simp; omega)
  refine ⟨c, h1, by rw [h2]; simp, fun j hj => ?_, fun t ht => ?_, ((Turned.refl (fun k => k = g) w).setCell (p := ⟨g, o, none⟩) (fun _ => rfl) v).trans h5 (fun _ _ h => h)⟩
  · simp only [List.length_cons] at hj
    rw [h3 j (by omega), Array.getElem?_setIfInBounds, if_neg (by omega)]
  · cases t with
    | zero =>
     rw [Nat.add_zero, h3 o (by omega), Array.getElem?_setIfInBounds, if_pos rfl, if_pos (by omega)]
     rfl
    | succ t =>
     simp only [List.length_cons] at ht
     rw [show o + (t + 1) = o + 1 + t by omega, h4 t (by omega)]
     rfl
theorem MarkedTo.step {w : World} {g : Nat} {et : TypeId} {sz cap : Nat} {mk : List Value} {j : Nat} (h : MarkedTo w g et sz cap mk j) (hs : mk.length = sz) (hj : j < cap) : MarkedTo (w.setCells g (j * sz) mk) g et sz cap mk (j + 1) ∧ Turned (fun k => k = g) w (w.setCells g (j * sz) mk) := by
 obtain ⟨cur, h1, h2, h3⟩ := h
 have hm : (j + 1) * sz ≤ cap * sz := Nat.mul_le_mul_right sz hj
 rw [Nat.succ_mul] at hm
 obtain ⟨c, e1, e2, e3, e4, e5⟩ := setCells_at g mk (j * sz) w cur h1 (by omega)
 refine ⟨⟨c, e1, by rw [e2, h2], fun i hi t ht => ?_⟩, e5⟩
 by_cases e : i = j
 · subst e
   exact e4 t (by omega)
 · have hm2 : (i + 1) * sz ≤ j * sz := Nat.mul_le_mul_right sz (by omega)
   rw [Nat.succ_mul] at hm2
   rw [e3 _ (.inl (by omega))]
   exact h3 i (by omega) t ht
theorem MarkedTo.own {w : World} {g : Nat} {et : TypeId} {sz cap : Nat} {mk : List Value} {n : Nat} (h : MarkedTo w g et sz cap mk n) (hs : mk.length = sz) (hn : n ≤ cap) (hc : cap ≤ maxLen) : w.ownsRow 0 et sz (.slice (some ⟨g, 0, none⟩) n cap) n (marksV mk n) := by
 obtain ⟨cur, h1, h2, h3⟩ := h
 refine ⟨marksV_len hs n, .inr ⟨g, cap, cur, rfl, Nat.zero_le _, h1, hn, hc, h2, ?_⟩⟩
 have hle : n * sz ≤ cap * sz := Nat.mul_le_mul_right sz hn
 apply List.ext_getElem?
 intro t
 by_cases ht : t < n * sz
 · have h0 : 0 < sz := Nat.pos_of_ne_zero fun e => by subst e; omega
   have hi : t / sz < n := Nat.div_lt_of_lt_mul (by rw [Nat.mul_comm]; exact ht)
   have e : t = t / sz * sz + t % sz := by rw [Nat.mul_comm]; exact (Nat.div_add_mod t sz).symm
   rw [List.getElem?_take, if_pos ht, Array.getElem?_toList]
   rw [e, h3 _ hi _ (Nat.mod_lt _ h0), marksV_get hs hi (Nat.mod_lt _ h0)]
 · rw [List.getElem?_eq_none (by rw [List.length_take]; omega), List.getElem?_eq_none (by rw [marksV_len hs]; omega)]
theorem own_row {w : World} {B g n c : Nat} {et : TypeId} {sz : Nat} {xs : List Value} (h : w.ownsRow B et sz (.slice (some ⟨g, 0, none⟩) n c) n xs) : MarkedTo w g et sz c [] 0 ∧ n ≤ c ∧ c ≤ maxLen := by
 rcases h.2 with ⟨e, _⟩ | ⟨g', cap, cur, e, hB, hg, h4, h5, hs, ht⟩
 · simp at e
 · obtain ⟨rfl, rfl⟩ : g = g' ∧ c = cap := by simpa using e
   exact ⟨⟨cur, hg, hs, fun i hi => absurd hi (Nat.not_lt_zero _)⟩, h4, h5⟩
theorem MarkedTo.any {w : World} {g : Nat} {et : TypeId} {sz cap : Nat} {mk : List Value} (h : MarkedTo w g et sz cap [] 0) : MarkedTo w g et sz cap mk 0 :=
 let ⟨cur, h1, h2, _⟩ := h; ⟨cur, h1, h2, fun i hi => absurd hi (Nat.not_lt_zero _)⟩
theorem MarkedTo.kept {w w' : World} {g : Nat} {et : TypeId} {sz cap : Nat} {mk : List Value} {j : Nat} (h : MarkedTo w g et sz cap mk j) (e : w'.heap[g]? = w.heap[g]?) : MarkedTo w' g et sz cap mk j := let ⟨cur, h1, h2⟩ := h; ⟨cur, e.trans h1, h2⟩
theorem MarkedTo.cell {w : World} {g : Nat} {et : TypeId} {sz cap : Nat} {mk : List Value} {j : Nat} (h : MarkedTo w g et sz cap mk j) {k t : Nat} (hk : k < cap) (ht : t < sz) : (∃ v, w.cell? ⟨g, k * sz + t, none⟩ = some v) ∧ w.frozen? ⟨g, k * sz + t, none⟩ = false ∧ g < w.heap.size := by
 obtain ⟨cur, h1, h2, _⟩ := h
 have hm : (k + 1) * sz ≤ cap * sz := Nat.mul_le_mul_right sz hk
 rw [Nat.succ_mul] at hm
 exact ⟨⟨_, (cRw h1 _).trans (Array.getElem?_eq_getElem (by omega))⟩, fRw h1 _, (Array.getElem?_eq_some_iff.1 h1).1⟩
theorem HeldR.filled {ht et : TypeId} {sz : Nat} {w w' : World} {g n0 m : Nat} {V : Nat → Value} {K : Nat → Nat} {X : Nat → List Value} (h : HeldR ht et sz w g n0 m V K X) {k : Nat} (hk : k < m) (hT : Turned (fun x => (V k).ownBlock = some x) w w') {xs : List Value}
    (ho : w'.ownsRow 0 et sz (V k) (K k) xs) : HeldR ht et sz w' g n0 m V K (updF X k xs) := by
 obtain ⟨hc, hr, h2⟩ := h.row
 refine ⟨⟨hc, (hT.block g (h.lt g (.inl rfl)) (h.ne k hk)).trans hr, h2⟩, fun i hi => ?_, h.apart, h.ne⟩
 by_cases e : i = k
 · subst e
   rw [uSm]
   exact ho
 · rw [uOt e]
   exact oKp (h.own i hi) hT (fun x hx => h.apart i k hi hk e x hx)
theorem HeldR.grown {ht et : TypeId} {sz : Nat} {w w3 w5 : World} {g n0 m g' c' : Nat} {V : Nat → Value} {K : Nat → Nat} {X : Nat → List Value} (h : HeldR ht et sz w g n0 m V K X) {k : Nat} (hk : k < m) (h3 : Below w.heap.size w w3) {xs : List Value}
    (ho : w5.ownsRow 0 et sz (.slice (some ⟨g', 0, none⟩) (K k + 1) c') (K k + 1) xs) (hgrow : w3.grownBy w5 (V k).ownBlock) (hat : (V k).ownBlock = some g' ∨ g' = w3.heap.size) :
    HeldR ht et sz (w5.setCell ⟨g, k * 2, none⟩ (.slice (some ⟨g', 0, none⟩) (K k + 1) c')) g n0 m (updF V k (.slice (some ⟨g', 0, none⟩) (K k + 1) c')) (updF K k (K k + 1)) (updF X k xs) ∧
    Turned (HFoot g m V) w (w5.setCell ⟨g, k * 2, none⟩ (.slice (some ⟨g', 0, none⟩) (K k + 1) c')) ∧ Ext (HFoot g m V) (HFoot g m (updF V k (.slice (some ⟨g', 0, none⟩) (K k + 1) c'))) w (w5.setCell ⟨g, k * 2, none⟩ (.slice (some ⟨g', 0, none⟩) (K k + 1) c')) := by
 obtain ⟨nv, hnv⟩ : ∃ nv, nv = Value.slice (some ⟨g', 0, none⟩) (K k + 1) c' := ⟨_, rfl⟩
 rw [← hnv] at ho ⊢
 have hnb : nv.ownBlock = some g' := by rw [hnv]; rfl
 obtain ⟨hc, hr, h2⟩ := h.row
 have hgl := h.lt g (.inl rfl)
 have hT5 : Turned (fun x => (V k).ownBlock = some x) w w5 := (Turned.new (fun x => (V k).ownBlock = some x) h3).grown hgrow (fun x _ e => e)
 have hg5 : w5.heap[g]? = some (.cells hc ht (0, 0)) := (hT5.block g hgl (h.ne k hk)).trans hr
 have hs3 := h3.size
 have hs5 := hgrow.size
 have hg'g : g' ≠ g := fun e => by
  rcases hat with h1 | h1
  · exact h.ne k hk (by rw [h1, e])
  · omega
 have hkl : k * 2 < hc.size := (Array.getElem?_eq_some_iff.1 (h2 k hk).1).1
 have hT6 : Turned (fun x => x = g) w5 (w5.setCell ⟨g, k * 2, none⟩ nv) := (Turned.refl (fun x => x = g) w5).setCell (p := ⟨g, k * 2, none⟩) (fun _ => rfl) nv
 have hg'l : g' < w5.heap.size := (ho.lt g' hnb).2
 refine ⟨⟨⟨hc.setIfInBounds (k * 2) nv, rSc hg5 _ _, fun i hi => ?_⟩, fun i hi => ?_, fun i j hi hj hij x h1 h4 => ?_, fun i hi e => ?_⟩, ?_, ?_⟩
 · obtain ⟨e0, e1⟩ := h2 i hi
   by_cases e : i = k
   · subst e
     rw [uSm]
     refine ⟨by simp [hkl], ?_⟩
     rw [Array.getElem?_setIfInBounds, if_neg (by omega)]
     exact e1
   · rw [uOt e]
     refine ⟨?_, ?_⟩ <;> rw [Array.getElem?_setIfInBounds, if_neg (by omega)] <;> assumption
 · by_cases e : i = k
   · subst e
     rw [uSm, uSm, uSm]
     refine oKp ho hT6 (fun x hx e => ?_)
     rw [hnb] at hx
     obtain rfl : g' = x := by simpa using hx
     exact hg'g e
   · rw [uOt e, uOt e, uOt e]
     exact oKp (oKp (h.own i hi) hT5 (fun x hx => h.apart i k hi hk e x hx)) hT6 (fun x hx e2 => h.ne i hi (by rw [hx, e2]))
 · by_cases ei : i = k
   · subst ei
     rw [uSm, hnb] at h1
     obtain rfl : g' = x := by simpa using h1
     rw [uOt (Ne.symm hij)] at h4
     rcases hat with e | e
     · exact h.apart j i hj hi (Ne.symm hij) _ h4 e
     · have := h.lt _ (.inr ⟨j, hj, h4⟩); omega
   · rw [uOt ei] at h1
     by_cases ej : j = k
     · subst ej
       rw [uSm, hnb] at h4
       obtain rfl : g' = x := by simpa using h4
       rcases hat with e | e
       · exact h.apart i j hi hj hij _ h1 e
       · have := h.lt _ (.inr ⟨i, hi, h1⟩); omega
     · rw [uOt ej] at h4
       exact h.apart i j hi hj hij x h1 h4
 · by_cases ei : i = k
   · subst ei
     rw [uSm, hnb] at e
     exact hg'g (by simpa using e)
   · rw [uOt ei] at e
     exact h.ne i hi e
 · exact (hT5.mono (fun x _ hx => (.inr ⟨k, hk, hx⟩ : HFoot g m V x))).trans hT6 (fun x _ e => .inl e)
 · intro x hx
   rcases hx with e | ⟨i, hi, hb⟩
   · exact .inl (.inl e)
   · by_cases ei : i = k
     · subst ei
       rw [uSm, hnb] at hb
       obtain rfl : g' = x := by simpa using hb
       rcases hat with e | e
       · exact .inl (.inr ⟨i, hi, e⟩)
       · exact .inr ⟨by omega, Nat.lt_of_lt_of_le hg'l hT6.size⟩
     · rw [uOt ei] at hb
       exact .inl (.inr ⟨i, hi, hb⟩)
end
end Go.Proofs.YtedpljclnpiggaaGreatDoor
