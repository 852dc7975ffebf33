/-
  script.step comes to stepD.
-/
import Derived.Test.YtbdcgdjhkcnekaaGreatDoorKinds
import Derived.Test.YtbdcgdjhkcnekaaGreatDoorPar
import Derived.Laws.ResultCell
import Derived.Laws.Rows
namespace Go.Proofs.YtbdcgdjhkcnekaaGreatDoor
open Go Go.RowKit Go.WideMaps Go.Maps

theorem KindsAt.below {B b k : Nat} {w w' : World} (h : KindsAt b k w) (hb : Below B w w') (hB : b < B) : KindsAt b k w' := by
  obtain ⟨es, clock, h0, h1⟩ := h
  exact ⟨es, clock, (hb.block b hB).trans h0, h1⟩

theorem parseInt_any (s : ByteArray) (hs : s.size ≤ 65536) (w : World) (he : Env w) :
    Calls Tryz.prog 119 #[.string s, .int .i64 10, .int .i64 64] w fun e w' => Below w.heap.size w w' ∧ ((∃ v, Lib.parseIntB 64 s.data.toList = .ok v ∧ e = .returned (.tuple #[.int .i64 v, .nilIface])) ∨
      (numD s.data.toList = none ∧ ∃ v t N, e = .returned (.tuple #[.int .i64 v, .iface t (.pointer (some ⟨N, 0, none⟩))]))) := by
  rcases h : Lib.parseIntB 64 s.data.toList with v | _ | _
  · refine (Tryz.strconv_ParseInt_10_at64_ok s (by omega) v h w).mono fun e w' ⟨h1, h2⟩ => ⟨?_, .inl ⟨v, rfl, h1⟩⟩
    rcases h2 with rfl | ⟨t, rfl⟩
    · exact Below.refl _ _
    · exact ⟨rfl, rfl, rfl, by rw [Lib.bytesWorld_size]; omega, fun i hi => Lib.bytesWorld_at_old _ _ _ _ hi⟩
  · obtain ⟨t, p, hv⟩ := he.synt
    exact (Any.strconv_ParseInt_10_at64_syntax_var Tryz.laysC174 s (by omega) h t p w hv).mono fun e w' ⟨N, h1, _, _, h2⟩ => ⟨h2, .inr ⟨by unfold numD; rw [h], _, _, N, h1⟩⟩
  · obtain ⟨t, p, hv⟩ := he.rang
    exact (Tryz.strconv_ParseInt_10_at64_range_var s (by omega) h t p w hv).mono fun e w' ⟨N, h1, _, _, h2⟩ => ⟨h2, .inr ⟨by unfold numD; rw [h], _, _, N, h1⟩⟩

def fld (fs : List ByteArray) (k : Nat) : ByteArray := fs.getD k ByteArray.empty

def StepRel (fs : List ByteArray) (w : World) (i : Value) (wr : World) : Prop :=
  ∃ (k : Nat) (v : Nat → Int), k ≤ 4 ∧ i = .int .i64 k ∧ (∀ j, j < k → numD (fld fs (j + 1)).data.toList = some (v j)) ∧
    wr.heap[w.heap.size + 2]? = some (.cells #[.int .i64 (v 0), .int .i64 (v 1), .int .i64 (v 2), .int .i64 (v 3)] 84 (0, 0)) ∧
    wr.heap[w.heap.size + 1]? = some (.cells (fs.map Value.string).toArray 9 (0, 0)) ∧
    wr.heap[w.heap.size]? = some (.cells (⟨0, 0, 0, 0, 0⟩ : StepD).arr 72 (0, 0)) ∧ Below w.heap.size w wr

theorem splitB_size (sep : ByteArray) : ∀ (k : Nat) (s : ByteArray), ∀ x ∈ Lib.splitB sep 0 k s, x.size ≤ s.size
  | 0, s, x, hx => by
    obtain rfl : x = s := by simpa [Lib.splitB_zero] using hx
    exact Nat.le_refl _
  | k + 1, s, x, hx => by
    unfold Lib.splitB at hx
    split at hx
    · obtain rfl : x = s := by simpa using hx
      exact Nat.le_refl _
    · rcases List.mem_cons.1 hx with rfl | h
      · rw [ByteArray.size_extract]; omega
      · have := splitB_size sep k _ x h
        rw [ByteArray.size_extract] at this; omega

def StepPost (w : World) (l : List UInt8) (e : Ending) (w' : World) : Prop :=
  (∃ t : StepD, e = .returned (.tuple #[.agg t.arr, .bool (stepD l).isSome]) ∧ (∀ t', stepD l = some t' → t = t')) ∧ Below w.heap.size w w'

theorem step_none {w w' : World} {l : List UInt8} (t : StepD) (h : stepD l = none) (hb : Below w.heap.size w w') : StepPost w l (.returned (.tuple #[.agg t.arr, .bool false])) w' :=
  ⟨⟨t, by rw [h]; rfl, fun t' h' => by rw [h] at h'; cases h'⟩, hb⟩

theorem step_results (tmps : Array Value) (w : World) (g : Nat) (t : StepD) (ok : Bool) (h4 : tmps.getD 4 undef = .pointer (some ⟨g, 0, none⟩)) (h5 : tmps.getD 5 undef = .bool ok)
    (hg : w.heap[g]? = some (.cells t.arr 72 (0, 0))) : (results Tryz.f12 tmps).run Tryz.prog w = .ok (.tuple #[.agg t.arr, .bool ok]) w := by
  have hl := run_loadVar_row (P := Tryz.prog) w g 72 72 t.arr (0, 0) _ hg Tryz.underlying72 rfl (by kernel_rfl)
  have ha : (asAddr (.pointer (some ⟨g, 0, none⟩))).run Tryz.prog w = .ok ⟨g, 0, none⟩ w := by simp [asAddr]
  rw [results_cell_tmp (p := 4) (u := 5) (ty := 72) (by kernel_rfl), h4, h5, ha]
  simp [Result.andThen, hl]

theorem res_facts {W : World} {g : Nat} {t : StepD} (h : W.heap[g]? = some (.cells t.arr 72 (0, 0))) :
    W.cell? ⟨g, 0, none⟩ = some (.int .u8 t.kind) ∧ W.cell? ⟨g, 1, none⟩ = some (.int .i64 t.node) ∧ W.cell? ⟨g, 2, none⟩ = some (.int .i64 t.a) ∧ W.cell? ⟨g, 3, none⟩ = some (.int .i64 t.b) ∧ W.cell? ⟨g, 4, none⟩ = some (.int .i64 t.l) ∧
    W.frozen? ⟨g, 0, none⟩ = false ∧ W.frozen? ⟨g, 1, none⟩ = false ∧ W.frozen? ⟨g, 2, none⟩ = false ∧ W.frozen? ⟨g, 3, none⟩ = false ∧ W.frozen? ⟨g, 4, none⟩ = false :=
  ⟨by rw [cell_row h]; rfl, by rw [cell_row h]; rfl, by rw [cell_row h]; rfl, by rw [cell_row h]; rfl, by rw [cell_row h]; rfl, free_row h _, free_row h _, free_row h _, free_row h _, free_row h _⟩

theorem arr_facts {W : World} {g : Nat} {v0 v1 v2 v3 : Value} {e : TypeId} (k : Nat) (hk : k < 4) (h : W.heap[g + 2]? = some (.cells #[v0, v1, v2, v3] e (0, 0))) :
    ∃ v, W.cell? ⟨g + 1 + 1, k, none⟩ = some v ∧ W.frozen? ⟨g + 1 + 1, k, none⟩ = false := by
  refine ⟨#[v0, v1, v2, v3][k]'(by simpa using hk), ?_, free_row h _⟩
  rw [cell_row h]
  exact Array.getElem?_eq_getElem _

theorem setCell_other {W : World} (a : Addr) (v : Value) {j : Nat} (h : j ≠ a.block) : (W.setCell a v).heap[j]? = W.heap[j]? := by
  simp [World.setCell, Array.getElem?_modify, Ne.symm h]

theorem step_no {l : List UInt8} {f0 f1 f2 f3 f4 : ByteArray} {k : Nat} {v : Nat → Int} (_ : ∀ j, j < k → numD (fld [f0, f1, f2, f3, f4] (j + 1)).data.toList = some (v j)) (hk : k < 4) (hn : numD (fld [f0, f1, f2, f3, f4] (k + 1)).data.toList = none)
    (hst : stepD l = stepN f0.data.toList (numD f1.data.toList) (numD f2.data.toList) (numD f3.data.toList) (numD f4.data.toList)) : stepD l = none := by
  rw [hst]
  have : k = 0 ∨ k = 1 ∨ k = 2 ∨ k = 3 := by omega
  rcases this with rfl | rfl | rfl | rfl
  · rw [show numD f1.data.toList = none from hn]; rfl
  · rw [show numD f2.data.toList = none from hn]
    cases numD f1.data.toList <;> rfl
  · rw [show numD f3.data.toList = none from hn]
    cases numD f1.data.toList <;> cases numD f2.data.toList <;> rfl
  · rw [show numD f4.data.toList = none from hn]
    cases numD f1.data.toList <;> cases numD f2.data.toList <;> cases numD f3.data.toList <;> rfl

/-- What strings.Split hands back here. -/
def SplitsTo (s : ByteArray) (fs : List ByteArray) : Prop :=
  fs.length ≤ 65537 ∧ fs.map (·.data.toList) = Lib.split s.data.toList [32] ∧ (∀ x ∈ fs, x.size ≤ 65536) ∧ ∀ (n : Int) (W : World), n = fs.length → Env W →
    Calls Tryz.prog 118 #[.string s, .string ⟨#[32]⟩] W fun e w' => e = .returned (.slice (some ⟨W.heap.size, 0, none⟩) n.toNat n.toNat) ∧ w' = W.alloc (.cells (fs.map Value.string).toArray 9)

theorem splits (s : ByteArray) (hs : s.size ≤ 65536) : ∃ fs, SplitsTo s fs := by
  have hcnt : Lib.countB s ⟨#[32]⟩ + 1 ≤ 65537 := by
    have := Lib.countB_le ⟨#[32]⟩ (by decide) s.size s (Nat.le_refl _)
    omega
  have hlen : (Lib.splitB ⟨#[32]⟩ 0 (Lib.countB s ⟨#[32]⟩) s).length = Lib.countB s ⟨#[32]⟩ + 1 := Lib.splitB_all _ (by decide) 0 _ _ rfl
  refine ⟨Lib.splitB ⟨#[32]⟩ 0 (Lib.countB s ⟨#[32]⟩) s, by omega, by rw [Lib.splitB_data]; rfl, fun x hx => ?_, fun n W hn hW => ?_⟩
  · have := splitB_size _ _ _ x hx; omega
  · obtain ⟨m, hm⟩ := hW.max
    have h := Tryz.strings_Split s ⟨#[32]⟩ m W (by omega) hm (by decide)
    rw [hn, hlen, Int.toNat_natCast]
    exact h

set_option maxRecDepth 100000 in
set_option maxHeartbeats 800000 in
theorem step_bad (s : ByteArray) (fs : List ByteArray) (hsp : SplitsTo s fs) (h5 : fs.length ≠ 5) (mb : Nat) (w : World) (he : Env w) (hm : KindsAt mb 20 w) :
    Calls Tryz.prog 12 #[.string s, .map (some mb)] w (StepPost w s.data.toList) := by
  have hno : stepD s.data.toList = none := by
    unfold stepD
    rw [← hsp.2.1]
    split
    · rename_i h
      have := congrArg List.length h
      simp at this
      exact absurd this h5
    · rfl
  have hlen := hsp.1
  have Hsp := Lib.hid hsp; clear hsp
  have Hno := Lib.hid hno; clear hno
  have Henv := Lib.hid he; clear he
  have Hm := Lib.hid hm; clear hm
  have h5' : ((fs.length : Int) != 5) = true := by simp; omega
  go_enter Tryz.func12, Tryz.ntmps12
  go_wp2_with (go_at_call 118; refine (Hsp.out.2.2.2 fs.length _ rfl (Henv.out.below ((Below.refl _ _).alloc (Nat.le_refl _) _) Henv.out.size)).mono ?_; rintro e w1 ⟨rfl, rfl⟩)
  refine bodyPost_ret_by (step_results _ _ w.heap.size ⟨0, 0, 0, 0, 0⟩ false rfl rfl ?_) rfl (step_none ⟨0, 0, 0, 0, 0⟩ Hno.out ?_)
  · rw [heap_alloc_old _ _ (by simp)]
    exact row_alloc _ _ _
  · exact (((Below.refl _ _).alloc (Nat.le_refl _) _).alloc (by simp) _)

set_option maxRecDepth 100000 in
set_option maxHeartbeats 800000 in
theorem step_five (s : ByteArray) (f0 f1 f2 f3 f4 : ByteArray) (hsp : SplitsTo s [f0, f1, f2, f3, f4]) (mb : Nat) (w : World) (he : Env w) (hm : KindsAt mb 20 w) :
    Calls Tryz.prog 12 #[.string s, .map (some mb)] w (StepPost w s.data.toList) := by
  have hst : stepD s.data.toList = stepN f0.data.toList (numD f1.data.toList) (numD f2.data.toList) (numD f3.data.toList) (numD f4.data.toList) := by
    unfold stepD
    rw [← hsp.2.1]
    rfl
  have Hsp := Lib.hid hsp; clear hsp
  have Hst := Lib.hid hst; clear hst
  have Henv := Lib.hid he; clear he
  have Hm := Lib.hid hm; clear hm
  go_enter Tryz.func12, Tryz.ntmps12
  go_wp2_with (go_at_call 118; refine (Hsp.out.2.2.2 5 _ rfl (Henv.out.below ((Below.refl _ _).alloc (Nat.le_refl _) _) Henv.out.size)).mono ?_; rintro e w1 ⟨rfl, rfl⟩)
  go_loopw [23] (fun i wr => StepRel [f0, f1, f2, f3, f4] w i wr) (fun i _ => 4 - (intOf i).toNat)
  case atStart =>
    refine ⟨0, fun _ => 0, by omega, rfl, fun j hj => by omega, ?_, ?_, ?_, ?_⟩
    · have h := row_alloc (w := (w.alloc (.cells #[.int .u8 0, .int .i64 0, .int .i64 0, .int .i64 0, .int .i64 0] 72)).alloc (.cells #[.string f0, .string f1, .string f2, .string f3, .string f4] 9)) #[.int .i64 0, .int .i64 0, .int .i64 0, .int .i64 0] 84 (0, 0)
      simpa using h
    · rw [heap_alloc_old _ _ (by simp)]
      have h := row_alloc (w := (w.alloc (.cells #[.int .u8 0, .int .i64 0, .int .i64 0, .int .i64 0, .int .i64 0] 72))) #[.string f0, .string f1, .string f2, .string f3, .string f4] 9 (0, 0)
      simpa using h
    · rw [heap_alloc_old _ _ (by simp; omega), heap_alloc_old _ _ (by simp)]
      exact row_alloc _ _ _
    · exact (((Below.refl _ _).alloc (Nat.le_refl _) _).alloc (by simp) _).alloc (by simp; omega) _
  case round =>
    obtain ⟨k, v, hk, rfl, hall, harr, hrow, hres, hb⟩ := hrel
    have Hall := Lib.hid hall; clear hall
    have Harr := Lib.hid harr; clear harr
    have Hrow := Lib.hid hrow; clear hrow
    have Hres := Lib.hid hres; clear hres
    have Hb := Lib.hid hb; clear hb
    by_cases hlt : k < 4
    · have hcw : wr.cell? ⟨w.heap.size + 1, 1 + k, none⟩ = some (.string (fld [f0, f1, f2, f3, f4] (k + 1))) := by
        rw [cell_row Hrow.out]
        have : k = 0 ∨ k = 1 ∨ k = 2 ∨ k = 3 := by omega
        rcases this with rfl | rfl | rfl | rfl <;> rfl
      have hfs : (fld [f0, f1, f2, f3, f4] (k + 1)).size ≤ 65536 := Hsp.out.2.2.1 _ (by
        have : k = 0 ∨ k = 1 ∨ k = 2 ∨ k = 3 := by omega
        rcases this with rfl | rfl | rfl | rfl <;> simp [fld])
      generalize hf : fld [f0, f1, f2, f3, f4] (k + 1) = f at hcw hfs
      obtain ⟨lf, rfl⟩ : ∃ lf : List UInt8, f = ⟨lf.toArray⟩ := ⟨f.data.toList, by simp⟩
      have Hf := Lib.hid hf; clear hf
      have hE := Henv.out.below Hb.out Henv.out.size
      have HE := Lib.hid hE; clear hE
      go_wp2_with fail
      refine (parseInt_any ⟨lf.toArray⟩ hfs _ HE.out).mono ?_
      rintro e w1 ⟨hb1, h⟩
      have Hb1 := Lib.hid hb1; clear hb1
      have hlt2 : w.heap.size + 2 < wr.heap.size := (Array.getElem?_eq_some_iff.1 Harr.out).1
      have Harr1 := Lib.hid ((Hb1.out.block _ hlt2).trans Harr.out)
      have Hrow1 := Lib.hid ((Hb1.out.block _ (show w.heap.size + 1 < _ by omega)).trans Hrow.out)
      have Hres1 := Lib.hid ((Hb1.out.block _ (show w.heap.size < _ by omega)).trans Hres.out)
      have Hb2 := Lib.hid (Hb.out.trans (Hb1.out.mono Hb.out.size))
      clear Hb1 Harr Hrow Hres Hb HE hcw
      rcases h with ⟨x, hx, rfl⟩ | ⟨hn, x, t, N, rfl⟩
      · have hxb := parse_bound hx
        have Hx := Lib.hid hx; clear hx
        have HE1 := Lib.hid (Henv.out.below Hb2.out Henv.out.size)
        go_wp2_with fail
        refine (fmt_any x hxb.1 hxb.2 _ HE1.out).mono ?_
        rintro e w2 ⟨rfl, hg2⟩
        have hs1 : w.heap.size + 2 < w1.heap.size := (Array.getElem?_eq_some_iff.1 Harr1.out).1
        have harr2 := (hg2.block _ hs1).trans Harr1.out
        have hrow2 := (hg2.block _ (show w.heap.size + 1 < _ by omega)).trans Hrow1.out
        have hres2 := (hg2.block _ (show w.heap.size < _ by omega)).trans Hres1.out
        have hb3 := Hb2.out.trans (hg2.mono Hb2.out.size)
        have Harr2 := Lib.hid harr2; clear harr2
        have Hrow2 := Lib.hid hrow2; clear hrow2
        have Hres2 := Lib.hid hres2; clear hres2
        have Hb3 := Lib.hid hb3; clear hb3 hg2
        clear Hb2 Harr1 Hrow1 Hres1 HE1
        obtain ⟨c0, c1, c2, c3, c4, z0, z1, z2, z3, z4⟩ := res_facts Hres2.out
        obtain ⟨va, ca, za⟩ := arr_facts k hlt Harr2.out
        go_wp2
        · have htest : (!Lib.itoa x == lf) = true := by assumption
          have hn : Lib.itoa x ≠ lf := by simpa using htest
          have hno := step_no Hall.out hlt (by rw [Hf.out]; unfold numD; rw [Hx.out]; exact if_neg hn) Hst.out
          refine bodyPost_ret_by (step_results _ _ w.heap.size ⟨0, 0, 0, 0, 0⟩ false rfl rfl ?_) rfl (step_none ⟨0, 0, 0, 0, 0⟩ hno ?_)
          · exact row_setCell (row_setCell (row_setCell (row_setCell (row_setCell Hres2.out _ _) _ _) _ _) _ _) _ _
          · exact ((((Hb3.out.setCell (Nat.le_refl _) _).setCell (Nat.le_refl _) _).setCell (Nat.le_refl _) _).setCell (Nat.le_refl _) _).setCell (Nat.le_refl _) _
        · have htest : (!Lib.itoa x == lf) = false := by assumption
          have hn : Lib.itoa x = lf := by simpa using htest
          have Hn := Lib.hid hn; clear hn
          refine ⟨⟨k + 1, fun j => if j = k then x else v j, by omega, by go_num, ?_, ?_, ?_, ?_, ?_⟩, by simp [intOf]; omega⟩
          · intro j hj
            by_cases h : j = k
            · subst h
              simp only [if_true]
              rw [Hf.out]
              unfold numD
              rw [Hx.out]
              exact if_pos Hn.out
            · simp only [if_neg h]
              exact Hall.out j (by omega)
          · have h := row_setCell Harr2.out k (.int .i64 x)
            refine h.trans ?_
            have : k = 0 ∨ k = 1 ∨ k = 2 ∨ k = 3 := by omega
            rcases this with rfl | rfl | rfl | rfl <;> rfl
          · rw [setCell_other _ _ (by simp only; omega)]
            exact Hrow2.out
          · rw [setCell_other _ _ (by simp only; omega)]
            exact Hres2.out
          · exact Hb3.out.setCell (by simp only; omega) _
      · have hno := step_no Hall.out hlt (by rw [Hf.out]; exact hn) Hst.out
        have Hno := Lib.hid hno; clear hno
        clear hn
        obtain ⟨c0, c1, c2, c3, c4, z0, z1, z2, z3, z4⟩ := res_facts Hres1.out
        go_wp2
        refine bodyPost_ret_by (step_results _ _ w.heap.size ⟨0, 0, 0, 0, 0⟩ false rfl rfl ?_) rfl (step_none ⟨0, 0, 0, 0, 0⟩ Hno.out ?_)
        · exact row_setCell (row_setCell (row_setCell (row_setCell (row_setCell Hres1.out _ _) _ _) _ _) _ _) _ _
        · exact ((((Hb2.out.setCell (Nat.le_refl _) _).setCell (Nat.le_refl _) _).setCell (Nat.le_refl _) _).setCell (Nat.le_refl _) _).setCell (Nat.le_refl _) _
    · obtain rfl : k = 4 := by omega
      obtain ⟨c0, c1, c2, c3, c4, z0, z1, z2, z3, z4⟩ := res_facts Hres.out
      have a0 : wr.cell? ⟨w.heap.size + 1 + 1, 0, none⟩ = some (.int .i64 (v 0)) := by rw [cell_row Harr.out]; rfl
      have a1 : wr.cell? ⟨w.heap.size + 1 + 1, 1, none⟩ = some (.int .i64 (v 1)) := by rw [cell_row Harr.out]; rfl
      have a2 : wr.cell? ⟨w.heap.size + 1 + 1, 2, none⟩ = some (.int .i64 (v 2)) := by rw [cell_row Harr.out]; rfl
      have a3 : wr.cell? ⟨w.heap.size + 1 + 1, 3, none⟩ = some (.int .i64 (v 3)) := by rw [cell_row Harr.out]; rfl
      have s0 : wr.cell? ⟨w.heap.size + 1, 0, none⟩ = some (.string f0) := by rw [cell_row Hrow.out]; rfl
      have hkey : keyOf Tryz.prog 9 (.string f0) = some (.string f0.data.toList) := keyOf_string_mk Tryz.underlying9 (by
        have := Hsp.out.2.2.1 f0 (by simp)
        unfold maxLen; omega)
      have Hkey := Lib.hid hkey; clear hkey
      have hmb : mb < w.heap.size := World.ownsMap.lt Hm.out
      have Hm2 := Lib.hid (Hm.out.below Hb.out hmb)
      have hat := kindsD_at f0.data.toList
      have Hat := Lib.hid hat; clear hat
      go_wp2_with (at_lookup; refine wpList_lookup_own_ok_int _ rfl _ _ 66 rfl 9 70 .u8 law9 Tryz.underlying66 Tryz.underlying70 rfl mb _ _ rfl Hm2.out _ _ rfl Hkey.out ?_; intro c hc hwf)
      have hcE : c = wordIdx f0.data.toList := by
        have h := hc.symm.trans Hat.out.1
        injection h with h
        injection h
      refine bodyPost_ret_by (step_results _ _ w.heap.size ⟨c, v 0, v 1, v 2, v 3⟩ (has (kindsD 20) (.string f0.data.toList)) rfl rfl ?_) rfl ?_
      · exact row_setCell (row_setCell (row_setCell (row_setCell (row_setCell Hres.out _ _) _ _) _ _) _ _) _ _
      · refine ⟨?_, ((((Hb.out.setCell (Nat.le_refl _) _).setCell (Nat.le_refl _) _).setCell (Nat.le_refl _) _).setCell (Nat.le_refl _) _).setCell (Nat.le_refl _) _⟩
        have e : stepD s.data.toList = if wordIdx f0.data.toList = 0 then none else some ⟨wordIdx f0.data.toList, v 0, v 1, v 2, v 3⟩ := by
          rw [Hst.out, show numD f1.data.toList = some (v 0) from Hall.out 0 (by omega), show numD f2.data.toList = some (v 1) from Hall.out 1 (by omega), show numD f3.data.toList = some (v 2) from Hall.out 2 (by omega), show numD f4.data.toList = some (v 3) from Hall.out 3 (by omega)]
          rfl
        refine ⟨⟨c, v 0, v 1, v 2, v 3⟩, ?_, ?_⟩
        · rw [Hat.out.2, e]
          by_cases h0 : wordIdx f0.data.toList = 0
          · rw [if_pos h0]; simp [h0]
          · rw [if_neg h0]; simp [h0]
        · intro t' ht'
          rw [e] at ht'
          split at ht'
          · cases ht'
          · injection ht' with ht'
            rw [← ht', hcE]

theorem step_any (s : ByteArray) (hs : s.size ≤ 65536) (mb : Nat) (w : World) (he : Env w) (hm : KindsAt mb 20 w) :
    Calls Tryz.prog 12 #[.string s, .map (some mb)] w (StepPost w s.data.toList) := by
  obtain ⟨fs, hsp⟩ := splits s hs
  by_cases h5 : fs.length = 5
  · match fs, h5, hsp with
    | [f0, f1, f2, f3, f4], _, hsp => exact step_five s f0 f1 f2 f3 f4 hsp mb w he hm
  · exact step_bad s fs hsp h5 mb w he hm

theorem stepN_ok {k : List UInt8} {n a b c : Option Int} {t : StepD} (h : stepN k n a b c = some t) : ∃ n' a' b' c', n = some n' ∧ a = some a' ∧ b = some b' ∧ c = some c' ∧ wordIdx k ≠ 0 ∧ t = ⟨wordIdx k, n', a', b', c'⟩ := by
  unfold stepN at h
  split at h
  · split at h
    · cases h
    · injection h with h
      exact ⟨_, _, _, _, rfl, rfl, rfl, rfl, by assumption, h.symm⟩
  · cases h
theorem stepD_ok {l : List UInt8} {t : StepD} (h : stepD l = some t) : t.ok := by
  unfold stepD at h
  split at h
  · obtain ⟨n, a, b, c, h1, h2, h3, h4, _, rfl⟩ := stepN_ok h
    exact ⟨⟨by simp only; omega, Int.le_trans (Int.ofNat_le.2 (wordIdx_le _)) (by decide)⟩, numD_bound h1, numD_bound h2, numD_bound h3, numD_bound h4⟩
  · cases h
end Go.Proofs.YtbdcgdjhkcnekaaGreatDoor
