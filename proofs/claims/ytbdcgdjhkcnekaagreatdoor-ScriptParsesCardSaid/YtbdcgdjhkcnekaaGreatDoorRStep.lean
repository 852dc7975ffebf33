/-
  The reference's step comes to stepD.
-/
import Derived.Test.YtbdcgdjhkcnekaaGreatDoorNumA
import Derived.Test.YtbdcgdjhkcnekaaGreatDoorPieces
import Derived.Deep.QuietTactic
import Derived.BigQuiet
import Derived.RegionTactic
import Derived.ChangeAlike
namespace Go.Proofs.YtbdcgdjhkcnekaaGreatDoor
open Go Go.RowKit

theorem wordIdx_iff (l : List UInt8) (k : Nat) (hk : k < 20) : wordIdx l = k + 1 ↔ word (k + 1) = l := by
  have e := wordIdx_word ⟨k, hk⟩
  simp only at e
  constructor
  · intro h
    unfold wordIdx at h
    cases hf : wordTab.findIdx? (fun x => x == l) with
    | none => rw [hf] at h; simp at h
    | some i =>
      rw [hf] at h
      simp only at h
      obtain rfl : i = k := by omega
      obtain ⟨h1, h2, _⟩ := List.findIdx?_eq_some_iff_getElem.1 hf
      have h3 : wordTab[i] = l := by simpa using h2
      simp only [word, Nat.add_sub_cancel]
      rw [List.getD_eq_getElem?_getD, List.getElem?_eq_getElem h1]
      exact h3
  · intro h
    rw [← h]
    simpa [word] using e

def RPost (w : World) (l : List UInt8) (e : Ending) (w' : World) : Prop :=
  (∃ t : StepD, e = .returned (.tuple #[.agg t.arr, .bool (stepD l).isSome]) ∧ (∀ t', stepD l = some t' → t = t')) ∧ Below w.heap.size w w'

theorem r_none {w w' : World} {l : List UInt8} (t : StepD) (h : stepD l = none) (hb : Below w.heap.size w w') : RPost w l (.returned (.tuple #[.agg t.arr, .bool false])) w' :=
  ⟨⟨t, by rw [h]; rfl, fun t' h' => by rw [h] at h'; cases h'⟩, hb⟩

theorem rstep_results (tmps : Array Value) (w : World) (g : Nat) (t : StepD) (ok : Bool) (h2 : tmps.getD 2 undef = .pointer (some ⟨g, 0, none⟩)) (h3 : tmps.getD 3 undef = .bool ok)
    (hg : w.heap[g]? = some (.cells t.arr 72 (0, 0))) : (results Tryz.f13 tmps).run Tryz.prog w = .ok (.tuple #[.agg t.arr, .bool ok]) w := by
  have hl := run_loadVar_row (P := Tryz.prog) w g 72 72 t.arr (0, 0) _ hg Tryz.underlying72 rfl (by kernel_rfl)
  have ha : (asAddr (.pointer (some ⟨g, 0, none⟩))).run Tryz.prog w = .ok ⟨g, 0, none⟩ w := by simp [asAddr]
  rw [results_cell_tmp (p := 2) (u := 3) (ty := 72) (by kernel_rfl), h2, h3, ha]
  simp [Result.andThen, hl]

set_option maxRecDepth 100000 in
set_option maxHeartbeats 800000 in
theorem rstep_bad (S : ByteArray) (l : List UInt8) (hS : Bytes S l) (hm : l.length ≤ 65536) (h5 : (Lib.split l [32]).length ≠ 5) (w : World) :
    Calls Tryz.prog 13 #[.string S] w (RPost w l) := by
  have hno : stepD l = none := by
    unfold stepD
    split
    · rename_i h
      exact absurd (by rw [h]; rfl) h5
    · rfl
  have Hno := Lib.hid hno; clear hno
  obtain ⟨n, hn⟩ : ∃ n, n = (Lib.split l [32]).length := ⟨_, rfl⟩
  have h5' : ((n : Int) != 5) = true := by simp; omega
  go_enter Tryz.func13, Tryz.ntmps13
  go_wp2_with fail
  refine (pieces_any S l hS hm _).mono ?_
  rintro e w1 ⟨v, rfl, hown, hb⟩
  obtain ⟨a, c, rfl, _⟩ := own_slen hown
  rw [← hn]
  have hrow := (hb.block w.heap.size (by simp)).trans (row_alloc (w := w) (⟨0, 0, 0, 0, 0⟩ : StepD).arr 72 (0, 0))
  obtain ⟨c0, c1, c2, c3, c4, z0, z1, z2, z3, z4⟩ := res_facts hrow
  have Hrow := Lib.hid hrow; clear hrow
  have Hb := Lib.hid (((Below.refl w.heap.size w).alloc (Nat.le_refl _) (.cells (⟨0, 0, 0, 0, 0⟩ : StepD).arr 72)).trans (hb.mono (by simp)))
  clear hb hown
  go_wp2
  refine bodyPost_ret_by (rstep_results _ _ w.heap.size ⟨0, 0, 0, 0, 0⟩ false rfl rfl ?_) rfl (r_none ⟨0, 0, 0, 0, 0⟩ Hno.out ?_)
  · exact row_setCell (row_setCell (row_setCell (row_setCell (row_setCell Hrow.out _ _) _ _) _ _) _ _) _ _
  · exact ((((Hb.out.setCell (Nat.le_refl _) _).setCell (Nat.le_refl _) _).setCell (Nat.le_refl _) _).setCell (Nat.le_refl _) _).setCell (Nat.le_refl _) _

theorem size_alloc' (w : World) (o : Obj) : (w.alloc o).heap.size = w.heap.size + 1 := by simp

theorem own_keep {w w' : World} {B : Nat} {e : TypeId} {size n : Nat} {v : Value} {xs : List Value} (h : w.ownsRow B e size v n xs) (hb : Grows w w') : w'.ownsRow B e size v n xs := by
  refine ⟨h.1, ?_⟩
  rcases h.2 with h | ⟨g, cap, cur, h1, h2, h3, h4⟩
  · exact .inl h
  · exact .inr ⟨g, cap, cur, h1, h2, row_grows hb h3, h4⟩

theorem own_base {w : World} {B : Nat} {e : TypeId} {size n : Nat} {v : Value} {xs : List Value} (h : w.ownsRow B e size v n xs) : ∀ k, v.ownBlock = some k → B ≤ k := by
  intro k hk
  rcases h.2 with ⟨rfl, _⟩ | ⟨g, cap, cur, rfl, h2, _⟩
  · cases hk
  · obtain rfl : g = k := by simpa [Value.ownBlock] using hk
    exact h2

def kUp (l0 : List UInt8) (k : Nat) : Nat := if wordIdx l0 ≤ k then wordIdx l0 else 0
theorem kUp_zero (l0 : List UInt8) : kUp l0 0 = 0 := by unfold kUp; split <;> omega
theorem kUp_hit {l0 : List UInt8} {k : Nat} (h : wordIdx l0 = k + 1) : kUp l0 (k + 1) = k + 1 := by unfold kUp; rw [if_pos (by omega), h]
theorem kUp_miss {l0 : List UInt8} {k : Nat} (h : wordIdx l0 ≠ k + 1) : kUp l0 (k + 1) = kUp l0 k := by
  unfold kUp
  by_cases h' : wordIdx l0 ≤ k
  · rw [if_pos h', if_pos (by omega)]
  · rw [if_neg h', if_neg (by omega)]
theorem kUp_all (l0 : List UInt8) : kUp l0 20 = wordIdx l0 := if_pos (wordIdx_le l0)

def KRelR (l0 : List UInt8) (kv iv : Value) : Prop := ∃ k : Nat, k ≤ 20 ∧ iv = .int .i64 k ∧ kv = .int .i64 (kUp l0 k : Int)

def p5 (ps : List (List UInt8)) : List Value := strV ps

def NRel (ps : List (List UInt8)) (w wm : World) (nv iv : Value) (wr : World) : Prop :=
  ∃ (k : Nat) (vs : List Int), k ≤ 4 ∧ iv = .int .i64 ((k + 1 : Nat) : Int) ∧ vs.length = k ∧ (∀ j, j < k → numD (ps.getD (j + 1) []) = some (vs.getD j 0)) ∧ wr.ownsRow wm.heap.size 2 1 nv k (vs.map (Value.int .i64)) ∧ Below wm.heap.size wm wr

theorem info2 : (Tryz.prog.info? 2).map (fun i => (i.zero, i.size, i.bytes)) = some (some (.int .i64 0), 1, 8) := by kernel_rfl

set_option maxRecDepth 100000 in
set_option maxHeartbeats 1600000 in
theorem rstep_five (S : ByteArray) (l l0 l1 l2 l3 l4 : List UInt8) (hS : Bytes S l) (hm : l.length ≤ 65536) (h5 : Lib.split l [32] = [l0, l1, l2, l3, l4]) (hle : ∀ x ∈ [l0, l1, l2, l3, l4], x.length ≤ 65536) (w : World) :
    Calls Tryz.prog 13 #[.string S] w (RPost w l) := by
  have hst : stepD l = stepN l0 (numD l1) (numD l2) (numD l3) (numD l4) := by
    unfold stepD
    rw [h5]
  have Hst := Lib.hid hst; clear hst
  have Hle := Lib.hid hle; clear hle
  obtain ⟨i0, hi0, hz0, hz1, hz2⟩ := info_parts info2
  go_enter Tryz.func13, Tryz.ntmps13
  go_wp2_with fail
  refine (pieces_any S l hS hm _).mono ?_
  rintro e w1 ⟨v, rfl, hown, hb⟩
  rw [h5] at hown
  obtain ⟨_, hv⟩ := hown
  rcases hv with ⟨_, h0⟩ | ⟨g, cap, cur, rfl, hg1, hg2, _, _, hcs, htk⟩
  · simp at h0
  have hrow := (hb.block w.heap.size (by simp)).trans (row_alloc (w := w) (⟨0, 0, 0, 0, 0⟩ : StepD).arr 72 (0, 0))
  have hcell : ∀ (j : Nat) (x : List UInt8), [l0, l1, l2, l3, l4][j]? = some x → cur[j]? = some (Value.string ⟨x.toArray⟩) := by
    intro j x hx
    have h := congrArg (fun L => L[j]?) htk
    simp only [strV, List.getElem?_map, hx, Option.map_some] at h
    have hj := (List.getElem?_eq_some_iff.1 hx).1
    rw [List.getElem?_take, if_pos (by simpa using hj), Array.getElem?_toList] at h
    exact h
  have Hcell := Lib.hid hcell; clear hcell htk
  have Hrow := Lib.hid hrow; clear hrow
  have Hg2 := Lib.hid hg2; clear hg2
  have hgne : w.heap.size < g := by simp at hg1; omega
  have Hb := Lib.hid (((Below.refl w.heap.size w).alloc (Nat.le_refl _) (.cells (⟨0, 0, 0, 0, 0⟩ : StepD).arr 72)).trans (hb.mono (by simp)))
  clear hb
  simp only [List.length_cons, List.length_nil]
  go_wp2_with fail
  refine (words_any _).mono ?_
  rintro e w2 ⟨rfl, hwr, hws, hb2⟩
  have hg2lt : g < w1.heap.size := (Array.getElem?_eq_some_iff.1 Hg2.out).1
  have Hg3 := Lib.hid ((hb2.block _ hg2lt).trans Hg2.out)
  have Hrow3 := Lib.hid ((hb2.block _ (by have := (Array.getElem?_eq_some_iff.1 Hrow.out).1; exact this)).trans Hrow.out)
  have Hwr := Lib.hid hwr; clear hwr
  have Hb2 := Lib.hid (Hb.out.trans (hb2.mono Hb.out.size)); clear hb2
  clear Hg2 Hrow Hb
  have d0 : w2.cell? ⟨g, 0, none⟩ = some (.string ⟨l0.toArray⟩) := by rw [cell_row Hg3.out]; exact Hcell.out 0 l0 rfl
  go_wp2
  go_loopw [6, 7] (fun kv iv wr => KRelR l0 kv iv ∧ ∃ d, wr = w2.drewN d) (fun _ iv _ => 20 - (intOf iv).toNat)
  case atStart => exact ⟨⟨0, by omega, rfl, by rw [kUp_zero]; rfl⟩, 0, rfl⟩
  case round =>
    obtain ⟨⟨k, hk, rfl, rfl⟩, d, rfl⟩ := hrel
    by_cases hlt : k < 20
    · have hcw : w2.cell? ⟨w1.heap.size, k, none⟩ = some (.string ⟨(word (k + 1)).toArray⟩) := word_cell hlt Hwr.out
      have hiff := wordIdx_iff l0 k hlt
      have Hiff := Lib.hid hiff; clear hiff
      generalize hwd : word (k + 1) = wd at hcw Hiff
      clear hwd
      have hk0 : (k : Int) < 20 := by omega
      have hk1 : (0 : Int) ≤ (k : Int) := by omega
      go_wp2_with fail
      go_quiet (fail)
      go_wp2
      · have htest : (wd == l0) = true := by assumption
        have hid : wordIdx l0 = k + 1 := Hiff.out.2 (by simpa using htest)
        exact ⟨⟨⟨k + 1, by omega, by go_num, by rw [kUp_hit hid]; go_num⟩, d + nq, rfl⟩, by simp [intOf]; omega⟩
      · have htest : (wd == l0) = false := by assumption
        have hid : wordIdx l0 ≠ k + 1 := fun e => by
          have := Hiff.out.1 e
          subst this
          simp at htest
        exact ⟨⟨⟨k + 1, by omega, by go_num, by rw [kUp_miss hid]⟩, d + nq, rfl⟩, by simp [intOf]; omega⟩
    · obtain rfl : k = 20 := by omega
      rw [kUp_all]
      have hwi := wordIdx_le l0
      generalize hwidx : wordIdx l0 = kx at hwi ⊢
      have Hwidx := Lib.hid hwidx; clear hwidx
      go_wp2
      go_loopw [8, 9] (fun nv iv wr => NRel [l0, l1, l2, l3, l4] w (w2.drewN d) nv iv wr) (fun _ iv _ => 5 - (intOf iv).toNat)
      case atStart => exact ⟨0, [], by omega, rfl, rfl, fun j hj => by omega, ⟨rfl, .inl ⟨rfl, rfl⟩⟩, Below.refl _ _⟩
      case round =>
        obtain ⟨k, vs, hk, rfl, hvl, hnum, hown, hb⟩ := hrel
        have Hnum := Lib.hid hnum; clear hnum
        have Hown := Lib.hid hown; clear hown
        have Hbw := Lib.hid hb; clear hb
        have hG : Hid (wr.heap[g]? = some (.cells cur 9 (0, 0))) := Lib.hid ((Hbw.out.block g (Array.getElem?_eq_some_iff.1 Hg3.out).1).trans Hg3.out)
        have hR : Hid (wr.heap[w.heap.size]? = some (.cells (⟨0, 0, 0, 0, 0⟩ : StepD).arr 72 (0, 0))) := Lib.hid ((Hbw.out.block _ (Array.getElem?_eq_some_iff.1 Hrow3.out).1).trans Hrow3.out)
        have hBd : Below w.heap.size w (w2.drewN d) := Hb2.out.trans ((drewN_below w2 d).mono Hb2.out.size)
        have hBB : Hid (Below w.heap.size w wr) := Lib.hid (hBd.trans (Hbw.out.mono hBd.size))
        clear hBd
        by_cases hlt4 : k < 4
        · obtain ⟨f, hf⟩ : ∃ f, [l0, l1, l2, l3, l4][k + 1]? = some f := ⟨_, List.getElem?_eq_getElem (by simp; omega)⟩
          have hcw : wr.cell? ⟨g, k + 1, none⟩ = some (.string ⟨f.toArray⟩) := by rw [cell_row hG.out]; exact Hcell.out (k + 1) f hf
          have hfl : f.length ≤ 65536 := Hle.out f (List.mem_of_getElem? hf)
          have hfd : [l0, l1, l2, l3, l4].getD (k + 1) [] = f := by rw [List.getD_eq_getElem?_getD, hf]; rfl
          have Hfd := Lib.hid hfd; clear hfd
          have hk0 : (k : Int) + 1 < 5 := by omega
          clear hf d0
          go_wp2_with fail
          refine (number_any f hfl _).mono ?_
          rintro e w3 ⟨⟨x, rfl, hx⟩, hb3⟩
          have hR3 := (hb3.block _ (Array.getElem?_eq_some_iff.1 hR.out).1).trans hR.out
          have HR3 := Lib.hid hR3; clear hR3
          have HBB3 := Lib.hid (hBB.out.trans (hb3.mono hBB.out.size))
          have Hb3 := Lib.hid hb3; clear hb3
          cases hnd : numD f with
          | none =>
            have hno : stepD l = none := by
              rw [Hst.out]
              have hfd := Hfd.out
              have : k = 0 ∨ k = 1 ∨ k = 2 ∨ k = 3 := by omega
              rcases this with rfl | rfl | rfl | rfl
              · rw [show numD l1 = none by rw [← hnd, ← hfd]; rfl]; rfl
              · rw [show numD l2 = none by rw [← hnd, ← hfd]; rfl]; cases numD l1 <;> rfl
              · rw [show numD l3 = none by rw [← hnd, ← hfd]; rfl]; cases numD l1 <;> cases numD l2 <;> rfl
              · rw [show numD l4 = none by rw [← hnd, ← hfd]; rfl]; cases numD l1 <;> cases numD l2 <;> cases numD l3 <;> rfl
            have Hno := Lib.hid hno; clear hno
            clear hnd hx
            obtain ⟨c0, c1, c2, c3, c4, z0, z1, z2, z3, z4⟩ := res_facts HR3.out
            simp only [Option.isSome_none]
            go_wp2
            refine bodyPost_ret_by (rstep_results _ _ w.heap.size ⟨0, 0, 0, 0, 0⟩ false rfl rfl ?_) rfl (r_none ⟨0, 0, 0, 0, 0⟩ Hno.out ?_)
            · exact row_setCell (row_setCell (row_setCell (row_setCell (row_setCell HR3.out _ _) _ _) _ _) _ _) _ _
            · exact ((((HBB3.out.setCell (Nat.le_refl _) _).setCell (Nat.le_refl _) _).setCell (Nat.le_refl _) _).setCell (Nat.le_refl _) _).setCell (Nat.le_refl _) _
          | some v =>
            obtain rfl := hx v hnd
            have Hnd := Lib.hid hnd; clear hnd hx
            have Hown3 := Lib.hid (own_keep Hown.out Hb3.out)
            have hsz3 : (w2.drewN d).heap.size ≤ w3.heap.size := Nat.le_trans Hbw.out.size Hb3.out.size
            have Hbw3 := Lib.hid (Hbw.out.trans (Hb3.out.mono Hbw.out.size))
            simp only [Option.isSome_some]
            go_wp2_with (at_builtin; refine wpList_append_own_at _ rfl _ _ 92 rfl (w2.drewN d).heap.size 2 i0 (.int .i64 0) 1 8 Tryz.underlying92 hi0 hz0 hz1 hz2 rfl (by decide) _ _ _ rfl (Hown3.out.alloc _) ⟨w3.heap.size, 0, none⟩ 1 1 [.int .i64 x] rfl rfl (cell_one_new _ _ _) (by intro u hu; simp at hu; subst hu; rfl) (by unfold maxLen; omega) (by omega) (by rw [size_alloc']; omega) ?_; intro v' w5 hown' hgrow hniff hblk)
            have hrel' : NRel [l0, l1, l2, l3, l4] w (w2.drewN d) v' (.int .i64 ((k : Int) + 1 + 1)) w5 := by
              refine ⟨k + 1, vs ++ [x], by omega, by go_num, by simp [hvl], ?_, ?_, ?_⟩
              · intro j hj
                by_cases h : j = k
                · subst h
                  rw [Hfd.out, Hnd.out]
                  simp [List.getD_eq_getElem?_getD, ← hvl]
                · rw [Hnum.out j (by omega)]
                  rw [List.getD_eq_getElem?_getD, List.getD_eq_getElem?_getD, List.getElem?_append_left (by omega)]
              · rw [List.map_append]
                exact hown'
              · exact (Hbw3.out.alloc hsz3 _).grown hgrow (by rw [size_alloc']; omega) (fun j hj => own_base Hown3.out j hj)
            go_roundw
            case rel => (repeat apply Exists.intro); exact ⟨hrel', rfl⟩
            case measure => simp [intOf]; omega
        · obtain rfl : k = 4 := by omega
          obtain ⟨x0, x1, x2, x3, rfl⟩ : ∃ x0 x1 x2 x3, vs = [x0, x1, x2, x3] := by
            match vs, hvl with
            | [x0, x1, x2, x3], _ => exact ⟨x0, x1, x2, x3, rfl⟩
          obtain ⟨_, hv⟩ := Hown.out
          rcases hv with ⟨_, h0⟩ | ⟨gn, capn, curn, rfl, hgn1, hgn2, hgn3, _, hgn4, hgn5⟩
          · omega
          have hvals : ∀ (j : Nat) (x : Int), [x0, x1, x2, x3][j]? = some x → wr.cell? ⟨gn, j, none⟩ = some (.int .i64 x) := by
            intro j x hx
            have h := congrArg (fun L => L[j]?) hgn5
            simp only [List.getElem?_map, hx, Option.map_some] at h
            have hj : j < 4 := (List.getElem?_eq_some_iff.1 hx).1
            rw [List.getElem?_take, if_pos (by omega), Array.getElem?_toList] at h
            rw [cell_row hgn2]
            exact h
          have n0 := hvals 0 x0 rfl
          have n1 := hvals 1 x1 rfl
          have n2 := hvals 2 x2 rfl
          have n3 := hvals 3 x3 rfl
          clear hvals hgn5 hgn2 d0
          obtain ⟨c0, c1, c2, c3, c4, z0, z1, z2, z3, z4⟩ := res_facts hR.out
          have hkx : (kx : Int) ≤ 20 := by omega
          have hkx0 : (0 : Int) ≤ (kx : Int) := by omega
          go_wp2_with fail
          go_region
          go_wp2
          refine bodyPost_ret_by (rstep_results _ _ w.heap.size ⟨kx, x0, x1, x2, x3⟩ (decide (0 < kx)) rfl rfl ?_) rfl ?_
          · exact row_setCell (row_setCell (row_setCell (row_setCell (row_setCell hR.out _ _) _ _) _ _) _ _) _ _
          · refine And.intro ?_ (((((hBB.out.setCell (Nat.le_refl _) _).setCell (Nat.le_refl _) _).setCell (Nat.le_refl _) _).setCell (Nat.le_refl _) _).setCell (Nat.le_refl _) _).drew
            have e : stepD l = if kx = 0 then none else some ⟨kx, x0, x1, x2, x3⟩ := by
              rw [Hst.out, show numD l1 = some x0 from Hnum.out 0 (by omega), show numD l2 = some x1 from Hnum.out 1 (by omega), show numD l3 = some x2 from Hnum.out 2 (by omega), show numD l4 = some x3 from Hnum.out 3 (by omega)]
              rw [← Hwidx.out]
              rfl
            refine ⟨⟨kx, x0, x1, x2, x3⟩, ?_, ?_⟩
            · rw [e]
              by_cases h0 : kx = 0
              · rw [if_pos h0]; simp [h0]
              · rw [if_neg h0]; simp; omega
            · intro t' ht'
              rw [e] at ht'
              split at ht'
              · cases ht'
              · injection ht'

theorem split_le (c : UInt8) (s : List UInt8) : ∀ x ∈ Lib.split s [c], x.length ≤ s.length := by
  have h : ∀ (k : Nat) (s : List UInt8), ∀ x ∈ Lib.splitK [c] 0 k s, x.length ≤ s.length := by
    intro k
    induction k with
    | zero => intro s x hx; rw [Lib.splitK] at hx; simp at hx; rw [hx]; exact Nat.le_refl _
    | succ k ih =>
      intro s x hx
      rw [Lib.splitK] at hx
      split at hx
      · simp at hx; rw [hx]; exact Nat.le_refl _
      · rcases List.mem_cons.1 hx with rfl | hx
        · rw [List.length_take]; exact Nat.min_le_right _ _
        · have := ih _ x hx
          rw [List.length_drop] at this; omega
  exact h _ s

theorem rstep_any (S : ByteArray) (l : List UInt8) (hS : Bytes S l) (hm : l.length ≤ 65536) (w : World) : Calls Tryz.prog 13 #[.string S] w (RPost w l) := by
  by_cases h5 : (Lib.split l [32]).length = 5
  · have hle := split_le 32 l
    match hs : Lib.split l [32], h5 with
    | [l0, l1, l2, l3, l4], _ =>
      exact rstep_five S l l0 l1 l2 l3 l4 hS hm hs (fun x hx => by have := hle x (by rw [hs]; exact hx); omega) w
  · exact rstep_bad S l hS hm h5 w
end Go.Proofs.YtbdcgdjhkcnekaaGreatDoor
