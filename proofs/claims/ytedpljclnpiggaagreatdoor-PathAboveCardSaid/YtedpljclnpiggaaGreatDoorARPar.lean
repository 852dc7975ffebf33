/-
  The document's trees: blank, leaf, parent, twice, some of any tree.
-/
import Derived.Test.YtedpljclnpiggaaGreatDoorATr
import Derived.Test.YtedpljclnpiggaaGreatDoorAUp
set_option linter.unusedVariables false
set_option linter.unusedSimpArgs false
namespace Go.Proofs.YtedpljclnpiggaaGreatDoor
open Go Go.RowKit

set_option maxRecDepth 100000 in
theorem arblank_any (p m e : Int) (a : Option Addr) (k c : Nat) (w : World) :
    Calls Tryz.prog 290 #[.agg #[.int .i64 p, .int .i64 m, .int .i64 e, .slice a k c]] w fun r w' => r = .returned (.bool (decide (p = 0) && decide (m = 0) && decide (e = 0) && decide (k = 0))) ∧ Below w.heap.size w w' := by
  have hb := (Below.refl w.heap.size w).alloc (Nat.le_refl _) (.cells #[.int .i64 p, .int .i64 m, .int .i64 e, .slice a k c] 125)
  have Hb := Lib.hid hb; clear hb
  have hc : p ≠ 0 ∨ (p = 0 ∧ m ≠ 0) ∨ (p = 0 ∧ m = 0 ∧ e ≠ 0) ∨ (p = 0 ∧ m = 0 ∧ e = 0 ∧ k ≠ 0) ∨ (p = 0 ∧ m = 0 ∧ e = 0 ∧ k = 0) := by omega
  rcases hc with h | ⟨rfl, h⟩ | ⟨rfl, rfl, h⟩ | ⟨rfl, rfl, rfl, h⟩ | ⟨rfl, rfl, rfl, rfl⟩
  · have h0 : (p == 0) = false := beq_eq_false_iff_ne.2 h
    go_enter Tryz.func290, Tryz.ntmps290
    go_wp2
    go_ret
    exact ⟨by simp [h], Hb.out⟩
  · have h0 : (m == 0) = false := beq_eq_false_iff_ne.2 h
    go_enter Tryz.func290, Tryz.ntmps290
    go_wp2
    go_ret
    exact ⟨by simp [h], Hb.out⟩
  · have h0 : (e == 0) = false := beq_eq_false_iff_ne.2 h
    go_enter Tryz.func290, Tryz.ntmps290
    go_wp2
    go_ret
    exact ⟨by simp [h], Hb.out⟩
  · have h0 : ((k : Int) == 0) = false := beq_eq_false_iff_ne.2 (by omega)
    go_enter Tryz.func290, Tryz.ntmps290
    go_wp2
    go_ret
    exact ⟨by simp [h], Hb.out⟩
  · go_enter Tryz.func290, Tryz.ntmps290
    go_wp2
    go_ret
    exact ⟨by simp, Hb.out⟩

set_option maxRecDepth 100000 in
theorem arleaf_any (p m e : Int) (a : Option Addr) (k c : Nat) (w : World) :
    Calls Tryz.prog 192 #[.agg #[.int .i64 p, .int .i64 m, .int .i64 e, .slice a k c]] w fun r w' =>
      r = .returned (.bool ((decide (p = 0) && decide (m = 0) && decide (e = 0) && decide (k = 0)) || (decide (0 < p) && decide (0 ≤ m) && decide (0 ≤ e) && decide (k = 0)))) ∧ Below w.heap.size w w' := by
  have hb := (Below.refl w.heap.size w).alloc (Nat.le_refl _) (.cells #[.int .i64 p, .int .i64 m, .int .i64 e, .slice a k c] 125)
  have hrow := row_alloc (w := w) #[.int .i64 p, .int .i64 m, .int .i64 e, .slice a k c] 125 (0, 0)
  have Hb := Lib.hid hb; clear hb
  have Hrow := Lib.hid hrow; clear hrow
  have hs : w.heap.size < (w.alloc (.cells #[.int .i64 p, .int .i64 m, .int .i64 e, .slice a k c] 125)).heap.size := by simp
  have Hs := Lib.hid hs; clear hs
  have hbl := arblank_any p m e a k c
  generalize hbd : (decide (p = 0) && decide (m = 0) && decide (e = 0) && decide (k = 0)) = bd at hbl ⊢
  have Hbl := Lib.hid hbl; clear hbl hbd
  have hc : p ≤ 0 ∨ (¬ p ≤ 0 ∧ m < 0) ∨ (¬ p ≤ 0 ∧ ¬ m < 0 ∧ e < 0) ∨ (¬ p ≤ 0 ∧ ¬ m < 0 ∧ ¬ e < 0 ∧ k ≠ 0) ∨ (¬ p ≤ 0 ∧ ¬ m < 0 ∧ ¬ e < 0 ∧ k = 0) := by omega
  cases bd with
  | true =>
    clear hc
    go_enter Tryz.func192, Tryz.ntmps192
    go_wp2_with fail
    refine (Hbl.out _).mono ?_
    rintro r w2 ⟨rfl, hb2⟩
    have Hb2 := Lib.hid (Hb.out.trans (hb2.mono (Nat.le_of_lt Hs.out))); clear hb2
    go_wp2
    go_ret
    exact ⟨rfl, Hb2.out⟩
  | false =>
    rcases hc with h | ⟨h1, h⟩ | ⟨h1, h2, h⟩ | ⟨h1, h2, h3, h⟩ | ⟨h1, h2, h3, rfl⟩
    all_goals
      go_enter Tryz.func192, Tryz.ntmps192
      go_wp2_with fail
      refine (Hbl.out _).mono ?_
      rintro r w2 ⟨rfl, hb2⟩
      have hr := (hb2.block w.heap.size Hs.out).trans Hrow.out
      have n0 := (cell_row hr 0).trans rfl
      have n1 := (cell_row hr 1).trans rfl
      have n2 := (cell_row hr 2).trans rfl
      have n3 := (cell_row hr 3).trans rfl
      have Hb2 := Lib.hid (Hb.out.trans (hb2.mono (Nat.le_of_lt Hs.out))); clear hb2 hr
      go_wp2
      go_ret
      exact ⟨by first | rfl | (simp; done) | (simp; omega) | (simp; intros; omega) | (simp_all; done), Hb2.out⟩
end Go.Proofs.YtedpljclnpiggaaGreatDoor

/-
  The document's parent, twice, some of any tree.
-/
namespace Go.Proofs.YtedpljclnpiggaaGreatDoor
open Go Go.RowKit

def RParRel (T : List NodeD) (x : Nat) (l : List Int) (W : World) (i : Value) (wr : World) : Prop :=
  ∃ (k : Nat) (f : Int), k ≤ l.length ∧ i = .int .i64 k ∧ ((spF x : Nat) : Int) ≤ f ∧ wr = W ∧ unD T (spL x : Nat) f (l.drop k) = unD T (spL x : Nat) (spF x : Nat) l ∧ ((k = 0 ∧ f = (spF x : Nat)) ∨ (0 < k ∧ f = l.getD (k - 1) 0 + 1))

set_option maxRecDepth 100000 in
set_option maxHeartbeats 1600000 in
theorem arparent_T (B n x : Nat) (hn : isN n) (T : List NodeD) (hTn : T.length = 2 * n - 1) (hx : x < T.length) (ho : x % 2 = 1) (hul : (nodeD T x).um.length ≤ 9223372036854775807) (a : Option Addr) (c : Nat) (w : World) (hB : B ≤ w.heap.size) (hT : TreeAt B w a T) :
    Calls Tryz.prog 193 #[.agg #[.slice a T.length c], .int .i64 x] w fun r w' => r = .returned (.bool (parentD T x)) ∧ Below w.heap.size w w' := by
  have hb := (Below.refl w.heap.size w).alloc (Nat.le_refl _) (.cells #[.slice a T.length c] 44)
  obtain ⟨hs1, hs2⟩ := span_in hn (by omega : x < 2 * n - 1) ho
  have hbox := row_alloc (w := w) #[.slice a T.length c] 44 (0, 0)
  have hT1 := hT.below (hb.mono hB)
  have Hbox := Lib.hid hbox; clear hbox
  obtain ⟨b, o, rfl, hnode⟩ := hT x hx
  obtain ⟨ua, uc, k3, hnum0⟩ := hnode.c3
  have hnum := hnum0.below (hb.mono hB)
  have hbl : b < w.heap.size := Nat.lt_of_lt_of_le hnode.lt hB
  clear hnum0
  have k0 := hnode.c0
  have k1 := hnode.c1
  have k2 := hnode.c2
  have hpar : parentD T x = if (nodeD T x).pub < 1 ∨ (nodeD T x).mem ≠ 0 ∨ (nodeD T x).ep ≠ 0 then blankD (nodeD T x) else unD T (spL x : Nat) (spF x : Nat) (nodeD T x).um := rfl
  have hblk : blankD (nodeD T x) = (decide ((nodeD T x).pub = 0) && decide ((nodeD T x).mem = 0) && decide ((nodeD T x).ep = 0) && decide ((nodeD T x).um.length = 0)) := rfl
  generalize nodeD T x = d at k0 k1 k2 k3 hnum hpar hul hblk
  obtain ⟨p, m, e, um⟩ := d
  simp only at k0 k1 k2 k3 hnum hpar hul hblk
  have hb2 := hb.alloc (by simp) (.cells #[.int .i64 p, .int .i64 m, .int .i64 e, .slice ua um.length uc] 125)
  have hxI : (x : Int) < T.length := by omega
  have h15 : (T.length : Int) ≤ 15 := by rcases hn with h | h | h | h <;> omega
  have Hs1 := Lib.hid (show 2 * spL x < T.length by omega)
  have H15 := Lib.hid h15
  have Hb2 := Lib.hid hb2
  have HT1 := Lib.hid hT1
  have HN := Lib.hid hnum
  have hbla := arblank_any p m e ua um.length uc
  rw [← hblk] at hbla
  obtain ⟨bd, hbd⟩ : ∃ bd, bd = blankD ⟨p, m, e, um⟩ := ⟨_, rfl⟩
  rw [← hbd] at hbla hpar hblk
  have Hbla := Lib.hid hbla; clear hbla
  have hbad0 : bd = true → p = 0 := fun h => by rw [h] at hblk; simp at hblk; exact hblk.1.1.1
  have Hpar0 := Lib.hid hpar
  have Hbad0 := Lib.hid hbad0
  have hbx3 : ∀ w3, Below ((w.alloc (.cells #[.slice (some ⟨b, o, none⟩) T.length c] 44)).alloc (.cells #[.int .i64 p, .int .i64 m, .int .i64 e, .slice ua um.length uc] 125)).heap.size ((w.alloc (.cells #[.slice (some ⟨b, o, none⟩) T.length c] 44)).alloc (.cells #[.int .i64 p, .int .i64 m, .int .i64 e, .slice ua um.length uc] 125)) w3 →
      Below w.heap.size w w3 ∧ w3.heap[w.heap.size]? = some (.cells #[.slice (some ⟨b, o, none⟩) T.length c] 44 (0, 0)) ∧ w3.heap[w.heap.size + 1]? = some (.cells #[.int .i64 p, .int .i64 m, .int .i64 e, .slice ua um.length uc] 125 (0, 0)) ∧ TreeAt B w3 (some ⟨b, o, none⟩) T ∧ NumsAt B w3 ua um := fun w3 h3 => by
    have hal := (Below.refl B (w.alloc (.cells #[.slice (some ⟨b, o, none⟩) T.length c] 44))).alloc (by simp; omega) (.cells #[.int .i64 p, .int .i64 m, .int .i64 e, .slice ua um.length uc] 125)
    refine ⟨Hb2.out.trans (h3.mono Hb2.out.size), ?_, ?_, (HT1.out.below hal).below (h3.mono (by simp; omega)), (HN.out.below hal).below (h3.mono (by simp; omega))⟩
    · exact (h3.block _ (by simp; omega)).trans ((Below.heap_alloc _ _ _ (by simp)).trans Hbox.out)
    · have := row_alloc (w := w.alloc (.cells #[.slice (some ⟨b, o, none⟩) T.length c] 44)) #[.int .i64 p, .int .i64 m, .int .i64 e, .slice ua um.length uc] 125 (0, 0)
      exact (h3.block _ (by simp)).trans (by simpa using this)
  have Hbx3 := Lib.hid hbx3
  clear hT hnode hTn hT1 hs1 hb hb2 hnum hpar hblk hbad0 hbx3 hbd h15
  go_enter Tryz.func193, Tryz.ntmps193
  go_wp2_with fail
  refine (Hbla.out _).mono ?_
  rintro r wx ⟨rfl, hb3⟩
  obtain ⟨hbx, hboxx, hndx, hTx, hNx⟩ := Hbx3.out wx hb3
  clear hb3 k0 k1 k2 k3
  have Hbx := Lib.hid hbx
  cases bd with
  | true =>
    have hp0 := Hbad0.out rfl
    have hpt : parentD T x = true := by rw [Hpar0.out, if_pos (.inl (by omega))]
    have Hpt := Lib.hid hpt
    clear hbx hboxx hndx hTx hNx hp0 hpt
    go_wp2
    go_ret
    exact ⟨by rw [Hpt.out]; rfl, Hbx.out⟩
  | false =>
    have k0 := (cell_row hndx 0).trans rfl
    have k1 := (cell_row hndx 1).trans rfl
    have k2 := (cell_row hndx 2).trans rfl
    have k3 := (cell_row hndx 3).trans rfl
    have kb := (cell_row hboxx 0).trans rfl
    have HTx := Lib.hid hTx
    have HNx := Lib.hid hNx
    clear hbx hboxx hndx hTx hNx Hbla Hbx3 Hb2 HT1 HN Hbox
    obtain ⟨q, hq⟩ : ∃ q, q = w.heap.size := ⟨_, rfl⟩
    rw [← hq] at k0 k1 k2 k3 kb ⊢
    have HQ := Lib.hid hq; clear hq
    by_cases hbad : p < 1 ∨ m ≠ 0 ∨ e ≠ 0
    · have hpt : parentD T x = false := by rw [Hpar0.out, if_pos hbad]
      have Hpt := Lib.hid hpt
      have hc : p ≤ 0 ∨ (¬ p ≤ 0 ∧ m ≠ 0) ∨ (¬ p ≤ 0 ∧ m = 0 ∧ e ≠ 0) := by omega
      clear hbad hpt
      rcases hc with h | ⟨hp, h⟩ | ⟨hp, rfl, h⟩
      · go_wp2
        go_ret
        exact ⟨by rw [Hpt.out]; rfl, Hbx.out⟩
      · have h0 : (m == 0) = false := beq_eq_false_iff_ne.2 h
        go_wp2
        go_ret
        exact ⟨by rw [Hpt.out]; rfl, Hbx.out⟩
      · have h0 : (e == 0) = false := beq_eq_false_iff_ne.2 h
        have h00 : (e != 0) = true := by simp [bne, h0]
        go_wp2
        go_ret
        exact ⟨by rw [Hpt.out]; rfl, Hbx.out⟩
    · have hpt := Hpar0.out
      rw [if_neg hbad] at hpt
      have Hpar := Lib.hid hpt
      obtain ⟨hp, rfl, rfl⟩ : ¬ p ≤ 0 ∧ m = 0 ∧ e = 0 := by omega
      have hulI : (um.length : Int) ≤ 9223372036854775807 := by omega
      clear hpt hbad hbl hxI hB
      go_wp2_with fail
      refine (arspan_any x hs2 ho _).mono ?_
      rintro r wy ⟨rfl, hwy⟩
      subst wy
      clear k0 k1 k2 hs2 ho hx hp
      go_wp2
      go_loopw [8] (fun i wr => RParRel T x um wx i wr) (fun i _ => um.length - (intOf i).toNat)
      case atStart => exact ⟨0, _, Nat.zero_le _, rfl, Int.le_refl _, rfl, rfl, .inl ⟨rfl, rfl⟩⟩
      case round =>
        obtain ⟨k, f, hk, rfl, hf0, rfl, hun, hcase⟩ := hrel
        by_cases hlt : k < um.length
        · rw [un_step hlt] at hun
          obtain ⟨ub, uo, rfl, hub, ku⟩ := HNx.out k hlt
          have hkI : (k : Int) < um.length := by omega
          have hprev : 0 < k → wr.cell? ⟨ub, uo + (k - 1), none⟩ = some (.int .i64 (um.getD (k - 1) 0)) := fun h => by
            obtain ⟨ub', uo', e, _, kp⟩ := HNx.out (k - 1) (by omega)
            obtain ⟨rfl, rfl⟩ : ub = ub' ∧ uo = uo' := by simpa using e
            exact kp
          obtain ⟨u, hu⟩ : ∃ u, u = um.getD k 0 := ⟨_, rfl⟩
          rw [← hu] at ku hun
          have Hu := Lib.hid hu; clear hu
          have Hprev := Lib.hid hprev; clear hprev
          have Hcase := Lib.hid hcase; clear hcase
          by_cases h1 : u < ((spF x : Nat) : Int)
          · rw [if_pos (.inl (by omega))] at hun
            have Hun := Lib.hid hun; clear hun
            go_wp2
            go_ret
            exact ⟨by rw [Hpar.out, ← Hun.out]; rfl, Hbx.out⟩
          · by_cases h2 : ((spL x : Nat) : Int) < u
            · rw [if_pos (.inr (.inl h2))] at hun
              have Hun := Lib.hid hun; clear hun
              go_wp2
              go_ret
              exact ⟨by rw [Hpar.out, ← Hun.out]; rfl, Hbx.out⟩
            · obtain ⟨v, rfl⟩ : ∃ v : Nat, u = v := ⟨u.toNat, by omega⟩
              have hv2 : 2 * v < T.length := by have := Hs1.out; omega
              obtain ⟨b', o', e', hnv⟩ := HTx.out (2 * v) hv2
              obtain ⟨rfl, rfl⟩ : b = b' ∧ o = o' := by simpa using e'
              have kv := hnv.c0
              clear hnv e'
              rw [show (2 * (v : Int)).toNat = 2 * v by omega] at hun
              have hvI : 2 * (v : Int) < T.length := by omega
              have hv7 : (v : Int) ≤ 7 := by have := H15.out; omega
              have hv0 : 0 ≤ 2 * (v : Int) := by omega
              have kw : wr.cell? ⟨b, o + (2 * (v : Int)).toNat * 4, none⟩ = some (.int .i64 (nodeD T (2 * v)).pub) := by rw [show (2 * (v : Int)).toNat = 2 * v by omega]; exact kv
              clear hv2
              by_cases h3 : (nodeD T (2 * v)).pub = 0
              · rw [if_pos (.inr (.inr h3))] at hun
                rw [h3] at kv kw
                have Hun := Lib.hid hun; clear hun
                go_wp2
                go_ret
                exact ⟨by rw [Hpar.out, ← Hun.out]; rfl, Hbx.out⟩
              · have hp0 : ((nodeD T (2 * v)).pub == 0) = false := beq_eq_false_iff_ne.2 h3
                have Hh3 := Lib.hid h3
                generalize hpvd : (nodeD T (2 * v)).pub = pv at kv kw hp0 hun
                have hpv : ¬ pv = 0 := by rw [← hpvd]; exact h3
                have Hpv := Lib.hid hpv
                clear h3 hpvd hpv
                by_cases h4 : k = 0
                · have hk0 : ¬ 0 < (k : Int) := by omega
                  have hf : f = ((spF x : Nat) : Int) := by
                    rcases Hcase.out with ⟨_, h⟩ | ⟨h, _⟩
                    · exact h
                    · omega
                  rw [if_neg (fun h => h.elim (fun h => h1 (by omega)) (fun h => h.elim h2 Hpv.out))] at hun
                  have Hun := Lib.hid hun; clear hun
                  have Hh1 := Lib.hid h1
                  clear h4
                  go_wp2
                  exact ⟨⟨k + 1, (v : Int) + 1, by omega, by go_num, by have := Hh1.out; omega, rfl, Hun.out, .inr ⟨by omega, by rw [Nat.add_sub_cancel, ← Hu.out]⟩⟩, by simp [intOf]; omega⟩
                · obtain ⟨j, rfl⟩ : ∃ j, k = j + 1 := ⟨k - 1, by omega⟩
                  have kj := Hprev.out (by omega)
                  rw [Nat.add_sub_cancel] at kj
                  have hf : f = um.getD j 0 + 1 := by
                    rcases Hcase.out with ⟨h, _⟩ | ⟨_, h⟩
                    · omega
                    · rw [Nat.add_sub_cancel] at h; exact h
                  generalize um.getD j 0 = pr at kj hf
                  by_cases h5 : (v : Int) ≤ pr
                  · rw [if_pos (.inl (by omega))] at hun
                    have Hun := Lib.hid hun; clear hun
                    go_wp2
                    go_ret
                    exact ⟨by rw [Hpar.out, ← Hun.out]; rfl, Hbx.out⟩
                  · rw [if_neg (fun h => h.elim (fun h => h5 (by omega)) (fun h => h.elim h2 Hpv.out))] at hun
                    have Hun := Lib.hid hun; clear hun
                    have Hh1 := Lib.hid h1
                    go_wp2
                    exact ⟨⟨j + 1 + 1, (v : Int) + 1, by omega, by go_num, by have := Hh1.out; omega, rfl, Hun.out, .inr ⟨by omega, by rw [Nat.add_sub_cancel, ← Hu.out]⟩⟩, by simp [intOf]; omega⟩
        · obtain rfl : k = um.length := by omega
          rw [un_end] at hun
          have Hun := Lib.hid hun; clear hun hcase
          go_wp2
          go_ret
          exact ⟨by rw [Hpar.out, ← Hun.out]; rfl, Hbx.out⟩
end Go.Proofs.YtedpljclnpiggaaGreatDoor
