/-
  path.rising: the walk.
-/
import Derived.Test.YtedpljclnpiggaaGreatDoorQRise1
set_option linter.unusedVariables false
set_option linter.unusedSimpArgs false
namespace Go.Proofs.YtedpljclnpiggaaGreatDoor
open Go Go.RowKit Go.Lib Go.Sort

def RisPost (l : List KeyP) (w : World) (e : Ending) (w' : World) : Prop :=
  ∃ v, e = .returned v ∧ OwnK v (risingD l) w' ∧ (∀ g, v.ownBlock = some g → w.heap.size ≤ g) ∧ Below w.heap.size w w'

theorem keyV_cells (w : World) (k : KeyP) (t : TypeId) : ∀ j u, (keyV k)[j]? = some u → (w.alloc (.cells #[.int .i64 k.1, .int .i64 k.2] t)).cell? ((⟨w.heap.size, 0, none⟩ : Addr).add j) = some u := by
  intro j u hj
  have ha : (⟨w.heap.size, 0, none⟩ : Addr).add j = ⟨w.heap.size, j, none⟩ := by unfold Addr.add; split <;> simp_all
  rw [ha, cell_row (row_alloc _ _ _)]
  rw [show (#[.int .i64 k.1, .int .i64 k.2] : Array Value) = (keyV k).toArray from rfl, List.getElem?_toArray]
  exact hj

theorem ownsRow_base {w : World} {B B' : Nat} {e : TypeId} {s : Nat} {v : Value} {n : Nat} {xs : List Value} (h : w.ownsRow B e s v n xs) (hB : B' ≤ B) : w.ownsRow B' e s v n xs := by
  refine ⟨h.1, ?_⟩
  rcases h.2 with h0 | ⟨g, cap, cur, e, hb, rest⟩
  · exact .inl h0
  · exact .inr ⟨g, cap, cur, e, Nat.le_trans hB hb, rest⟩

theorem risingD_ne {l : List KeyP} (h : l ≠ []) : risingD l ≠ [] := by
  rcases List.eq_nil_or_concat l with e | ⟨m, k, rfl⟩
  · exact absurd e h
  · rw [List.concat_eq_append, risingD_snoc]
    intro e
    have h2 := (mem_putD (risingD m) k (rising_risingD m) k).2 (.inl rfl)
    rw [e] at h2
    simp at h2

theorem col_ne {l out : List KeyP} {left : Lit → Bool} (h : l ≠ []) (hC : ColK l left out) (hz : ∀ kl, left kl = false) : out ≠ [] := by
  intro e
  obtain ⟨p, hp⟩ := List.exists_mem_of_ne_nil _ (risingD_ne h)
  have := (hC.2 p).2 ⟨hp, hz _⟩
  rw [e] at this
  simp at this

set_option maxRecDepth 100000 in
set_option maxHeartbeats 3200000 in
theorem rising_any (a : Option Addr) (c : Nat) (l : List KeyP) (hl0 : l ≠ []) (hl : l.length ≤ 1000000) (hok : ∀ k ∈ l, i64ok k.1 ∧ i64ok k.2) (w : World) (h : KeysAt w a l) :
    Calls Tryz.prog 49 #[.slice a l.length c] w (RisPost l w) := by
  obtain ⟨i0, hi0, hz0, hz1, hz2⟩ := info_parts infoKey
  have hmk := run_make_ints w
  have hmap : IMap (w.alloc (.map #[] 0)) w.heap.size 0 (.map []) := World.ownsMap_made w Tryz.prog 3 (plainElem (H := Unit) Tryz.prog 3)
  have hst : RisIn l w w.heap.size 0 (w.alloc (.map #[] 0)) := ⟨_, hmap, by rw [List.take_zero]; exact ktab_nil, (Below.refl _ _).alloc (Nat.le_refl _) _, by simp⟩
  have Hst := Lib.hid hst; clear hst hmap
  have H := Lib.hid h; clear h
  have Hok := Lib.hid hok; clear hok
  have Hl0 := Lib.hid hl0; clear hl0
  have Hl := Lib.hid hl
  have hlI : (l.length : Int) ≤ 1000000 := by omega
  clear hl
  go_enter Tryz.func49, Tryz.ntmps49
  go_wp2
  clear hmk
  obtain ⟨mb, hmb⟩ : ∃ mb, mb = w.heap.size := ⟨_, rfl⟩
  rw [← hmb] at Hst ⊢
  have Hmb := Lib.hid hmb; clear hmb
  go_loopw [12] (fun i wr => RisRel l w mb i wr) (fun i _ => l.length - (intOf i).toNat)
  case atStart => exact ⟨0, Nat.zero_le _, rfl, Hst.out⟩
  case round =>
    obtain ⟨k, hk, rfl, D, hmap, hT, hb, hmbl⟩ := hrel
    by_cases hlt : k < l.length
    · obtain ⟨b, o, rfl, c0, c1⟩ := H.out.below hb (by omega) k hlt
      have hmem : l.getD k (0, 0) ∈ l := by rw [List.getD_eq_getElem?_getD, List.getElem?_eq_getElem hlt]; exact List.getElem_mem _
      have hkk : l.take (k + 1) = l.take k ++ [l.getD k (0, 0)] := by rw [List.take_add_one, List.getD_eq_getElem?_getD, List.getElem?_eq_getElem hlt]; rfl
      have hx := Hok.out _ hmem
      generalize l.getD k (0, 0) = kp at c0 c1 hx hkk
      obtain ⟨x, s⟩ := kp
      simp only at c0 c1 hx
      have hkl : (k : Int) < l.length := by omega
      have Hb := Lib.hid (hb.alloc hb.size (.cells #[.int .i64 x, .int .i64 s] 123)); clear hb
      have Hmap := Lib.hid (hmap.alloc (.cells #[.int .i64 x, .int .i64 s] 123)); clear hmap
      have HT := Lib.hid hT; clear hT
      have Hx := Lib.hid hx; clear hx
      have Hkk := Lib.hid hkk; clear hkk
      have Hml := Lib.hid hmbl; clear hmbl hmem
      have Hk := Lib.hid hlt
      go_wp2_with (at_mapUpdate; refine wpList_mapUpdate_own _ rfl (.tmp 16) (.tmp 18) (.tmp 20) 173 rfl 3 3 keyedI Tryz.underlying173 (plainElem Tryz.prog 3) mb k D rfl Hmap.out (by have := Hl.out; have := Hk.out; unfold maxLen; omega) (.int .i64 x) (.int .i64 s) (.int .i64 x) rfl rfl (key_int Hx.out.1) (.lit (.int .i64 s)) [] (plainElem_int (H := Unit) Tryz.underlying3 (q := .i64) (a := s) (WalkArith.wf_i64 Hx.out.2)) ?_; intro w5 hmap5 hgrow5; have Hmap5 := Lib.hid hmap5; have Hgrow5 := Lib.hid hgrow5; clear hmap5 hgrow5)
      have hb5 := Hb.out.grown Hgrow5.out Hb.out.size (fun j hj => by have := Hmb.out; have : j = mb := by injection hj with h; exact h.symm
                                                                      omega)
      have hT5 := HT.out.put (x, s)
      rw [← Hkk.out] at hT5
      refine ⟨⟨k + 1, by omega, by go_num, _, Hmap5.out, hT5, hb5, ?_⟩, by simp [intOf]; omega⟩
      have h1 := Hgrow5.out.size
      have h2 := Hml.out
      simp at h1
      omega
    · obtain rfl : k = l.length := by omega
      rw [List.take_length] at hT
      have Hb := Lib.hid hb; clear hb
      have Hmap := Lib.hid hmap; clear hmap
      have HT := Lib.hid hT; clear hT
      have Hml := Lib.hid hmbl; clear hmbl
      have hsz : Maps.size D ≤ l.length := Hmap.out.size_le
      have Hsz := Lib.hid hsz; clear hsz
      go_wp2_with (at_range; refine wpList_range_own _ rfl (.tmp 22) 173 rfl 3 3 keyedI Tryz.underlying173 (plainElem Tryz.prog 3) mb l.length D rfl Hmap.out ?_; intro w0 hrg0 hg0 hs0)
      have Hrg0 := Lib.hid hrg0; clear hrg0
      have Hg0 := Lib.hid hg0; clear hg0
      have Hs0 := Lib.hid hs0; clear hs0
      obtain ⟨r, hr⟩ : ∃ r, r = wr.heap.size := ⟨_, rfl⟩
      rw [← hr] at Hrg0 Hs0 ⊢
      have Hr := Lib.hid hr; clear hr
      go_frame
      go_loopw [6] (fun v w2 => RngRel l D w mb r l.length (r + 1) v w2) (fun _ w2 => w2.rangeLeft mb r)
      case atStart =>
        exact ⟨_, _, [], Hrg0.out, by simp, World.ownsRow_nil _ _ _ _, colK_start HT.out, fun z hz => by rw [← HT.out.has z]; exact hz, Hb.out.grown Hg0.out Hb.out.size (fun j hj => by cases hj)⟩
      case round =>
        obtain ⟨left, cnt, out, hrg, hcs, hrow, hC, hL, hnx⟩ := hrel
        have Hrow := Lib.hid hrow; clear hrow
        have HC := Lib.hid hC; clear hC
        have HL := Lib.hid hL; clear hL
        have Hnx := Lib.hid hnx; clear hnx
        have Hcs := Lib.hid hcs; clear hcs
        have Hrg := Lib.hid hrg; clear hrg
        go_wp2_with (at_next; refine wpList_next_ranges_ii _ rfl (.tmp 23) rfl 3 3 .i64 .i64 keyedI Tryz.underlying3 Tryz.underlying3 mb r l.length D left cnt rfl Hrg.out ?_ ?_)
        · intro hc0 hlz
          have hne := col_ne Hl0.out HC.out hlz
          have hCf : ColK l (fun _ => false) out := by
            have : left = fun _ => false := funext hlz
            rw [← this]; exact HC.out
          have HCf := Lib.hid hCf; clear hCf
          obtain ⟨g, cap, rfl, hgr⟩ : ∃ g cap, u6 = Value.slice (some ⟨g, 0, none⟩) out.length cap ∧ r + 1 ≤ g := by
            rcases Hrow.out.2 with ⟨_, e⟩ | ⟨g, cap, cur, e, hB, _⟩
            · exact absurd (List.length_eq_zero_iff.1 e) hne
            · exact ⟨g, cap, e, hB⟩
          have hsort := sort_any out (r + 1) g cap (by have := Hl.out; have := Hsz.out; have := Hcs.out; omega) wr Hrow.out
          have Hsort := Lib.hid hsort; clear hsort hne hlz hc0
          have Hgr := Lib.hid hgr; clear hgr
          go_wp2_with (go_at_call 188; refine Hsort.out.mono ?_; rintro e w' ⟨rfl, d, hp, hs, hown, hgrow⟩; have Hp := Lib.hid hp; have Hs := Lib.hid hs; have Hown := Lib.hid hown; have Hgrow := Lib.hid hgrow; clear hp hs hown hgrow)
          go_ret
          have hd := sorted_is HCf.out Hp.out (Hs.out.imp (fun {a b} h => by omega))
          have hdl := Hp.out.length_eq
          have hrb : w.heap.size ≤ r + 1 := by have := Hb.out.size; have := Hr.out; omega
          refine ⟨_, rfl, ?_, fun g' hg' => ?_, Hnx.out.grown Hgrow.out Hnx.out.size (fun j hj => ?_)⟩
          · have h9 := ownsRow_base Hown.out (Nat.zero_le (r + 1))
            rw [hdl] at h9
            rw [hd] at h9 hdl
            unfold OwnK
            rw [hdl]
            exact h9
          · have : g = g' := by simpa [Value.ownBlock] using hg'
            have := Hgr.out
            omega
          · have : j = g := by injection hj with h; exact h.symm
            have := Hgr.out
            omega
        · intro x s w2 cnt2 hwx hws hlx hat hrg2 hlt hg2 hs2 hen
          have hrow2 := Hrow.out.kept hg2 (Or.inr (row_ne_low Hrow.out (Nat.lt_succ_self r)).symm)
          have Hrow2 := Lib.hid hrow2; clear hrow2
          have Hrg2 := Lib.hid hrg2; clear hrg2
          have Hat := Lib.hid hat; clear hat
          have Hlx := Lib.hid hlx; clear hlx
          have Hlt := Lib.hid hlt; clear hlt
          have Hg2 := Lib.hid hg2; clear hg2
          clear hs2 hwx hws
          have hr2 : r + 1 ≤ w2.heap.size := Hrg2.out.lt
          have Hr2 := Lib.hid hr2; clear hr2
          have hol : out.length + 1 ≤ 1000000 := by have := Hl.out; have := Hsz.out; have := Hcs.out; have := Hlt.out; omega
          have Hol := Lib.hid hol; clear hol
          go_wp2_with (at_builtin; refine wpList_append_lies _ rfl (.tmp 29) (.tmp 33) 47 rfl (r + 1) 123 i0 (.agg #[.int .i64 0, .int .i64 0]) 2 16 Tryz.underlying47 hi0 hz0 hz1 hz2 rfl (by decide) u6 out.length (out.flatMap keyV) rfl (Hrow2.out.alloc _) ⟨w2.heap.size, 0, none⟩ 1 1 (keyV (x, s)) rfl rfl (keyV_cells w2 (x, s) 123) (by intro u hu; simp [keyV] at hu; rcases hu with rfl | rfl <;> rfl) (by omega) (by have := Hol.out; unfold maxLen; omega) (by have := Hol.out; omega) (by have := Hr2.out; simp; omega) (w2.heap.size + 1) (by simp) ?_; intro g5 c5 w5 hown5 hgrow5 hat5 hlt5; have Hown5 := Lib.hid hown5; have Hgrow5 := Lib.hid hgrow5; clear hown5 hgrow5 hat5 hlt5)
          have hbl : mb < r + 1 := by have := Hml.out; have := Hr.out; omega
          have hrg3 := (Hrg2.out.alloc (.cells #[.int .i64 x, .int .i64 s] 123)).kept Hgrow5.out (row_ne_low Hrow2.out hbl) (row_ne_low Hrow2.out (Nat.lt_succ_self r))
          have Hrg3 := Lib.hid hrg3; clear hrg3
          go_roundw
          case rel =>
            have hrb : w.heap.size ≤ r := by have := Hb.out.size; have := Hr.out; omega
            have hb2 := Hnx.out.grown Hg2.out Hnx.out.size (fun j hj => by have : j = r := by injection hj with h; exact h.symm
                                                                           omega)
            have hb3 := (hb2.alloc hb2.size (.cells #[.int .i64 x, .int .i64 s] 123)).grown Hgrow5.out (by have := hb2.size; simp; omega) (fun j hj => by have := (Hrow2.out.lt j hj).1; omega)
            refine ⟨_, cnt2, out ++ [(x, s)], Hrg3.out, by have := Hcs.out; have := Hlt.out; simp; omega, ?_, HC.out.step HT.out HL.out Hlx.out Hat.out, fun z hz => HL.out z (by simp at hz; exact hz.1), hb3⟩
            have h9 := Hown5.out
            rw [List.length_append, List.flatMap_append]
            simpa using h9
          case measure => rw [Hrg3.out.left_eq, Hrg.out.left_eq]; exact Hlt.out
end Go.Proofs.YtedpljclnpiggaaGreatDoor
