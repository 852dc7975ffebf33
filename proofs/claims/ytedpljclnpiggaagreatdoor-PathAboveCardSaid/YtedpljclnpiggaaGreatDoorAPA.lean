/-
  phratrylaw01's TreeSize and Beyond; the map's Keys.
-/
import Derived.BigQuiet
import Derived.Test.YtedpljclnpiggaaGreatDoorARAw
import Derived.Test.YtedpljclnpiggaaGreatDoorQPSec
set_option linter.unusedVariables false
set_option linter.unusedSimpArgs false
namespace Go.Proofs.YtedpljclnpiggaaGreatDoor
open Go Go.RowKit

def TszRel (T : List NodeD) (W : World) (n i : Value) (wr : World) : Prop :=
  ∃ (k : Nat) (N : Int), k ≤ T.length ∧ i = .int .i64 k ∧ n = .int .i64 N ∧ wr = W ∧ (262144 < T.length → k = 0 ∧ N = T.length)

set_option maxRecDepth 100000 in
set_option maxHeartbeats 1600000 in
theorem treesize_any (B : Nat) (T : List NodeD) (hlen : T.length ≤ 9223372036854775807) (a : Option Addr) (c : Nat) (w : World) (hB : B ≤ w.heap.size) (hT : TreeAt B w a T) :
    Calls Tryz.prog 16 #[.agg #[.slice a T.length c]] w fun e w' => ∃ N : Int, e = .returned (.int .i64 N) ∧ (262144 < T.length → N = T.length) ∧ Below w.heap.size w w' := by
  have hb := (Below.refl w.heap.size w).alloc (Nat.le_refl _) (boxT (.slice a T.length c))
  have hrow := row_alloc (w := w) #[.slice a T.length c] 44 (0, 0)
  have hT1 := hT.below (hb.mono hB)
  have hlI : (T.length : Int) ≤ 9223372036854775807 := by omega
  go_enter Tryz.func16, Tryz.ntmps16
  go_wp2
  obtain ⟨q, hq⟩ : ∃ q, q = w.heap.size := ⟨_, rfl⟩
  rw [← hq] at hrow ⊢
  have kb := (cell_row hrow 0).trans rfl
  have Hb := Lib.hid hb
  clear hb hq hT hB
  generalize w.alloc (boxT (.slice a T.length c)) = w1 at Hb hT1 hrow kb ⊢
  have HT := Lib.hid hT1; clear hT1 hrow
  go_loopw [3, 4] (fun n i wr => TszRel T w1 n i wr) (fun _ i _ => T.length - (intOf i).toNat)
  case atStart => exact ⟨0, _, Nat.zero_le _, rfl, rfl, rfl, fun _ => ⟨rfl, rfl⟩⟩
  case round =>
    obtain ⟨k, N, hk, rfl, rfl, rfl, hbig⟩ := hrel
    have Hbig := Lib.hid hbig; clear hbig
    by_cases hgo : k < T.length ∧ N ≤ 262144
    · obtain ⟨hlt, hN⟩ := hgo
      have hsm : ¬ 262144 < T.length := fun h => by obtain ⟨_, h2⟩ := Hbig.out h; omega
      obtain ⟨b, o, rfl, hnode⟩ := HT.out k hlt
      obtain ⟨ua, uc, k3, _⟩ := hnode.c3
      have hkI : (k : Int) < T.length := by omega
      have hsI : (T.length : Int) ≤ 262144 := by omega
      clear hnode
      generalize (nodeD T k).um.length = ul at k3
      have Hsm := Lib.hid hsm; clear hsm
      go_wp2
      exact ⟨⟨k + 1, _, by omega, by go_num, rfl, rfl, fun h => absurd h Hsm.out⟩, by simp [intOf]; omega⟩
    · have hres : 262144 < T.length → N = T.length := fun h => (Hbig.out h).2
      have Hres := Lib.hid hres; clear hres
      by_cases hlt : k < T.length
      · have hkI : (k : Int) < T.length := by omega
        have hN : ¬ N ≤ 262144 := fun h => hgo ⟨hlt, h⟩
        clear hgo
        go_wp2
        go_ret
        exact ⟨N, rfl, Hres.out, Hb.out⟩
      · have hkI : ¬ (k : Int) < T.length := by omega
        clear hgo
        go_wp2
        go_ret
        exact ⟨N, rfl, Hres.out, Hb.out⟩

set_option maxRecDepth 100000 in
theorem beyond_one (g : Nat) (N : Int) (w : World) (h : w.cell? ⟨g, 0, none⟩ = some (.int .i64 N)) :
    Calls Tryz.prog 15 #[.slice (some ⟨g, 0, none⟩) 1 1] w fun e w' => e = .returned (.bool (decide (N < 0) || decide (262144 < N))) ∧ w' = w := by
  by_cases h0 : N < 0
  · go_enter Tryz.func15, Tryz.ntmps15
    go_wp2
    refine wp_loop_rounds 1 ?_
    rw [rounds_succ]
    go_wp2
    go_ret
    exact ⟨by simp [h0], rfl⟩
  · by_cases h1 : 262144 < N
    · go_enter Tryz.func15, Tryz.ntmps15
      go_wp2
      refine wp_loop_rounds 1 ?_
      rw [rounds_succ]
      go_wp2
      go_ret
      exact ⟨by simp [h1], rfl⟩
    · go_enter Tryz.func15, Tryz.ntmps15
      go_wp2
      refine wp_loop_rounds 2 ?_
      rw [rounds_succ]
      go_wp2
      rw [rounds_succ]
      go_wp2
      go_ret
      exact ⟨by simp [h0, h1], rfl⟩

set_option maxRecDepth 100000 in
set_option maxHeartbeats 1600000 in
theorem keys_any (mp n : Nat) (ks : List KeyP) (aa ab : Option Addr) (ca cb : Nat) (hn : n ≤ 100000) (hl : ∀ y ∈ ks, 0 ≤ y.2 ∧ y.2 < n) (hll : ks.length ≤ 100) (w : World) (h : MapAt w mp n) (ha : KeysAt w aa ks) (hb : KeysAt w ab ks) :
    Calls Tryz.prog 19 #[.pointer (some ⟨mp, 0, none⟩), .slice aa ks.length ca, .slice ab ks.length cb] w fun e w' => e = .returned (.bool true) ∧ ∃ d, w' = w.drewN d := by
  have HA := Lib.hid ha; clear ha
  have HB := Lib.hid hb; clear hb
  have H := Lib.hid h; clear h
  have Hl := Lib.hid hl; clear hl
  have hlI : (ks.length : Int) ≤ 100 := by omega
  go_enter Tryz.func19, Tryz.ntmps19
  go_wp2
  go_loopw [7] (fun i wr => NumRel ks.length w i wr) (fun i _ => ks.length - (intOf i).toNat)
  case atStart => exact ⟨0, 0, Nat.zero_le _, rfl, rfl⟩
  case round =>
    obtain ⟨k, d, hk, rfl, hwr⟩ := hrel
    have hcell : ∀ p, wr.cell? p = w.cell? p := fun p => by rw [hwr]; rfl
    have hmap : MapAt wr mp n := by rw [hwr]; exact H.out
    have Hwr := Lib.hid hwr; clear hwr
    by_cases hlt : k < ks.length
    · obtain ⟨ga, oa, rfl, xa0, xa1⟩ := HA.out k hlt
      obtain ⟨gb, ob, rfl, xb0, xb1⟩ := HB.out k hlt
      rw [← hcell] at xa0 xa1 xb0 xb1
      clear hcell
      have hy := Hl.out (ks.getD k (0, 0)) (by rw [List.getD_eq_getElem?_getD, List.getElem?_eq_getElem hlt]; exact List.getElem_mem _)
      generalize ks.getD k (0, 0) = y at xa0 xa1 xb0 xb1 hy
      obtain ⟨y1, y2⟩ := y
      simp only at xa0 xa1 xb0 xb1 hy
      obtain ⟨x, rfl⟩ : ∃ x : Nat, y2 = x := ⟨y2.toNat, by omega⟩
      have hs := fun d' => same_any mp n x (by omega) hn (wr.drewN d') hmap
      have Hs := Lib.hid hs; clear hs hy hmap
      have hkl : (k : Int) < ks.length := by omega
      go_wp2_with fail
      go_quiet ((go_at_call 13; exact Calls.quiet_of_same (Hs.out _)))
      go_wp2
      exact ⟨⟨k + 1, d + nq, by omega, by go_num, by rw [Hwr.out, World.drewN_drewN]⟩, by simp [intOf]; omega⟩
    · obtain rfl : k = ks.length := by omega
      clear hcell hmap
      go_wp2
      go_ret
      exact ⟨rfl, d, Hwr.out⟩
end Go.Proofs.YtedpljclnpiggaaGreatDoor

/-
  The statement PathAbove's function answers true, if lives does.
-/
namespace Go.Proofs.YtedpljclnpiggaaGreatDoor
open Go Go.RowKit

theorem NodeAt.mono {B B' : Nat} {w : World} {b o : Nat} {d : NodeD} (h : NodeAt B w b o d) (hB : B ≤ B') : NodeAt B' w b o d :=
  ⟨Nat.lt_of_lt_of_le h.lt hB, h.c0, h.c1, h.c2, let ⟨a, c, e, hn⟩ := h.c3; ⟨a, c, e, fun i hi => let ⟨b, o, e, hl, hc⟩ := hn i hi; ⟨b, o, e, Nat.lt_of_lt_of_le hl hB, hc⟩⟩⟩
theorem TreeAt.mono {B B' : Nat} {w : World} {a : Option Addr} {T : List NodeD} (h : TreeAt B w a T) (hB : B ≤ B') : TreeAt B' w a T := fun i hi => let ⟨b, o, e, hn⟩ := h i hi; ⟨b, o, e, hn.mono hB⟩

theorem prog_map {w : World} {s : Nat} {F : Nat → Prop} {L : List TermD} (h : ProgStore w s F L) : ∃ m, w.cell? ⟨s, 1, none⟩ = some (.map (some m)) ∧ m < w.heap.size := by
  obtain ⟨v, b, D, h1, _, _, _, h5, h6⟩ := h
  exact ⟨b, by rw [cell_row h1]; rfl, h6 b h5.2.1⟩

theorem StO.keysAt {F : Nat → Prop} {w w' : World} {a : Option Addr} {c : Nat} {ks : List KeyP} {G : Nat → Prop} (h : StO F w 123 2 (.slice a ks.length c) ks.length (ks.flatMap keyV)) (hT : Turned G w w') (hn : ∀ g, (Value.slice a ks.length c).ownBlock = some g → ¬ G g) : KeysAt w' a ks :=
  keysA (F := F) (h.turn hT hn)

set_option maxRecDepth 100000 in
set_option maxHeartbeats 3200000 in
theorem pathAbove_any (lv : Lives) (a : Option Addr) (n c : Nat) (f : Nat → TermD) (hn : n ≤ 9223372036854775807) (hok : ∀ i, i < n → (f i).ok) (ta : Option Addr) (tc : Nat) (T : List NodeD) (hfit : FitT T) (htl : T.length ≤ 9223372036854775807) (node secret : Int)
    (w : World) (htz : TzF w) (h3 : 3 ≤ w.heap.size) (h : Terms w a n f) (hT : TreeAt w.heap.size w ta T) :
    Calls Tryz.prog 4 #[.slice a n c, .agg #[.slice ta T.length tc], .int .i64 node, .int .i64 secret] w fun e w' => e = .returned (.bool true) ∧ Below w.heap.size w w' := by
  have hb0 := (Below.refl w.heap.size w).alloc (Nat.le_refl _) (boxT (.slice ta T.length tc))
  have hrow := row_alloc (w := w) #[.slice ta T.length tc] 44 (0, 0)
  have hs0 : w.heap.size < (w.alloc (boxT (.slice ta T.length tc))).heap.size := by simp
  have Lv := Lib.hid lv; clear lv
  have Htz := Lib.hid htz; clear htz
  have H3 := Lib.hid h3; clear h3
  have HT := Lib.hid hT
  have Hfit := Lib.hid hfit
  have Hb0 := Lib.hid hb0
  have Hrow := Lib.hid hrow
  have Hs0 := Lib.hid hs0
  by_cases hbig : 2000 < n
  · have hbI : (2000 : Int) < n := by omega
    clear h hok hT hfit hb0 hrow hs0
    go_enter Tryz.func4, Tryz.ntmps4
    go_wp2
    go_ret
    exact ⟨rfl, Hb0.out⟩
  · have hbI : (n : Int) ≤ 2000 := by omega
    have hts := treesize_any w.heap.size T htl ta tc _ hb0.size (hT.below hb0)
    have Hts := Lib.hid hts
    have Hterm := Lib.hid (fun W (hW : Below w.heap.size w W) => h.below hW (Nat.le_refl _))
    have Hok := Lib.hid hok
    have Hbig := Lib.hid hbig
    clear h hok hT hfit hb0 hrow hs0 hts hbig
    go_enter Tryz.func4, Tryz.ntmps4
    go_wp2_with fail
    refine Hts.out.mono ?_
    rintro e w1 ⟨N, rfl, hN, hb1⟩
    have Hbx1 := Lib.hid ((hb1.block w.heap.size Hs0.out).trans Hrow.out)
    have Hb1 := Lib.hid (Hb0.out.trans (hb1.mono Hb0.out.size))
    have HN := Lib.hid hN
    clear hb1 hN Hts
    have hbN := beyond_one w1.heap.size N (w1.alloc (.cells #[.int .i64 N] 3)) (by simp)
    have HbN := Lib.hid hbN; clear hbN
    go_wp2_with fail
    refine HbN.out.mono ?_
    rintro e wx ⟨rfl, hwx⟩
    have Hb2 := Lib.hid (show Below w.heap.size w wx by rw [hwx]; exact Hb1.out.alloc Hb1.out.size _)
    have Hbx2 := Lib.hid (show wx.heap[w.heap.size]? = some (boxT (.slice ta T.length tc)) by rw [hwx]; exact (Below.heap_alloc _ _ _ (Array.getElem?_eq_some_iff.1 Hbx1.out).1).trans Hbx1.out)
    clear hwx HbN Hbx1 Hb1
    obtain ⟨q, hq⟩ : ∃ q, q = w.heap.size := ⟨_, rfl⟩
    by_cases hbey : N < 0 ∨ 262144 < N
    · have hd : (decide (N < 0) || decide (262144 < N)) = true := by simpa using hbey
      rw [hd]
      clear hd hbey hq
      go_wp2
      go_ret
      exact ⟨rfl, Hb2.out⟩
    · have hd : (decide (N < 0) || decide (262144 < N)) = false := by simp; omega
      rw [hd]
      have hlen : T.length ≤ 262144 := by
        by_cases hh : T.length ≤ 262144
        · exact hh
        · have := HN.out (by omega); omega
      have Hlen := Lib.hid hlen
      clear hd hbey hlen
      have hbuild := build_any a n c f (by have := Hbig.out; omega) Hok.out wx (Hterm.out wx Hb2.out)
      have hfacts := buildL_facts (termsL n f) (termsL_ok Hok.out)
      have hmay := buildL_may (termsL n f)
      rw [termsL_len] at hfacts
      unfold BuildPost at hbuild
      generalize buildL (termsL n f) = L at hbuild hfacts hmay
      have Hbuild := Lib.hid hbuild
      have Hf := Lib.hid hfacts
      have Hmay := Lib.hid hmay
      have hLl : L.length ≤ 3000 := by have := hfacts.2; have := Hbig.out; omega
      have HLl := Lib.hid hLl
      clear hbuild hfacts hmay hLl
      go_wp2_with fail
      refine Hbuild.out.mono ?_
      rintro e w3 ⟨rfl, ⟨F0, G0, hp1⟩, hb3⟩
      have Hp1 := Lib.hid hp1
      have Hb3 := Lib.hid hb3
      have hbx3 := (hb3.block w.heap.size (Array.getElem?_eq_some_iff.1 Hbx2.out).1).trans Hbx2.out
      have Hbx3 := Lib.hid hbx3
      have hbw3 := Hb2.out.trans (hb3.mono Hb2.out.size)
      have Hbw3 := Lib.hid hbw3
      have htr3 : TreeAt wx.heap.size w3 ta T := ((HT.out.below Hb2.out).mono Hb2.out.size).below hb3
      have Htr3 := Lib.hid htr3
      obtain ⟨m, hm, hml⟩ := prog_map hp1.ps
      obtain ⟨s, hs⟩ : ∃ s, s = wx.heap.size + 1 := ⟨_, rfl⟩
      obtain ⟨r, hr⟩ : ∃ r, r = wx.heap.size + 2 := ⟨_, rfl⟩
      rw [← hs] at hm
      rw [← hs, ← hr] at Hp1 ⊢
      have hlw : Lw wx.heap.size s m F0 L w3 := ⟨Htz.out.below hbw3 H3.out, Hp1.out.ps, hm, Hp1.out.lf, Nat.le_trans H3.out Hb2.out.size, hb3.size⟩
      have Hlw := Lib.hid hlw
      have k1 := (cell_row hbx3 0).trans rfl
      obtain ⟨Ft, hft, hlwt, htt, _⟩ := hlw.tight
      have hab := above_any wx.heap.size s m Ft L Hf.out.1 Hmay.out HLl.out T Hfit.out Hlen.out ta tc node secret w3 ⟨htt, hml⟩ hlwt htr3
      have Hab := Lib.hid hab
      have Hft := Lib.hid hft
      clear hp1 hb3 hbx3 hbw3 htr3 hm hml hs hr hlw hft hlwt htt hab Hbuild
      go_wp2_with fail
      refine Hab.out.mono ?_
      rintro e w4 ⟨F1, va, vc, cc, er, T1, ks, rfl, hans, hlw4, hown4, hfr4, hx4, hT4⟩
      have hx4' : Ext F0 F1 w3 w4 := fun k hk => (hx4 k hk).imp (Hft.out k) id
      have hT4' : Turned F0 w3 w4 := hT4.mono (fun k _ hk => Hft.out k hk)
      obtain ⟨hp4, hb4⟩ := Hp1.out.left Hb3.out.size hx4' hlw4.ps hT4'
      have Hp4 := Lib.hid hp4
      have Hb4 := Lib.hid (Hb3.out.trans hb4)
      have hG0 : ∀ k, G0 k → k < w3.heap.size := Hp1.out.rs.lt
      have hbx4 : w4.heap[w.heap.size]? = some (boxT (.slice ta T.length tc)) := (hb4.block w.heap.size (Array.getElem?_eq_some_iff.1 Hbx2.out).1).trans Hbx3.out
      have Hbx4 := Lib.hid hbx4
      have htr4 := Htr3.out.below hb4
      have hrab := rabove_any wx.heap.size r G0 L Hf.out.1 Hmay.out HLl.out T Hfit.out Hlen.out ta tc node secret w4 hp4.rs hp4.lg (Nat.le_trans Hb3.out.size hT4.size) htr4
      have Hrab := Lib.hid hrab
      have Hans := Lib.hid hans
      have Hown4 := Lib.hid hown4
      have Hfr4 := Lib.hid hfr4
      have HG0 := Lib.hid hG0
      have hs34 : w3.heap.size ≤ w4.heap.size := hT4.size
      have Hs34 := Lib.hid hs34
      have hol4 : ∀ g, (Value.slice va ks.length vc).ownBlock = some g → g < w4.heap.size := fun g hg => hown4.lt hg
      have Hol4 := Lib.hid hol4
      have k1 := (cell_row hbx4 0).trans rfl
      clear k1 hans hlw4 hown4 hfr4 hx4 hT4 hx4' hT4' hp4 hb4 hG0 hbx4 htr4 hrab hs34 hol4 Hab Hp1
      have k1 := (cell_row Hbx4.out 0).trans rfl
      go_wp2_with fail
      refine Hrab.out.mono ?_
      rintro e w5 ⟨G1, vb, vd, c2, er2, T2, ks2, rfl, hans2, hrs5, hown5, hfr5, hx5, hT5⟩
      obtain ⟨rfl, rfl, rfl, rfl⟩ := Hans.out.one hans2
      obtain ⟨hp5, hb5⟩ := Hp4.out.right (Nat.le_trans Hb3.out.size Hs34.out) hx5 hrs5 hT5
      have hao := ans_ok Hf.out.1 Hmay.out HLl.out hans2
      have Hao := Lib.hid hao
      have hka5 : KeysAt w5 va ks := Hown4.out.keysAt hT5 (fun g hg hG => by have := Hfr4.out g hg; have := HG0.out g hG; omega)
      have hg4 : ∀ g, (Value.slice va ks.length vc).ownBlock = some g → ¬ G1 g := fun g hg hG => by
        rcases hx5 g hG with h | h
        · have := Hfr4.out g hg; have := HG0.out g h; omega
        · have := Hol4.out g hg; omega
      have hst5 : StO (fun _ => False) w5 123 2 (.slice va ks.length vc) ks.length (ks.flatMap keyV) := (StO.turn ⟨Hown4.out.own, fun _ _ h => h⟩ hT5 (fun g hg hG => by have := Hfr4.out g hg; have := HG0.out g hG; omega))
      have Hst5 := Lib.hid hst5
      have Hg4 := Lib.hid hg4
      have Hown5 := Lib.hid hown5
      have Hb5 := Lib.hid (Hb4.out.trans hb5)
      have Hp5 := Lib.hid hp5
      clear hans2 hrs5 hown5 hfr5 hx5 hT5 hp5 hb5 hao hka5 hg4 hst5 Hrab Hans Hp4 Hown4
      go_wp2_with fail
      refine (across_any s r T1 F1 G1 Hao.out.good Hao.out.may (by have := Hao.out.len; omega) w5 Hp5.out.ps Hp5.out.rs Hp5.out.ap).mono ?_
      rintro e w6 ⟨mp, rfl, hmap, hT6⟩
      have Hmap := Lib.hid hmap
      have hb6 : Below w.heap.size w w6 := Hb2.out.trans ((Hb5.out.trans (hT6.below (Nat.le_trans (Nat.le_refl _) Hb5.out.size) Hp5.out.lg)).mono Hb2.out.size)
      have Hb6 := Lib.hid hb6
      have hka := Hst5.out.keysAt hT6 Hg4.out
      have hkb := Hown5.out.keysAt hT6 (fun g hg => Hown5.out.out g hg)
      have hsz : T1.length + 1 ≤ 100000 := by have := Hao.out.len; omega
      have hall : ∀ y ∈ ks, 0 ≤ y.2 ∧ y.2 < ((T1.length + 1 : Nat) : Int) := fun y hy => by have := Hao.out.keys y hy; omega
      have hkeys := keys_any mp (T1.length + 1) ks va vb vc vd hsz hall (by have := Hao.out.few; omega) w6 hmap hka hkb
      obtain ⟨cx, hcx⟩ : ∃ x : Nat, cc = x := ⟨cc.toNat, by have := Hao.out.last.1; omega⟩
      have hsame := fun d => same_any mp (T1.length + 1) cx (by have := Hao.out.last.2; omega) hsz (w6.drewN d) hmap
      have Hkeys := Lib.hid hkeys
      have Hsame := Lib.hid hsame
      rw [hcx]
      clear hcx hkeys hsame hall hsz hka hkb hmap hT6 hb6 Hmap Hao Hst5 Hg4 Hown5 Hb5 Hp5
      go_wp2_with fail
      refine Hkeys.out.mono ?_
      rintro e wx ⟨rfl, d, hwx⟩
      subst wx
      go_wp2_with fail
      refine (Hsame.out d).mono ?_
      rintro e wx ⟨rfl, hwx⟩
      subst wx
      have hb6d := below_drewN Hb6.out d
      go_wp2_with fail
      refine (Lv.out _ (Htz.out.e.below hb6d H3.out) (Nat.le_trans H3.out hb6d.size)).mono ?_
      clear hb6d
      rintro e w8 ⟨rfl, hb8⟩
      have Hb8 := Lib.hid ((below_drewN Hb6.out d).trans (hb8.mono Hb6.out.size)); clear hb8
      go_wp2
      go_ret
      exact ⟨rfl, Hb8.out⟩
end Go.Proofs.YtedpljclnpiggaaGreatDoor
