/-
  path.fits at the tree that lives makes.
-/
import Derived.Test.YtedpljclnpiggaaGreatDoorQStep
import Derived.Test.YtedpljclnpiggaaGreatDoorQTwin2
import Derived.Test.YtedpljclnpiggaaGreatDoorQTwo
set_option linter.unusedVariables false
set_option linter.unusedSimpArgs false
namespace Go.Proofs.YtedpljclnpiggaaGreatDoor
open Go Go.RowKit

theorem get4 : getT L4 4 = ⟨5, 0, 2, 0⟩ ∧ thereD L4.length 4 = true := by decide +kernel

set_option maxRecDepth 100000 in
set_option maxHeartbeats 1600000 in
theorem fits_1 (B s b c gk : Nat) (F : Nat → Prop) (w : World) (h : Lv B s F L4 w) (hT : T3 w b 8 5 5 10 4 6 0) (hk0 : w.cell? ⟨gk, 0, none⟩ = some (.int .i64 2)) (hk1 : w.cell? ⟨gk, 1, none⟩ = some (.int .i64 2)) :
    Calls Tryz.prog 181 #[.pointer (some ⟨s, 0, none⟩), .agg #[.slice (some ⟨b, 0, none⟩) 3 c], .slice (some ⟨gk, 0, none⟩) 1 1] w fun e w' => ∃ g cg, e = .returned (.slice (some ⟨g, 0, none⟩) 1 cg) ∧ OwnK (.slice (some ⟨g, 0, none⟩) 1 cg) [(2, 2)] w' ∧ w.heap.size ≤ g ∧ Below w.heap.size w w' := by
  obtain ⟨iK, hiK, hz0, hz1, hz2⟩ := info_parts infoKey
  have hgk := World.block_lt_of_cell? w _ hk0
  have hb1 := ((Below.refl w.heap.size w).alloc (Nat.le_refl _) (boxT (.slice (some ⟨b, 0, none⟩) 3 c)))
  have hb2 := hb1.alloc hb1.size (.cells #[.int .i64 2, .int .i64 2] 123)
  have hget := fun W (hW : Below w.heap.size w W) => sget_any s F L4 4 W (h.ps.new hW) (by decide)
  rw [get4.1, get4.2] at hget
  unfold TermD.arr at hget
  have Hget := Lib.hid hget; clear hget
  have Hb2 := Lib.hid hb2
  have Hgk := Lib.hid hgk
  have k4 := (hT.new hb2).c8
  have ka := (hb1.cell (p := ⟨gk, 0, none⟩) hgk).trans hk0
  have kb := (hb1.cell (p := ⟨gk, 1, none⟩) hgk).trans hk1
  have HT := Lib.hid hT
  clear h hT hb1 hb2 hgk
  go_enter Tryz.func181, Tryz.ntmps181
  go_wp2
  refine wp_loop_rounds 2 ?_
  rw [rounds_succ]
  go_wp2_with fail
  refine (Hget.out _ Hb2.out).mono ?_
  have hkey := row_alloc (w := w.alloc (boxT (.slice (some ⟨b, 0, none⟩) 3 c))) #[.int .i64 2, .int .i64 2] 123 (0, 0)
  rw [World.size_alloc] at hkey
  have Hkey := Lib.hid hkey; clear hkey
  obtain ⟨q, hq⟩ : ∃ q, q = w.heap.size := ⟨_, rfl⟩
  rw [← hq] at Hkey ⊢
  have Hq := Lib.hid hq; clear hq ka kb k4 hk0 hk1
  generalize (w.alloc (boxT (.slice (some ⟨b, 0, none⟩) 3 c))).alloc (.cells #[.int .i64 2, .int .i64 2] 123) = w1 at Hb2 Hkey ⊢
  rintro e w2 ⟨rfl, hb⟩
  have hql := (Array.getElem?_eq_some_iff.1 Hkey.out).1
  have hk2 := (hb.block (q + 1) hql).trans Hkey.out
  have hal := (Below.refl w2.heap.size w2).alloc (Nat.le_refl _) (.cells #[.int .u8 5, .int .i64 0, .int .i64 2, .int .i64 0] 107)
  have Hb3 := Lib.hid ((Hb2.out.trans (hb.mono Hb2.out.size)).trans (hal.mono (Nat.le_trans Hb2.out.size hb.size)))
  have hk3 := (hal.block (q + 1) (Nat.lt_of_lt_of_le hql hb.size)).trans hk2
  have k0 := cell_row hk3 0
  have k1 := cell_row hk3 1
  have Hk3 := Lib.hid hk3
  clear hb hk2 hk3 hal hql Hkey Hb2 Hget
  have hn1 : ∀ W : World, W.ownsRow 0 123 2 (.slice none 0 0) 0 [] := fun W => World.ownsRow_nil W 0 _ 2
  have Hn1 := Lib.hid hn1; clear hn1
  go_wp2_with (at_builtin; refine wpList_append_lies _ rfl (.tmp 51) (.tmp 53) 47 rfl 0 123 iK (.agg #[.int .i64 0, .int .i64 0]) 2 16 Tryz.underlying47 hiK hz0 hz1 hz2 rfl (by decide) (.slice none 0 0) 0 [] rfl (Hn1.out _) ⟨w2.heap.size + 1, 0, none⟩ 1 1 (keyV (2, 2)) rfl rfl (by have h := keyV_cells (w2.alloc (.cells #[.int .u8 5, .int .i64 0, .int .i64 2, .int .i64 0] 107)) (2, 2) 123; rw [World.size_alloc] at h; exact h) (by intro u hu; simp [keyV] at hu; rcases hu with rfl | rfl <;> rfl) (by omega) (by unfold maxLen; omega) (by omega) (Nat.zero_le _) (w2.heap.size + 1 + 1) (by simp) ?_; intro g cg w4 hown4 hgrow4 hat4 hlt4; have Hown4 := Lib.hid hown4; have Hgrow4 := Lib.hid hgrow4; have Hat4 := Lib.hid hat4; clear hown4 hgrow4 hat4 hlt4)
  rw [rounds_succ]
  go_wp2
  go_ret
  have hb4 := (Hb3.out.alloc Hb3.out.size (.cells #[.int .i64 2, .int .i64 2] 123)).grown Hgrow4.out (by have := Hb3.out.size; simp at this ⊢; omega) (fun k hk => by simp [Value.ownBlock] at hk)
  have hg : g = w2.heap.size + 1 + 1 := Hat4.out.elim (fun e => by simp [Value.ownBlock] at e) id
  refine ⟨g, cg, rfl, Hown4.out, ?_, hb4⟩
  have := Hb3.out.size
  simp at this
  omega
end Go.Proofs.YtedpljclnpiggaaGreatDoor

/-
  path.Open at the tree that lives makes.
-/
namespace Go.Proofs.YtedpljclnpiggaaGreatDoor
open Go Go.RowKit

theorem get11 : getT L4 11 = ⟨6, 0, 4, 5⟩ ∧ thereD L4.length 11 = true := by decide +kernel
theorem get4' : getT L4 4 = ⟨5, 0, 2, 0⟩ := by decide +kernel

/-- What Open finds. -/
structure OpAt (B s b c q gk sb : Nat) (F : Nat → Prop) (w : World) : Prop where
  lv : Lv B s F L4 w
  tr : StT F w b 8 5 5 10 4 6 0
  tb : Stays F w q (boxT (.slice (some ⟨b, 0, none⟩) 3 c))
  k0 : StC F w gk 0 (.int .i64 2)
  k1 : StC F w gk 1 (.int .i64 2)
  s0 : StC F w sb 0 (.int .i64 1)
  s1 : StC F w sb 1 (.int .i64 2)
  s2 : StC F w sb 2 (.int .i64 11)
theorem OpAt.new {B s b c q gk sb : Nat} {F : Nat → Prop} {w w' : World} (h : OpAt B s b c q gk sb F w) (hb : Below w.heap.size w w') : OpAt B s b c q gk sb F w' :=
  ⟨h.lv.new hb, h.tr.new hb, h.tb.new hb, h.k0.new hb, h.k1.new hb, h.s0.new hb, h.s1.new hb, h.s2.new hb⟩
theorem OpAt.below {B s b c q gk sb : Nat} {F : Nat → Prop} {w0 w w' : World} (h : OpAt B s b c q gk sb F w) (hB : Below B w0 w) (hb : Below w.heap.size w w') : Below B w0 w' := hB.trans (hb.mono h.lv.size)

def OpPost (B : Nat) (w : World) (r : Ending) (w' : World) : Prop :=
  ∃ a cl, r = .returned (.tuple #[.slice a 2 cl, .int .i64 6, .int .i64 0]) ∧ Below B w w'

theorem ris_two' : risingD [(2, 2), (1, 9)] = [(1, 9), (2, 2)] := by decide
theorem two_of' {v : Value} {w : World} (h : OwnK v (risingD [(2, 2), (1, 9)]) w) : ∃ a c, v = .slice a 2 c := by
  rcases h.2 with ⟨_, e⟩ | ⟨g, cap, cur, e, _⟩
  · rw [ris_two'] at e; simp at e
  · rw [ris_two'] at e; exact ⟨_, _, e⟩

set_option maxRecDepth 100000 in
set_option maxHeartbeats 3200000 in
theorem open_3 (B s b c gk sb cs : Nat) (F : Nat → Prop) (w : World) (h : Lv B s F L4 w) (hT : StT F w b 8 5 5 10 4 6 0) (hk0 : StC F w gk 0 (.int .i64 2)) (hk1 : StC F w gk 1 (.int .i64 2)) (hs0 : StC F w sb 0 (.int .i64 1)) (hs1 : StC F w sb 1 (.int .i64 2)) (hs2 : StC F w sb 2 (.int .i64 11)) (hcs : 1 ≤ cs) :
    Calls Tryz.prog 45 #[.pointer (some ⟨s, 0, none⟩), .agg #[.slice (some ⟨b, 0, none⟩) 3 c], .int .i64 0, .int .i64 1, .slice (some ⟨gk, 0, none⟩) 1 1, .slice (some ⟨sb, 0, none⟩) 1 cs] w (OpPost B w) := by
  obtain ⟨iK, hiK, hz0, hz1, hz2⟩ := info_parts infoKey
  have hFl := h.ps.lt
  have hb1 := (Below.refl w.heap.size w).alloc (Nat.le_refl _) (boxT (.slice (some ⟨b, 0, none⟩) 3 c))
  have hO : OpAt B s b c w.heap.size gk sb F (w.alloc (boxT (.slice (some ⟨b, 0, none⟩) 3 c))) := ⟨h.new hb1, hT.new hb1, ⟨row_alloc _ _ _, fun hf => absurd (hFl _ hf) (Nat.lt_irrefl _)⟩, hk0.new hb1, hk1.new hb1, hs0.new hb1, hs1.new hb1, hs2.new hb1⟩
  have H1 := Lib.hid hO
  have Hb1 := Lib.hid (hb1.mono h.size)
  have k := cell_row hO.tb.at' 0
  clear h hT hk0 hk1 hs0 hs1 hs2 hFl hb1 hO
  go_enter Tryz.func45, Tryz.ntmps45
  go_wp2_with fail
  refine (palive_any s F L4 _ H1.out.lv.ps).mono ?_
  rintro e wx ⟨rfl, hwx⟩
  subst wx
  obtain ⟨q, hq⟩ : ∃ q, q = w.heap.size := ⟨_, rfl⟩
  rw [← hq] at H1 k ⊢
  clear hq
  generalize w.alloc (boxT (.slice (some ⟨b, 0, none⟩) 3 c)) = w1 at H1 Hb1 k ⊢
  go_wp2_with fail
  refine (held_3 s b c F L4 (by decide) 8 5 5 10 4 6 0 (by decide) (.inr (by decide)) (by decide) (by omega) (by omega) (by omega) (by omega) (by omega) _ H1.out.lv.tz H1.out.lv.sz H1.out.lv.ps H1.out.tr.at').mono ?_
  rintro e w2 ⟨rfl, hb⟩
  have Hb2 := Lib.hid (H1.out.below Hb1.out hb); have H2 := Lib.hid (H1.out.new hb)
  clear hb H1 Hb1 k
  have k := cell_row H2.out.tb.at' 0
  go_wp2_with fail
  refine (leafed_0 b c 8 5 5 10 4 6 0 (by omega) (by omega) (by omega) (by omega) (by omega) (by omega) (by omega) (by omega) _ H2.out.lv.tz H2.out.lv.sz H2.out.tr.at').mono ?_
  rintro e w3 ⟨rfl, hb⟩
  have Hb3 := Lib.hid (H2.out.below Hb2.out hb); have H3 := Lib.hid (H2.out.new hb)
  clear hb H2 Hb2 k
  have k := cell_row H3.out.tb.at' 0
  go_wp2_with fail
  refine (leafed_1 b c 8 5 5 10 4 6 0 (by omega) (by omega) (by omega) (by omega) (by omega) (by omega) (by omega) (by omega) _ H3.out.lv.tz H3.out.lv.sz H3.out.tr.at').mono ?_
  rintro e w4 ⟨rfl, hb⟩
  have Hb4 := Lib.hid (H3.out.below Hb3.out hb); have H4 := Lib.hid (H3.out.new hb)
  clear hb H3 Hb3 k
  have k := cell_row H4.out.tb.at' 0
  go_wp2_with fail
  refine (joint_3 b c 8 5 5 10 4 6 0 ⟨by omega, by omega, by omega, by omega, by omega, by omega, by omega, by omega⟩ (by omega) _ H4.out.lv.tz H4.out.lv.sz H4.out.tr.at').mono ?_
  rintro e w5 ⟨rfl, hb⟩
  have Hb5 := Lib.hid (H4.out.below Hb4.out hb); have H5 := Lib.hid (H4.out.new hb)
  clear hb H4 Hb4 k
  have a0 := H5.out.s0.at'
  have a1 := H5.out.s1.at'
  have a2 := H5.out.s2.at'
  go_wp2_with fail
  refine wp_loop_rounds 2 ?_
  rw [rounds_succ]
  have hal := (Below.refl w5.heap.size w5).alloc (Nat.le_refl _) (.cells #[.int .i64 1, .int .i64 2, .int .i64 11] 143)
  have c0 := ((H5.out.new hal).k0).at'
  have c1 := ((H5.out.new hal).k1).at'
  have H6 := Lib.hid (H5.out.new hal)
  have Hb6 := Lib.hid (H5.out.below Hb5.out hal)
  have Hsl := Lib.hid (row_alloc (w := w5) #[.int .i64 1, .int .i64 2, .int .i64 11] 143 (0, 0))
  clear hal
  go_wp2_with fail
  refine wp_loop_rounds 2 ?_
  rw [rounds_succ]
  obtain ⟨w6, hw6⟩ : ∃ w6, w6 = w5.alloc (.cells #[.int .i64 1, .int .i64 2, .int .i64 11] 143) := ⟨_, rfl⟩
  obtain ⟨q5, hq5⟩ : ∃ q5, q5 = w5.heap.size := ⟨_, rfl⟩
  rw [← hw6] at H6 Hb6 Hsl c0 c1 ⊢
  rw [← hq5] at Hsl ⊢
  clear hw6 hq5 H5 Hb5 a0 a1 a2
  have hal := (Below.refl w6.heap.size w6).alloc (Nat.le_refl _) (.cells #[.int .i64 2, .int .i64 2] 123)
  have hsl := (hal.block q5 (Array.getElem?_eq_some_iff.1 Hsl.out).1).trans Hsl.out
  have e0 := cell_row hsl 0
  have e1 := cell_row hsl 1
  have e2 := cell_row hsl 2
  have H7 := Lib.hid (H6.out.new hal)
  have Hb7 := Lib.hid (H6.out.below Hb6.out hal)
  clear hal hsl
  go_wp2_with fail
  refine (opened_yes s F L4 (by decide) 11 2 4 5 get11.1 get11.2 get4' _ H7.out.lv.ps).mono ?_
  rintro e w8 ⟨rfl, hb⟩
  have Hb8 := Lib.hid (H7.out.below Hb7.out hb); have H8 := Lib.hid (H7.out.new hb)
  clear hb H7 Hb7 H6 Hb6 Hsl e0 e1 e2 c0 c1
  have k := cell_row H8.out.tb.at' 0
  go_wp2_with fail
  refine (above_3 B s b c F _ H8.out.lv H8.out.tr).mono ?_
  rintro e w9 ⟨F9, a, cl, rfl, hlv, hka, hx, hTu⟩
  have H9 := Lib.hid (show OpAt B s b c q gk sb F9 w9 from ⟨hlv, H8.out.tr.step hx hTu, H8.out.tb.step hx hTu, H8.out.k0.step hx hTu, H8.out.k1.step hx hTu, H8.out.s0.step hx hTu, H8.out.s1.step hx hTu, H8.out.s2.step hx hTu⟩)
  have Hb9 := Lib.hid (Hb8.out.trans (hTu.below H8.out.lv.size H8.out.lv.far))
  have Hka := Lib.hid hka
  clear hlv hka hx hTu H8 Hb8 k
  have k := cell_row H9.out.tb.at' 0
  go_wp2_with fail
  refine (fits_1 B s b c gk F9 _ H9.out.lv H9.out.tr.at' H9.out.k0.at' H9.out.k1.at').mono ?_
  rintro e w10 ⟨g, cg, rfl, hown, hg, hb⟩
  have Hb10 := Lib.hid (H9.out.below Hb9.out hb)
  have hka2 := Hka.out.below hb (Nat.le_refl _)
  obtain ⟨b1, o1, ea, ca0, ca1⟩ := hka2 0 (by simp)
  subst ea
  have hgl : B ≤ g := Nat.le_trans H9.out.lv.size hg
  have hB10 : B ≤ w10.heap.size := Nat.le_trans H9.out.lv.size hb.size
  have Hown := Lib.hid hown
  have Hgl := Lib.hid (And.intro hgl hB10)
  clear hown hg hb hgl hB10 hka2 Hka H9 Hb9 k
  have hca : ∀ j u, (keyV (1, 9))[j]? = some u → w10.cell? ((⟨b1, o1, none⟩ : Addr).add j) = some u := by
    intro j u hj
    have ha : (⟨b1, o1, none⟩ : Addr).add j = ⟨b1, o1 + j, none⟩ := by unfold Addr.add; split <;> simp_all
    rw [ha]
    have h2 : j = 0 ∨ j = 1 := by
      have := (List.getElem?_eq_some_iff.1 hj).1
      simp [keyV] at this
      omega
    rcases h2 with rfl | rfl
    · simp [keyV] at hj
      subst hj
      simpa using ca0
    · simp [keyV] at hj
      subst hj
      simpa using ca1
  have Hca := Lib.hid hca
  clear hca ca0 ca1
  go_wp2_with (at_builtin; refine wpList_append_lies _ rfl (.tmp 106) (.tmp 107) 47 rfl 0 123 iK (.agg #[.int .i64 0, .int .i64 0]) 2 16 Tryz.underlying47 hiK hz0 hz1 hz2 rfl (by decide) (.slice (some ⟨g, 0, none⟩) 1 cg) 1 (keyV (2, 2)) rfl Hown.out ⟨b1, o1, none⟩ 1 cl (keyV (1, 9)) rfl rfl Hca.out (by intro u hu; simp [keyV] at hu; rcases hu with rfl | rfl <;> rfl) (by omega) (by unfold maxLen; omega) (by omega) (Nat.zero_le _) w10.heap.size (by simp) ?_; intro g2 c2 w11 hown11 hgrow11 hat11 hlt11; have Hown11 := Lib.hid hown11; have Hsz := Lib.hid hgrow11.size; have Hb11 := Lib.hid (Hb10.out.grown hgrow11 Hgl.out.2 (fun k hk => by simp [Value.ownBlock] at hk; have := Hgl.out.1; omega)); clear hown11 hgrow11 hat11 hlt11)
  have hst : StO (fun _ => False) w11 123 2 (.slice (some ⟨g2, 0, none⟩) 2 c2) 2 (keyV (2, 2) ++ keyV (1, 9)) := ⟨Hown11.out, fun _ _ h => h⟩
  refine (rising_any (some ⟨g2, 0, none⟩) c2 [(2, 2), (1, 9)] (by simp) (by simp) (by intro k hk; simp at hk; rcases hk with rfl | rfl <;> simp [i64ok]) _ (keys_at (l := [(2, 2), (1, 9)]) hst rfl)).mono ?_
  rintro e w12 ⟨v, rfl, hv, hvn, hb⟩
  obtain ⟨va, vc, rfl⟩ := two_of' hv
  have Hb12 := Lib.hid (Hb11.out.trans (hb.mono (Nat.le_trans Hgl.out.2 Hsz.out)))
  clear hb hv hvn hst
  go_wp2_with fail
  go_ret3
  exact ⟨va, vc, rfl, Hb12.out⟩
end Go.Proofs.YtedpljclnpiggaaGreatDoor

/-
  phratrylaw09.lives: it answers true.
-/
namespace Go.Proofs.YtedpljclnpiggaaGreatDoor
open Go Go.RowKit

set_option maxRecDepth 100000 in
set_option maxHeartbeats 1600000 in
theorem lives_any : Lives := by
  intro w tz h3
  have Htz := Lib.hid tz
  have H3 := Lib.hid h3
  clear tz h3
  go_enter Tryz.func14, Tryz.ntmps14
  go_wp2_with fail
  refine (two_any _).mono ?_
  rintro e w1 ⟨s, t, b, c, F, rfl, hps, hT, hF, hb⟩
  have hal := (Below.refl w1.heap.size w1).alloc (Nat.le_refl _) (boxT (.slice (some ⟨b, 0, none⟩) 3 c))
  have hlv : Lv w.heap.size s F L0 w1 := ⟨Htz.out.below hb H3.out, hps, hF, H3.out, hb.size⟩
  have H2 := Lib.hid (hlv.new hal)
  have HT2 := Lib.hid (hT.new hal)
  have Hb2 := Lib.hid (hb.trans (hal.mono hb.size))
  clear hps hT hF hb hal hlv
  go_wp2_with fail
  refine (make_3 w.heap.size s b c F _ H2.out HT2.out).mono ?_
  generalize w1.alloc (boxT (.slice (some ⟨b, 0, none⟩) 3 c)) = w2 at H2 HT2 Hb2 ⊢
  rintro e w3 ⟨g, gk, ck, sb, cs, F', rfl, hT, hs0, hs1, hs2, hx, hps, hTu, hcs⟩
  have hal := (Below.refl w3.heap.size w3).alloc (Nat.le_refl _) (boxT (.slice (some ⟨g, 0, none⟩) 3 3))
  have hal2 := hal.alloc hal.size (.cells #[.int .i64 2, .int .i64 2] 123)
  have hlv := H2.out.step hx hps hTu
  have hkr := row_alloc (w := w3.alloc (boxT (.slice (some ⟨g, 0, none⟩) 3 3))) #[.int .i64 2, .int .i64 2] 123 (0, 0)
  rw [World.size_alloc] at hkr
  have hkF : ¬ F' (w3.heap.size + 1) := fun hf => by have := hps.lt _ hf; omega
  have hk0 : StC F' _ (w3.heap.size + 1) 0 (.int .i64 2) := ⟨cell_row hkr 0, hkF⟩
  have hk1 : StC F' _ (w3.heap.size + 1) 1 (.int .i64 2) := ⟨cell_row hkr 1, hkF⟩
  have hop := open_3 w.heap.size s g 3 (w3.heap.size + 1) sb cs F' _ (hlv.new hal2) (hT.new hal2) hk0 hk1 (hs0.new hal2) (hs1.new hal2) (hs2.new hal2) hcs
  have Hop := Lib.hid hop
  have Hb3 := Lib.hid ((Hb2.out.trans (hTu.below H2.out.size H2.out.far)).trans (hal2.mono hlv.size))
  clear hop hal hal2 hlv hkr hkF hk0 hk1 hT hs0 hs1 hs2 hx hps hTu hcs H2 HT2 Hb2
  go_wp2_with fail
  refine Calls.mono Hop.out ?_
  rintro e w4 ⟨a, cl, rfl, hb4⟩
  have Hb4 := Lib.hid (Hb3.out.trans hb4)
  clear hb4
  go_wp2
  go_ret
  exact ⟨rfl, Hb4.out⟩
end Go.Proofs.YtedpljclnpiggaaGreatDoor
