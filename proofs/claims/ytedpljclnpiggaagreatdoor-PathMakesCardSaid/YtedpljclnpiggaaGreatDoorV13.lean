/- The children of a node, and its siblings, of both sides. (printed by bin/gen_midx.py) -/
import Derived.Test.YtedpljclnpiggaaGreatDoorV09
import Derived.Test.YtedpljclnpiggaaGreatDoorV12
set_option linter.unusedVariables false
set_option linter.unusedSimpArgs false
set_option maxRecDepth 100000
set_option maxHeartbeats 12800000
namespace Go.Proofs.YtedpljclnpiggaaGreatDoor
section
open Go Go.RowKit
theorem up_root {x n : Nat} (h : x + 1 = n) : upD 4 x n = [x] := by unfold upD; rw [if_pos h]
theorem up_step_all : ∀ n ∈ [1, 2, 4, 8], ∀ x ∈ List.range (2 * n - 1), x + 1 ≠ n → upD 4 x n = x :: upD 4 (parX x) n ∧ parX x < 2 * n - 1 := by decide
theorem up_step {x n : Nat} (hn : isN n) (hx : x < 2 * n - 1) (h : x + 1 ≠ n) : upD 4 x n = x :: upD 4 (parX x) n ∧ parX x < 2 * n - 1 :=
 up_step_all n (by rcases hn with rfl | rfl | rfl | rfl <;> decide) x (List.mem_range.2 hx) h
theorem up_len_all : ∀ n ∈ [1, 2, 4, 8], ∀ x ∈ List.range (2 * n - 1), (upD 4 x n).length ≤ 4 := by decide
theorem up_len {x n : Nat} (hn : isN n) (hx : x < 2 * n - 1) : (upD 4 x n).length ≤ 4 := up_len_all n (by rcases hn with rfl | rfl | rfl | rfl <;> decide) x (List.mem_range.2 hx)
def natI (l : List Nat) : List Int := l.map fun (y : Nat) => (y : Int)
theorem nIl (l : List Nat) : (natI l).length = l.length := by simp [natI]
theorem natI_snoc (l : List Nat) (x : Nat) : natI (l ++ [x]) = natI l ++ [(x : Int)] := by simp [natI]
theorem natI_get (l : List Nat) (i : Nat) : (natI l).getD i 0 = ((l.getD i 0 : Nat) : Int) := by
 unfold natI
 rw [List.getD_eq_getElem?_getD, List.getD_eq_getElem?_getD, List.getElem?_map]
 cases l[i]? <;> rfl
def lenOf : Value → Nat
 | .slice _ n _ => n
 | _ => 0
def UpIn (x0 n : Nat) (w : World) (v x ok : Value) (wr : World) (tot : List Nat) : Prop :=
 ∃ (pre : List Nat) (y : Nat) (b : Bool), OwnI v (natI pre) wr ∧ (∀ g, v.ownBlock = some g → w.heap.size ≤ g) ∧ Below w.heap.size w wr ∧ pre.length ≤ 4 ∧ x = .int .i64 y ∧ ok = .bool b ∧ ((b = true ∧ y < 2 * n - 1 ∧ pre ++ upD 4 y n = tot) ∨ (b = false ∧ pre = tot))
theorem aup_any (x0 n : Nat) (hn : isN n) (hx : x0 < 2 * n - 1) (w : World) (h : TzF w) (hsz : 3 ≤ w.heap.size) :
    Calls Tryz.prog 286 #[.int .i64 x0, .int .i64 n] w (NewI (natI (upD 4 x0 n)) w) := by
 obtain ⟨i0, hi0, hz0, hz1, hz2⟩ := info_parts infoI
 have H := hQ h; clear h
 have hst : UpIn x0 n w (.slice none 0 0) (.int .i64 x0) (.bool true) w (upD 4 x0 n) := ⟨[], x0, true, ownI_nil w, fun g hg => by simp [Value.ownBlock] at hg, Below.refl _ _, by simp, rfl, rfl, .inl ⟨rfl, hx, rfl⟩⟩
 have Hst := hQ hst; clear hst
 have Hn := hQ hn
 have Hx := hQ hx
 have htot := up_len hn hx
 have Htot := hQ htot; clear htot
 go_enter Tryz.func286, Tryz.ntmps286
 go_wp2_with (go_at_call 306; refine (ain_any x0 n Hn.out Hx.out _).mono ?_; rintro e wx ⟨rfl, hwx⟩; subst wx)
 clear hx hn
 go_loopw [5, 0, 6] (fun v x ok wr => UpIn x0 n w v x ok wr (upD 4 x0 n)) (fun v _ _ _ => 5 - lenOf v)
 case atStart => exact Hst.out
 case round =>
  obtain ⟨pre, y, b, hown, hg, hb, hlen, rfl, rfl, hcase⟩ := hrel
  cases b with
  | false =>
   have hpre : pre = upD 4 x0 n := by
    rcases hcase with ⟨h, _⟩ | ⟨_, h⟩
    · cases h
    · exact h
   have Hfin := hQ (And.intro hown (And.intro hg hb))
   obtain ⟨va, vc, rfl, _⟩ := ownI_len hown
   clear hown hg hb hcase
   go_wp2
   go_ret
   exact ⟨_, rfl, by rw [← hpre]; exact Hfin.out.1, Hfin.out.2.1, Hfin.out.2.2⟩
  | true =>
   obtain ⟨hy, htot⟩ : y < 2 * n - 1 ∧ pre ++ upD 4 y n = upD 4 x0 n := by
    rcases hcase with ⟨_, h⟩ | ⟨h, _⟩
    · exact h
    · cases h
   clear hcase
   have hl4 : pre.length + 1 ≤ 4 := by
    have h1 := congrArg List.length htot
    have h2 := Htot.out
    have h3 := up_eq Hn.out hy
    rw [List.length_append, h3] at h1
    simp at h1
    omega
   obtain ⟨va, vc, rfl, _⟩ := ownI_len hown
   have hownl : OwnI (.slice va (natI pre).length vc) (natI pre) wr := hown
   rw [nIl] at hown ⊢
   have hr : wr.ownsRow 0 3 1 (.slice va pre.length vc) pre.length ((natI pre).map intV) := by
    have h1 := hownl
    unfold OwnI at h1
    rw [nIl] at h1
    exact h1
   have Hr := hQ hr; clear hr hown hownl
   have Hg := hQ hg; clear hg
   rw [nIl] at Hg
   have Hb := hQ hb; clear hb
   have Htt := hQ htot; clear htot
   have Hy := hQ hy; clear hy
   have Hl4 := hQ hl4; clear hl4
   have hval := Hr.out.lt
   have Hlt := hQ hval; clear hval
   go_wp2_with (at_builtin; refine wpList_append_lies _ rfl (.tmp 17) (.tmp 19) 27 rfl 0 3 i0 (.int .i64 0) 1 8 Tryz.underlying27 hi0 hz0 hz1 hz2 rfl (by decide) (.slice va pre.length vc) pre.length ((natI pre).map intV) rfl (World.ownsRow.alloc Hr.out _) ⟨wr.heap.size, 0, none⟩ 1 1 [intV y] rfl rfl (cell_one_new _ _ _) (by intro u hu; simp [intV] at hu; rw [hu]; rfl) (by omega) (by have := Hl4.out; unfold maxLen; omega) (by have := Hl4.out; omega) (Nat.zero_le _) (wr.heap.size + 1) (by simp) ?_; intro g1 c1 w1 hown1 hgrow1 hat1 hlt1; have Hown1 := hQ hown1; clear hown1; have hg1 : w.heap.size ≤ g1 := hat1.elim (fun e => Hg.out _ e) (fun e => by have := Hb.out.size; omega); have Hb1 := hQ ((Hb.out.alloc Hb.out.size (.cells #[.int .i64 y] 3)).grown hgrow1 (by have := Hb.out.size; simp; omega) (fun k hk => Hg.out _ hk)); clear hgrow1 hat1; have Hlt1 := hQ hlt1; clear hlt1; have Hg1 := hQ hg1; clear hg1)
   refine (aparent_any y n Hn.out Hy.out _ (H.out.below Hb1.out hsz)).mono ?_
   rintro e wx ⟨rfl, hwx⟩
   subst wx
   have hown2 : OwnI (.slice (some ⟨g1, 0, none⟩) (pre.length + 1) c1) (natI (pre ++ [y])) w1 := by
    unfold OwnI
    rw [nIl, natI_snoc, List.map_append, List.length_append]
    exact Hown1.out
   have Hown2 := hQ hown2; clear hown2
   go_wp2
   refine ⟨⟨pre ++ [y], (if y + 1 = n then 0 else parX y), decide (y + 1 ≠ n), Hown2.out, fun g hg => ?_, Hb1.out, by have := Hl4.out; simp; omega, rfl, by simp, ?_⟩, by have := Hl4.out; simp [lenOf]; omega⟩
   · obtain rfl : g1 = g := by simpa [Value.ownBlock] using hg
     exact Hg1.out
   · by_cases hr : y + 1 = n
     · refine .inr ⟨by simp [hr], ?_⟩
       rw [← Htt.out, up_root hr]
     · obtain ⟨h1, h2⟩ := up_step Hn.out Hy.out hr
       refine .inl ⟨by simp [hr], by rw [if_neg hr]; exact h2, ?_⟩
       rw [← Htt.out, if_neg hr, h1, List.append_assoc]
       rfl
def DirA (l : List Nat) (w : World) (e : Ending) (w' : World) : Prop :=
 ∃ a c, e = .returned (.slice a l.length c) ∧ Below w.heap.size w w' ∧ (l ≠ [] → ∃ g cs, a = some ⟨g, 1, none⟩ ∧ w.heap.size ≤ g ∧ w'.heap[g]? = some (.cells cs 3 (0, 0)) ∧ ∀ i, i < l.length → w'.cell? ⟨g, 1 + i, none⟩ = some (.int .i64 (l.getD i 0 : Nat)))
theorem adirect_any (x n : Nat) (hn : isN n) (hx : x < 2 * n - 1) (w : World) (h : TzF w) (hsz : 3 ≤ w.heap.size) :
    Calls Tryz.prog 186 #[.int .i64 x, .int .i64 n] w (DirA (drD x n) w) := by
 have H := hQ (aup_any x n hn hx w h hsz); clear h hsz
 have hup := up_eq hn hx
 have hlen := direct_len hn hx
 go_enter Tryz.func186, Tryz.ntmps186
 go_wp2_with fail
 refine H.out.mono ?_
 rintro e w1 ⟨v, rfl, hown, hg, hb⟩
 rw [hup] at hown
 have hl2 : (natI (x :: drD x n)).length = (drD x n).length + 1 := by simp [natI]
 rcases hown.2 with ⟨_, e⟩ | ⟨g, cap, cur, e, _, hgg, h4, h5, _⟩
 · rw [hl2] at e; omega
 · subst e
   have hat : ∀ i, i < (drD x n).length → w1.cell? ⟨g, 1 + i, none⟩ = some (.int .i64 ((drD x n).getD i 0 : Nat)) := fun i hi => by
    obtain ⟨b, o, e, hc⟩ := ownI_at hown (1 + i) (by rw [hl2]; omega)
    obtain ⟨rfl, rfl⟩ : g = b ∧ 0 = o := by simpa using e
    rw [Nat.zero_add] at hc
    rw [hc, natI_get, Nat.add_comm 1 i]
    rfl
   rw [hl2] at h4 ⊢
   have Hat := hQ hat; clear hat
   have Hg := hQ (hg g rfl); clear hg
   have Hb := hQ hb; clear hb
   have Hgg := hQ hgg; clear hgg
   unfold maxLen at h5
   obtain ⟨k, hk⟩ : ∃ k, k = (drD x n).length := ⟨_, rfl⟩
   rw [← hk] at h4 hlen ⊢
   have Hk := hQ hk; clear hk hown H hup hl2
   by_cases h0 : k = 0
   · subst h0
     go_wp2
     go_ret
     exact ⟨none, 0, by rw [← Hk.out]; rfl, Hb.out, fun h => absurd (List.length_eq_zero_iff.1 Hk.out.symm) h⟩
   · have hkI : ¬ (k : Int) + 1 < 2 := by omega
     have hk4 : (k : Int) ≤ 3 := by omega
     go_wp2
     go_ret
     exact ⟨some ⟨g, 1, none⟩, _, by rw [← Hk.out]; rfl, Hb.out, fun _ => ⟨g, cur, rfl, Hg.out, Hgg.out, Hat.out⟩⟩
theorem ardirect_any (x0 n : Nat) (hn : isN n) (hx : x0 < 2 * n - 1) (w : World) :
    Calls Tryz.prog 196 #[.int .i64 x0, .int .i64 n] w (NewI (natI (drD x0 n)) w) := by
 obtain ⟨i0, hi0, hz0, hz1, hz2⟩ := info_parts infoI
 have hst : UpIn x0 n w (.slice none 0 0) (.int .i64 ((if x0 + 1 = n then 0 else parX x0 : Nat) : Int)) (.bool (decide (x0 + 1 ≠ n))) w (drD x0 n) := by
  refine ⟨[], _, _, ownI_nil w, fun g hg => by simp [Value.ownBlock] at hg, Below.refl _ _, by simp, rfl, rfl, ?_⟩
  have hd : drD x0 n = (upD 4 x0 n).tail := rfl
  by_cases hr : x0 + 1 = n
  · refine .inr ⟨by simp [hr], ?_⟩
    rw [hd, up_root hr]
    rfl
  · obtain ⟨h1, h2⟩ := up_step hn hx hr
    refine .inl ⟨by simp [hr], by rw [if_neg hr]; exact h2, ?_⟩
    rw [hd, if_neg hr, h1]
    rfl
 have hpar := arparent_any x0 n hn hx
 generalize (if x0 + 1 = n then 0 else parX x0) = pn at hst hpar
 generalize decide (x0 + 1 ≠ n) = pb at hst hpar
 have Hst := hQ hst; clear hst
 have Hpar := hQ hpar; clear hpar
 have Hn := hQ hn
 have htot := direct_len hn hx
 have Htot := hQ htot; clear htot
 go_enter Tryz.func196, Tryz.ntmps196
 go_wp2_with (go_at_call 292; refine (Hpar.out _).mono ?_; rintro e wx ⟨rfl, hwx⟩; subst wx)
 clear hx hn
 go_loopw [5, 6, 7] (fun v x ok wr => UpIn x0 n w v x ok wr (drD x0 n)) (fun v _ _ _ => 5 - lenOf v)
 case atStart => exact Hst.out
 case round =>
  obtain ⟨pre, y, b, hown, hg, hb, hlen, rfl, rfl, hcase⟩ := hrel
  cases b with
  | false =>
   have hpre : pre = drD x0 n := by
    rcases hcase with ⟨h, _⟩ | ⟨_, h⟩
    · cases h
    · exact h
   have Hfin := hQ (And.intro hown (And.intro hg hb))
   obtain ⟨va, vc, rfl, _⟩ := ownI_len hown
   clear hown hg hb hcase
   go_wp2
   go_ret
   exact ⟨_, rfl, by rw [← hpre]; exact Hfin.out.1, Hfin.out.2.1, Hfin.out.2.2⟩
  | true =>
   obtain ⟨hy, htot⟩ : y < 2 * n - 1 ∧ pre ++ upD 4 y n = drD x0 n := by
    rcases hcase with ⟨_, h⟩ | ⟨h, _⟩
    · exact h
    · cases h
   clear hcase
   have hl4 : pre.length + 1 ≤ 4 := by
    have h1 := congrArg List.length htot
    have h2 := Htot.out
    have h3 := up_eq Hn.out hy
    rw [List.length_append, h3] at h1
    simp at h1
    omega
   obtain ⟨va, vc, rfl, _⟩ := ownI_len hown
   have hownl : OwnI (.slice va (natI pre).length vc) (natI pre) wr := hown
   rw [nIl] at hown ⊢
   have hr : wr.ownsRow 0 3 1 (.slice va pre.length vc) pre.length ((natI pre).map intV) := by
    have h1 := hownl
    unfold OwnI at h1
    rw [nIl] at h1
    exact h1
   have Hr := hQ hr; clear hr hown hownl
   have Hg := hQ hg; clear hg
   rw [nIl] at Hg
   have Hb := hQ hb; clear hb
   have Htt := hQ htot; clear htot
   have Hy := hQ hy; clear hy
   have Hl4 := hQ hl4; clear hl4
   go_wp2_with (at_builtin; refine wpList_append_lies _ rfl (.tmp 15) (.tmp 17) 27 rfl 0 3 i0 (.int .i64 0) 1 8 Tryz.underlying27 hi0 hz0 hz1 hz2 rfl (by decide) (.slice va pre.length vc) pre.length ((natI pre).map intV) rfl (World.ownsRow.alloc Hr.out _) ⟨wr.heap.size, 0, none⟩ 1 1 [intV y] rfl rfl (cell_one_new _ _ _) (by intro u hu; simp [intV] at hu; rw [hu]; rfl) (by omega) (by have := Hl4.out; unfold maxLen; omega) (by have := Hl4.out; omega) (Nat.zero_le _) (wr.heap.size + 1) (by simp) ?_; intro g1 c1 w1 hown1 hgrow1 hat1 hlt1; have Hown1 := hQ hown1; clear hown1; have hg1 : w.heap.size ≤ g1 := hat1.elim (fun e => Hg.out _ e) (fun e => by have := Hb.out.size; omega); have Hb1 := hQ ((Hb.out.alloc Hb.out.size (.cells #[.int .i64 y] 3)).grown hgrow1 (by have := Hb.out.size; simp; omega) (fun k hk => Hg.out _ hk)); clear hgrow1 hat1; have Hlt1 := hQ hlt1; clear hlt1; have Hg1 := hQ hg1; clear hg1)
   refine (arparent_any y n Hn.out Hy.out _).mono ?_
   rintro e wx ⟨rfl, hwx⟩
   subst wx
   have hown2 : OwnI (.slice (some ⟨g1, 0, none⟩) (pre.length + 1) c1) (natI (pre ++ [y])) w1 := by
    unfold OwnI
    rw [nIl, natI_snoc, List.map_append, List.length_append]
    exact Hown1.out
   have Hown2 := hQ hown2; clear hown2
   go_wp2
   refine ⟨⟨pre ++ [y], (if y + 1 = n then 0 else parX y), decide (y + 1 ≠ n), Hown2.out, fun g hg => ?_, Hb1.out, by have := Hl4.out; simp; omega, rfl, by simp, ?_⟩, by have := Hl4.out; simp [lenOf]; omega⟩
   · obtain rfl : g1 = g := by simpa [Value.ownBlock] using hg
     exact Hg1.out
   · by_cases hr : y + 1 = n
     · refine .inr ⟨by simp [hr], ?_⟩
       rw [← Htt.out, up_root hr]
     · obtain ⟨h1, h2⟩ := up_step Hn.out Hy.out hr
       refine .inl ⟨by simp [hr], by rw [if_neg hr]; exact h2, ?_⟩
       rw [← Htt.out, if_neg hr, h1, List.append_assoc]
       rfl
end
section
open Go Go.RowKit
def lefX : Nat → Nat
 | 1 => 0
 | 3 => 1
 | 5 => 4
 | 7 => 3
 | 9 => 8
 | 11 => 9
 | 13 => 12
 | _ => 0
def rigX : Nat → Nat
 | 1 => 2
 | 3 => 5
 | 5 => 6
 | 7 => 11
 | 9 => 10
 | 11 => 13
 | 13 => 14
 | _ => 0
def sibX (x : Nat) : Nat := 2 * parX x - x
theorem amleft_0 (w : World) (h : TzF w) : Calls Tryz.prog 321 #[.int .i64 0] w fun e w' => e = .returned (.tuple #[.int .i64 0, .bool false]) ∧ w' = w := by
 have H := hQ (alev_0 w h); clear h
 go_enter Tryz.func321, Tryz.ntmps321
 go_wp2_with (go_at_call 304; refine H.out.mono ?_; rintro e wx ⟨rfl, hwx⟩; subst wx)
 go_ret2
 exact ⟨rfl, rfl⟩
theorem amleft_1 (w : World) (h : TzF w) : Calls Tryz.prog 321 #[.int .i64 1] w fun e w' => e = .returned (.tuple #[.int .i64 0, .bool true]) ∧ w' = w := by
 have H := hQ (alev_1 w h); clear h
 have q1 : bits BinOp.andNot IntKind.i64 1 1 = 0 := by decide +kernel
 go_enter Tryz.func321, Tryz.ntmps321
 go_wp2_with (go_at_call 304; refine H.out.mono ?_; rintro e wx ⟨rfl, hwx⟩; subst wx)
 go_ret2
 exact ⟨rfl, rfl⟩
theorem amright_1 (w : World) (h : TzF w) : Calls Tryz.prog 322 #[.int .i64 1] w fun e w' => e = .returned (.tuple #[.int .i64 2, .bool true]) ∧ w' = w := by
 have HL := hQ (alev_1 w h)
 have H := hQ (amleft_1 w h); clear h
 go_enter Tryz.func322, Tryz.ntmps322
 go_wp2_with (first
  | (go_at_call 321; refine H.out.mono ?_; rintro e wx ⟨rfl, hwx⟩; subst wx)
  | (go_at_call 304; refine HL.out.mono ?_; rintro e wx ⟨rfl, hwx⟩; subst wx))
 go_ret2
 exact ⟨rfl, rfl⟩
theorem amleft_2 (w : World) (h : TzF w) : Calls Tryz.prog 321 #[.int .i64 2] w fun e w' => e = .returned (.tuple #[.int .i64 0, .bool false]) ∧ w' = w := by
 have H := hQ (alev_2 w h); clear h
 go_enter Tryz.func321, Tryz.ntmps321
 go_wp2_with (go_at_call 304; refine H.out.mono ?_; rintro e wx ⟨rfl, hwx⟩; subst wx)
 go_ret2
 exact ⟨rfl, rfl⟩
theorem amleft_3 (w : World) (h : TzF w) : Calls Tryz.prog 321 #[.int .i64 3] w fun e w' => e = .returned (.tuple #[.int .i64 1, .bool true]) ∧ w' = w := by
 have H := hQ (alev_3 w h); clear h
 have q1 : bits BinOp.andNot IntKind.i64 3 2 = 1 := by decide +kernel
 go_enter Tryz.func321, Tryz.ntmps321
 go_wp2_with (go_at_call 304; refine H.out.mono ?_; rintro e wx ⟨rfl, hwx⟩; subst wx)
 go_ret2
 exact ⟨rfl, rfl⟩
theorem amright_3 (w : World) (h : TzF w) : Calls Tryz.prog 322 #[.int .i64 3] w fun e w' => e = .returned (.tuple #[.int .i64 5, .bool true]) ∧ w' = w := by
 have HL := hQ (alev_3 w h)
 have H := hQ (amleft_3 w h); clear h
 go_enter Tryz.func322, Tryz.ntmps322
 go_wp2_with (first
  | (go_at_call 321; refine H.out.mono ?_; rintro e wx ⟨rfl, hwx⟩; subst wx)
  | (go_at_call 304; refine HL.out.mono ?_; rintro e wx ⟨rfl, hwx⟩; subst wx))
 go_ret2
 exact ⟨rfl, rfl⟩
theorem amleft_4 (w : World) (h : TzF w) : Calls Tryz.prog 321 #[.int .i64 4] w fun e w' => e = .returned (.tuple #[.int .i64 0, .bool false]) ∧ w' = w := by
 have H := hQ (alev_4 w h); clear h
 go_enter Tryz.func321, Tryz.ntmps321
 go_wp2_with (go_at_call 304; refine H.out.mono ?_; rintro e wx ⟨rfl, hwx⟩; subst wx)
 go_ret2
 exact ⟨rfl, rfl⟩
theorem amleft_5 (w : World) (h : TzF w) : Calls Tryz.prog 321 #[.int .i64 5] w fun e w' => e = .returned (.tuple #[.int .i64 4, .bool true]) ∧ w' = w := by
 have H := hQ (alev_5 w h); clear h
 have q1 : bits BinOp.andNot IntKind.i64 5 1 = 4 := by decide +kernel
 go_enter Tryz.func321, Tryz.ntmps321
 go_wp2_with (go_at_call 304; refine H.out.mono ?_; rintro e wx ⟨rfl, hwx⟩; subst wx)
 go_ret2
 exact ⟨rfl, rfl⟩
theorem amright_5 (w : World) (h : TzF w) : Calls Tryz.prog 322 #[.int .i64 5] w fun e w' => e = .returned (.tuple #[.int .i64 6, .bool true]) ∧ w' = w := by
 have HL := hQ (alev_5 w h)
 have H := hQ (amleft_5 w h); clear h
 go_enter Tryz.func322, Tryz.ntmps322
 go_wp2_with (first
  | (go_at_call 321; refine H.out.mono ?_; rintro e wx ⟨rfl, hwx⟩; subst wx)
  | (go_at_call 304; refine HL.out.mono ?_; rintro e wx ⟨rfl, hwx⟩; subst wx))
 go_ret2
 exact ⟨rfl, rfl⟩
theorem amleft_6 (w : World) (h : TzF w) : Calls Tryz.prog 321 #[.int .i64 6] w fun e w' => e = .returned (.tuple #[.int .i64 0, .bool false]) ∧ w' = w := by
 have H := hQ (alev_6 w h); clear h
 go_enter Tryz.func321, Tryz.ntmps321
 go_wp2_with (go_at_call 304; refine H.out.mono ?_; rintro e wx ⟨rfl, hwx⟩; subst wx)
 go_ret2
 exact ⟨rfl, rfl⟩
theorem amleft_7 (w : World) (h : TzF w) : Calls Tryz.prog 321 #[.int .i64 7] w fun e w' => e = .returned (.tuple #[.int .i64 3, .bool true]) ∧ w' = w := by
 have H := hQ (alev_7 w h); clear h
 have q1 : bits BinOp.andNot IntKind.i64 7 4 = 3 := by decide +kernel
 go_enter Tryz.func321, Tryz.ntmps321
 go_wp2_with (go_at_call 304; refine H.out.mono ?_; rintro e wx ⟨rfl, hwx⟩; subst wx)
 go_ret2
 exact ⟨rfl, rfl⟩
theorem amright_7 (w : World) (h : TzF w) : Calls Tryz.prog 322 #[.int .i64 7] w fun e w' => e = .returned (.tuple #[.int .i64 11, .bool true]) ∧ w' = w := by
 have HL := hQ (alev_7 w h)
 have H := hQ (amleft_7 w h); clear h
 go_enter Tryz.func322, Tryz.ntmps322
 go_wp2_with (first
  | (go_at_call 321; refine H.out.mono ?_; rintro e wx ⟨rfl, hwx⟩; subst wx)
  | (go_at_call 304; refine HL.out.mono ?_; rintro e wx ⟨rfl, hwx⟩; subst wx))
 go_ret2
 exact ⟨rfl, rfl⟩
theorem amleft_8 (w : World) (h : TzF w) : Calls Tryz.prog 321 #[.int .i64 8] w fun e w' => e = .returned (.tuple #[.int .i64 0, .bool false]) ∧ w' = w := by
 have H := hQ (alev_8 w h); clear h
 go_enter Tryz.func321, Tryz.ntmps321
 go_wp2_with (go_at_call 304; refine H.out.mono ?_; rintro e wx ⟨rfl, hwx⟩; subst wx)
 go_ret2
 exact ⟨rfl, rfl⟩
theorem amleft_9 (w : World) (h : TzF w) : Calls Tryz.prog 321 #[.int .i64 9] w fun e w' => e = .returned (.tuple #[.int .i64 8, .bool true]) ∧ w' = w := by
 have H := hQ (alev_9 w h); clear h
 have q1 : bits BinOp.andNot IntKind.i64 9 1 = 8 := by decide +kernel
 go_enter Tryz.func321, Tryz.ntmps321
 go_wp2_with (go_at_call 304; refine H.out.mono ?_; rintro e wx ⟨rfl, hwx⟩; subst wx)
 go_ret2
 exact ⟨rfl, rfl⟩
theorem amright_9 (w : World) (h : TzF w) : Calls Tryz.prog 322 #[.int .i64 9] w fun e w' => e = .returned (.tuple #[.int .i64 10, .bool true]) ∧ w' = w := by
 have HL := hQ (alev_9 w h)
 have H := hQ (amleft_9 w h); clear h
 go_enter Tryz.func322, Tryz.ntmps322
 go_wp2_with (first
  | (go_at_call 321; refine H.out.mono ?_; rintro e wx ⟨rfl, hwx⟩; subst wx)
  | (go_at_call 304; refine HL.out.mono ?_; rintro e wx ⟨rfl, hwx⟩; subst wx))
 go_ret2
 exact ⟨rfl, rfl⟩
theorem amleft_10 (w : World) (h : TzF w) : Calls Tryz.prog 321 #[.int .i64 10] w fun e w' => e = .returned (.tuple #[.int .i64 0, .bool false]) ∧ w' = w := by
 have H := hQ (alev_10 w h); clear h
 go_enter Tryz.func321, Tryz.ntmps321
 go_wp2_with (go_at_call 304; refine H.out.mono ?_; rintro e wx ⟨rfl, hwx⟩; subst wx)
 go_ret2
 exact ⟨rfl, rfl⟩
theorem amleft_11 (w : World) (h : TzF w) : Calls Tryz.prog 321 #[.int .i64 11] w fun e w' => e = .returned (.tuple #[.int .i64 9, .bool true]) ∧ w' = w := by
 have H := hQ (alev_11 w h); clear h
 have q1 : bits BinOp.andNot IntKind.i64 11 2 = 9 := by decide +kernel
 go_enter Tryz.func321, Tryz.ntmps321
 go_wp2_with (go_at_call 304; refine H.out.mono ?_; rintro e wx ⟨rfl, hwx⟩; subst wx)
 go_ret2
 exact ⟨rfl, rfl⟩
theorem amright_11 (w : World) (h : TzF w) : Calls Tryz.prog 322 #[.int .i64 11] w fun e w' => e = .returned (.tuple #[.int .i64 13, .bool true]) ∧ w' = w := by
 have HL := hQ (alev_11 w h)
 have H := hQ (amleft_11 w h); clear h
 go_enter Tryz.func322, Tryz.ntmps322
 go_wp2_with (first
  | (go_at_call 321; refine H.out.mono ?_; rintro e wx ⟨rfl, hwx⟩; subst wx)
  | (go_at_call 304; refine HL.out.mono ?_; rintro e wx ⟨rfl, hwx⟩; subst wx))
 go_ret2
 exact ⟨rfl, rfl⟩
theorem amleft_12 (w : World) (h : TzF w) : Calls Tryz.prog 321 #[.int .i64 12] w fun e w' => e = .returned (.tuple #[.int .i64 0, .bool false]) ∧ w' = w := by
 have H := hQ (alev_12 w h); clear h
 go_enter Tryz.func321, Tryz.ntmps321
 go_wp2_with (go_at_call 304; refine H.out.mono ?_; rintro e wx ⟨rfl, hwx⟩; subst wx)
 go_ret2
 exact ⟨rfl, rfl⟩
theorem amleft_13 (w : World) (h : TzF w) : Calls Tryz.prog 321 #[.int .i64 13] w fun e w' => e = .returned (.tuple #[.int .i64 12, .bool true]) ∧ w' = w := by
 have H := hQ (alev_13 w h); clear h
 have q1 : bits BinOp.andNot IntKind.i64 13 1 = 12 := by decide +kernel
 go_enter Tryz.func321, Tryz.ntmps321
 go_wp2_with (go_at_call 304; refine H.out.mono ?_; rintro e wx ⟨rfl, hwx⟩; subst wx)
 go_ret2
 exact ⟨rfl, rfl⟩
theorem amright_13 (w : World) (h : TzF w) : Calls Tryz.prog 322 #[.int .i64 13] w fun e w' => e = .returned (.tuple #[.int .i64 14, .bool true]) ∧ w' = w := by
 have HL := hQ (alev_13 w h)
 have H := hQ (amleft_13 w h); clear h
 go_enter Tryz.func322, Tryz.ntmps322
 go_wp2_with (first
  | (go_at_call 321; refine H.out.mono ?_; rintro e wx ⟨rfl, hwx⟩; subst wx)
  | (go_at_call 304; refine HL.out.mono ?_; rintro e wx ⟨rfl, hwx⟩; subst wx))
 go_ret2
 exact ⟨rfl, rfl⟩
theorem amleft_14 (w : World) (h : TzF w) : Calls Tryz.prog 321 #[.int .i64 14] w fun e w' => e = .returned (.tuple #[.int .i64 0, .bool false]) ∧ w' = w := by
 have H := hQ (alev_14 w h); clear h
 go_enter Tryz.func321, Tryz.ntmps321
 go_wp2_with (go_at_call 304; refine H.out.mono ?_; rintro e wx ⟨rfl, hwx⟩; subst wx)
 go_ret2
 exact ⟨rfl, rfl⟩
theorem amleft_odd (x : Nat) (hx : x < 15) (ho : x % 2 = 1) (w : World) (h : TzF w) : Calls Tryz.prog 321 #[.int .i64 x] w fun e w' => e = .returned (.tuple #[.int .i64 (lefX x : Nat), .bool true]) ∧ w' = w := by
 have hc : x = 1 ∨ x = 3 ∨ x = 5 ∨ x = 7 ∨ x = 9 ∨ x = 11 ∨ x = 13 := by omega
 rcases hc with rfl | rfl | rfl | rfl | rfl | rfl | rfl
 · exact amleft_1 w h
 · exact amleft_3 w h
 · exact amleft_5 w h
 · exact amleft_7 w h
 · exact amleft_9 w h
 · exact amleft_11 w h
 · exact amleft_13 w h
theorem amleft_even (x : Nat) (hx : x < 15) (ho : x % 2 = 0) (w : World) (h : TzF w) : Calls Tryz.prog 321 #[.int .i64 x] w fun e w' => e = .returned (.tuple #[.int .i64 0, .bool false]) ∧ w' = w := by
 have hc : x = 0 ∨ x = 2 ∨ x = 4 ∨ x = 6 ∨ x = 8 ∨ x = 10 ∨ x = 12 ∨ x = 14 := by omega
 rcases hc with rfl | rfl | rfl | rfl | rfl | rfl | rfl | rfl
 · exact amleft_0 w h
 · exact amleft_2 w h
 · exact amleft_4 w h
 · exact amleft_6 w h
 · exact amleft_8 w h
 · exact amleft_10 w h
 · exact amleft_12 w h
 · exact amleft_14 w h
theorem amright_odd (x : Nat) (hx : x < 15) (ho : x % 2 = 1) (w : World) (h : TzF w) : Calls Tryz.prog 322 #[.int .i64 x] w fun e w' => e = .returned (.tuple #[.int .i64 (rigX x : Nat), .bool true]) ∧ w' = w := by
 have hc : x = 1 ∨ x = 3 ∨ x = 5 ∨ x = 7 ∨ x = 9 ∨ x = 11 ∨ x = 13 := by omega
 rcases hc with rfl | rfl | rfl | rfl | rfl | rfl | rfl
 · exact amright_1 w h
 · exact amright_3 w h
 · exact amright_5 w h
 · exact amright_7 w h
 · exact amright_9 w h
 · exact amright_11 w h
 · exact amright_13 w h
theorem mrleft_odd (x : Nat) (hx : x < 15) (ho : x % 2 = 1) (w : World) : Calls Tryz.prog 299 #[.int .i64 x] w fun e w' => e = .returned (.tuple #[.int .i64 (lefX x : Nat), .bool true]) ∧ w' = w := by
 have hc : x = 1 ∨ x = 3 ∨ x = 5 ∨ x = 7 ∨ x = 9 ∨ x = 11 ∨ x = 13 := by omega
 rcases hc with rfl | rfl | rfl | rfl | rfl | rfl | rfl
 · exact arleft_1 w
 · exact arleft_3 w
 · exact arleft_5 w
 · exact arleft_7 w
 · exact arleft_9 w
 · exact arleft_11 w
 · exact arleft_13 w
theorem mrright_odd (x : Nat) (hx : x < 15) (ho : x % 2 = 1) (w : World) : Calls Tryz.prog 300 #[.int .i64 x] w fun e w' => e = .returned (.tuple #[.int .i64 (rigX x : Nat), .bool true]) ∧ w' = w := by
 have hc : x = 1 ∨ x = 3 ∨ x = 5 ∨ x = 7 ∨ x = 9 ∨ x = 11 ∨ x = 13 := by omega
 rcases hc with rfl | rfl | rfl | rfl | rfl | rfl | rfl
 · exact arright_1 w
 · exact arright_3 w
 · exact arright_5 w
 · exact arright_7 w
 · exact arright_9 w
 · exact arright_11 w
 · exact arright_13 w
theorem par_le_all : ∀ n ∈ [1, 2, 4, 8], ∀ x ∈ List.range (2 * n - 1), x + 1 ≠ n → x ≤ 2 * parX x ∧ parX x ≤ 14 ∧ sibX x < 2 * n - 1 := by decide
theorem par_le {x n : Nat} (hn : isN n) (hx : x < 2 * n - 1) (h : x + 1 ≠ n) : x ≤ 2 * parX x ∧ parX x ≤ 14 ∧ sibX x < 2 * n - 1 :=
 par_le_all n (by rcases hn with rfl | rfl | rfl | rfl <;> decide) x (List.mem_range.2 hx) h
theorem amsib_any (x n : Nat) (hn : isN n) (hx : x < 2 * n - 1) (w : World) (h : TzF w) : Calls Tryz.prog 320 #[.int .i64 x, .int .i64 n] w fun e w' => e = .returned (.tuple #[.int .i64 ((if x + 1 = n then 0 else sibX x : Nat) : Int), .bool (decide (x + 1 ≠ n))]) ∧ w' = w := by
 have hp := aparent_any x n hn hx w h
 by_cases hr : x + 1 = n
 · have e1 : (if x + 1 = n then 0 else parX x) = 0 := if_pos hr
   have e2 : decide (x + 1 ≠ n) = false := by simp [hr]
   have e3 : (if x + 1 = n then 0 else sibX x) = 0 := if_pos hr
   rw [e1, e2] at hp
   rw [e3, e2]
   have H := hQ hp
   clear hp h hr e1 e2 e3 hx hn
   go_enter Tryz.func320, Tryz.ntmps320
   go_wp2_with (go_at_call 307; refine H.out.mono ?_; rintro e wx ⟨rfl, hwx⟩; subst wx)
   go_ret2
   exact ⟨rfl, rfl⟩
 · have hle := par_le hn hx hr
   have e1 : (if x + 1 = n then 0 else parX x) = parX x := if_neg hr
   have e2 : decide (x + 1 ≠ n) = true := by simp [hr]
   have e3 : (if x + 1 = n then 0 else sibX x) = sibX x := if_neg hr
   rw [e1, e2] at hp
   rw [e3, e2]
   have e4 : ((sibX x : Nat) : Int) = 2 * (parX x : Nat) - x := by unfold sibX; omega
   rw [e4]
   have H := hQ hp
   have b1 : ((parX x : Nat) : Int) ≤ 14 := by omega
   have b2 : (x : Int) ≤ 28 := by omega
   generalize parX x = p at H b1
   clear hp h hr e1 e2 e3 e4 hle hx hn
   go_enter Tryz.func320, Tryz.ntmps320
   go_wp2_with (go_at_call 307; refine H.out.mono ?_; rintro e wx ⟨rfl, hwx⟩; subst wx)
   go_ret2
   exact ⟨rfl, rfl⟩
def copD (n : Nat) (l : List Nat) : List Nat := (l.filter fun y => decide (y + 1 ≠ n)).map sibX
def copathD (x n : Nat) : List Nat := copD n (upD 4 x n)
def CopRel (n : Nat) (up : List Nat) (N0 : Nat) (w2 : World) (v i : Value) (wr : World) : Prop :=
 ∃ k : Nat, k ≤ up.length ∧ i = .int .i64 k ∧ OwnI v (natI (copD n (up.take k))) wr ∧ (∀ g, v.ownBlock = some g → N0 ≤ g) ∧ Below N0 w2 wr
theorem amcopath_any (x n : Nat) (hn : isN n) (hx : x < 2 * n - 1) (w : World) (h : TzF w) (hsz : 3 ≤ w.heap.size) :
    Calls Tryz.prog 293 #[.int .i64 x, .int .i64 n] w (NewI (natI (copathD x n)) w) := by
 obtain ⟨i0, hi0, hz0, hz1, hz2⟩ := info_parts infoI
 have H := hQ (aup_any x n hn hx w h hsz)
 have He := hQ h
 have hupl := up_len hn hx
 have hult := up_lt hn hx
 have hdef : copathD x n = copD n (upD 4 x n) := rfl
 generalize upD 4 x n = up at H hupl hult hdef
 have Hult := hQ hult
 have Hdef := hQ hdef
 have Hupl := hQ hupl
 have Hn := hQ hn
 have huI : (up.length : Int) ≤ 4 := by omega
 clear h hult hdef hupl hn hx
 go_enter Tryz.func293, Tryz.ntmps293
 go_wp2_with fail
 refine H.out.mono ?_
 rintro e w1 ⟨v, rfl, hown, hg, hb⟩
 obtain ⟨va, vc, rfl, _⟩ := ownI_len hown
 have hat := fun i hi => ownI_at hown i hi
 rw [nIl] at hat ⊢
 have Hat := hQ hat
 have Hb := hQ hb
 clear hat hb hg hown H
 go_wp2
 go_loopw [5, 14] (fun v i wr => CopRel n up w1.heap.size w1 v i wr) (fun _ i _ => up.length - (intOf i).toNat)
 case atStart => exact ⟨0, Nat.zero_le _, rfl, by rw [List.take_zero]; exact ownI_nil w1, fun g hg => by simp [Value.ownBlock] at hg, Below.refl _ _⟩
 case round =>
  obtain ⟨k, hk, rfl, hown, hg, hbr⟩ := hrel
  obtain ⟨oa, oc, rfl, _⟩ := ownI_len hown
  have hl4 : (copD n (up.take k)).length ≤ 4 := by
   unfold copD
   rw [List.length_map]
   have := List.length_filter_le (fun y => decide (y + 1 ≠ n)) (up.take k)
   rw [List.length_take] at this
   have := Hupl.out
   omega
  have hr : wr.ownsRow 0 3 1 (.slice oa (copD n (up.take k)).length oc) (copD n (up.take k)).length ((natI (copD n (up.take k))).map intV) := by
   have h1 := hown
   unfold OwnI at h1
   rw [nIl] at h1
   exact h1
  rw [nIl] at hg ⊢
  have Hr := hQ hr
  have Hg := hQ hg
  have Hbr := hQ hbr
  have Hl4 := hQ hl4
  clear hr hg hown hl4
  by_cases hkl : k < up.length
  · obtain ⟨gb, go, rfl, cy⟩ := Hat.out k hkl
    have hgl := World.block_lt_of_cell? w1 _ cy
    have cy2 := (hbr.cell (p := ⟨gb, go + k, none⟩) hgl).trans cy
    rw [natI_get] at cy2
    have hmem : up.getD k 0 ∈ up := by rw [List.getD_eq_getElem?_getD, List.getElem?_eq_getElem hkl]; exact List.getElem_mem _
    have hy := Hult.out _ hmem
    have htk : up.take (k + 1) = up.take k ++ [up.getD k 0] := by rw [List.take_add_one, List.getD_eq_getElem?_getD, List.getElem?_eq_getElem hkl]; rfl
    generalize up.getD k 0 = y at cy2 hy htk
    have hkI : (k : Int) < up.length := by omega
    have Htk := hQ htk
    have hsib := amsib_any y n Hn.out hy wr (He.out.below (Hb.out.trans (hbr.mono Hb.out.size)) hsz)
    clear htk cy hgl hmem hbr hy
    by_cases hroot : y + 1 = n
    · have e1 : (if y + 1 = n then 0 else sibX y) = 0 := if_pos hroot
      have e2 : decide (y + 1 ≠ n) = false := by simp [hroot]
      have hcd : copD n (up.take (k + 1)) = copD n (up.take k) := by
       rw [Htk.out]
       unfold copD
       rw [List.filter_append]
       simp [hroot]
      rw [e1, e2] at hsib
      have Hsib := hQ hsib
      have Hcd := hQ hcd
      clear hsib hcd hroot e1 e2
      go_wp2_with fail
      refine Hsib.out.mono ?_
      rintro e wx ⟨rfl, hwx⟩
      subst wx
      go_wp2
      exact ⟨⟨k + 1, by omega, by go_num, by rw [Hcd.out]; unfold OwnI; rw [nIl]; exact Hr.out, Hg.out, Hbr.out⟩, by simp [intOf]; omega⟩
    · have e1 : (if y + 1 = n then 0 else sibX y) = sibX y := if_neg hroot
      have e2 : decide (y + 1 ≠ n) = true := by simp [hroot]
      have hcd : copD n (up.take (k + 1)) = copD n (up.take k) ++ [sibX y] := by
       rw [Htk.out]
       unfold copD
       rw [List.filter_append]
       simp [hroot]
      rw [e1, e2] at hsib
      generalize sibX y = sy at hsib hcd
      have Hsib := hQ hsib
      have Hcd := hQ hcd
      clear hsib hcd hroot e1 e2
      generalize copD n (up.take k) = pre at Hr Hg Hcd Hl4 ⊢
      go_wp2_with fail
      refine Hsib.out.mono ?_
      rintro e wx ⟨rfl, hwx⟩
      subst wx
      go_wp2_with (at_builtin; refine wpList_append_lies _ rfl (.tmp 25) (.tmp 27) 27 rfl 0 3 i0 (.int .i64 0) 1 8 Tryz.underlying27 hi0 hz0 hz1 hz2 rfl (by decide) (.slice oa pre.length oc) pre.length ((natI pre).map intV) rfl (World.ownsRow.alloc Hr.out _) ⟨wr.heap.size, 0, none⟩ 1 1 [intV sy] rfl rfl (cell_one_new _ _ _) (by intro u hu; simp [intV] at hu; rw [hu]; rfl) (by omega) (by have := Hl4.out; unfold maxLen; omega) (by have := Hl4.out; omega) (Nat.zero_le _) (wr.heap.size + 1) (by simp) ?_; intro g1 c1 w5 hown1 hgrow1 hat1 hlt1; have Hown1 := hQ hown1; have Hg1 := hQ (hat1.elim (fun e => Hg.out _ e) (fun e => by have := Hbr.out.size; omega) : w1.heap.size ≤ g1); have Hb5 := hQ ((Hbr.out.alloc Hbr.out.size (.cells #[.int .i64 sy] 3)).grown hgrow1 (by have := Hbr.out.size; simp; omega) (fun k hk => Hg.out _ hk)); clear hown1 hgrow1 hat1 hlt1)
      refine ⟨⟨k + 1, by omega, by go_num, ?_, fun g hg => ?_, Hb5.out⟩, by simp [intOf]; omega⟩
      · rw [Hcd.out]
        unfold OwnI
        rw [nIl, natI_snoc, List.map_append, List.length_append]
        exact Hown1.out
      · obtain rfl : g1 = g := by simpa [Value.ownBlock] using hg
        exact Hg1.out
  · obtain rfl : k = up.length := by omega
    rw [List.take_length, ← Hdef.out] at Hr Hg ⊢
    have hkI : ¬ (up.length : Int) < up.length := by omega
    have Hb4 := hQ (Hb.out.trans (hbr.mono Hb.out.size))
    clear hbr
    go_wp2
    go_ret
    exact ⟨_, rfl, by unfold OwnI; rw [nIl]; exact Hr.out, fun g hg => Nat.le_trans Hb.out.size (Hg.out g hg), Hb4.out⟩
end
end Go.Proofs.YtedpljclnpiggaaGreatDoor
