/-
  The statement ScriptJoins' function answers true.
-/
import Derived.Test.YtmfecoejechdmaaDoorTwc
import Derived.Test.YtmfecoejechdmaaDoorJoin
import Derived.Laws.AppendOwnNone
namespace Go.Proofs.YtmfecoejechdmaaDoor
open Go Go.RowKit

theorem parse_line : ∀ (n : Nat) (acc : List StepD) (s : List UInt8), s.length < n → acc.length ≤ 2048 → 0 ≤ (parseGo n acc s).2.1 ∧ (parseGo n acc s).2.1 ≤ 2048
  | 0, _, _, h, _ => by omega
  | n + 1, acc, s, hn, ha => by
    by_cases h0 : s = []
    · subst h0
      simp [parseGo]
    · obtain ⟨c1, c2, c3, hc⟩ : ∃ c1 c2 c3, Lib.cut s [10] = (c1, c2, c3) := ⟨_, _, _, rfl⟩
      rw [parseGo_fuel (n + 1) (s.length + 1) acc s hn (by omega), parse_next acc h0 hc]
      have hl := (cut_len s h0).1
      rw [hc] at hl
      simp only at hl
      cases hs : stepD c1 with
      | none => simp only; omega
      | some t =>
        simp only
        split
        · simp only; omega
        · split
          · simp only; omega
          · rw [parseGo_fuel (c2.length + 1) n _ _ (by omega) (by omega)]
            exact parse_line n _ c2 (by omega) (by simp; omega)
theorem parseD_line (s : List UInt8) : 0 ≤ (parseD s).2.1 ∧ (parseD s).2.1 ≤ 2048 := by
  unfold parseD
  split
  · simp
  · exact parse_line _ _ _ (by omega) (by simp)

theorem wpList_unguard {P : Program} {ops : Array Oper} {rest : List Oper} {o : Oper} {a : Act} {Q : Exit → Act → World → Prop} {w : World} (hw : Region.wanted o (yielded ops a.tmps) = true)
    (h : wpList P ops Q (⟨o.dst, o.op, o.type, o.pos, o.after, none⟩ :: rest) a w) : wpList P ops Q (o :: rest) a w := by
  unfold wpList at h ⊢
  rw [if_pos hw]
  rw [if_pos (by rfl)] at h
  exact h

theorem vals_one (l : List StepD) : ∀ u ∈ l.flatMap StepD.vals, u.oneCell' = true := by
  intro u hu
  obtain ⟨s, _, hs⟩ := List.mem_flatMap.1 hu
  exact five_one s u hs

/-- 'append(xs, ys...)', both the call's own. -/
theorem wpList_app_steps {ops : Array Oper} {rest : List Oper} {o : Oper} {a : Act} {Q : Exit → Act → World → Prop} {w : World} (hgd : o.guard = none) (s x : Operand) (t : TypeId)
    (ho : o.op = .call { callee := .builtin .append, args := #[s, x], argTypes := #[t, t] }) (ht : t = 22)
    (B B' : Nat) (v b : Value) (xs ys : List StepD) (hs : a.eval s = v) (hx : a.eval x = b) (hv : OwnSteps B v xs w) (hb : OwnSteps B' b ys w) (hlen : xs.length + ys.length ≤ 2048) (hB : B ≤ w.heap.size)
    (h : ∀ v' w', OwnSteps B v' (xs ++ ys) w' → Below B w w' → wpList Tryd.prog ops Q rest (a.put o.dst v') w') :
    wpList Tryd.prog ops Q (o :: rest) a w := by
  obtain ⟨i0, hi, hz0, hz1, hz2⟩ := info_parts info38
  subst ht
  rcases hb.2 with ⟨rfl, hn⟩ | ⟨g, cap, cur, rfl, hb1, hg, hnc, hcap, hcur, htake⟩
  · have hys : ys = [] := List.length_eq_zero_iff.1 hn
    subst hys
    refine wpList_append_own_none hgd s x _ ho B _ i0 5 Tryd.underlying22 hi _ _ _ hs hv hx (h v w ?_ (Below.refl _ _))
    rw [List.append_nil]; exact hv
  · refine wpList_append_own_at _ hgd s x _ ho B _ i0 (.agg #[.int .u8 0, .int .i64 0, .int .i64 0, .int .i64 0, .int .i64 0]) 5 40 Tryd.underlying22 hi hz0 hz1 hz2 rfl (by decide) _ _ _ hs hv ⟨g, 0, none⟩ ys.length cap (ys.flatMap StepD.vals) hx (flat_steps_len ys)
      (fun j u hj => World.ownsRow.cells hb rfl j u hj) (vals_one ys) (by unfold maxLen; omega) (by omega) hB ?_
    intro v' w' hown hgrow _ _
    refine h v' w' ?_ ((Below.refl B w).grown hgrow hB (fun k hk => own_block hv k hk))
    unfold OwnSteps
    rw [List.length_append, List.flatMap_append]
    exact hown

set_option maxRecDepth 100000 in
set_option maxHeartbeats 1600000 in
theorem scriptJoins_long (a b : List UInt8) (ha : a.length ≤ 1152921504606846976) (hb : b.length ≤ 1152921504606846976) (hl : 65536 < a.length + b.length) (w : World) (he : Env w) :
    Calls Tryd.prog 5 #[.string ⟨a.toArray⟩, .string ⟨b.toArray⟩] w fun e w' => e = .returned (.bool true) ∧ Below w.heap.size w w' := by
  have hl' : 65536 < (a.length : Int) + b.length := by omega
  have Henv := Lib.hid he; clear he
  go_enter Tryd.func5, Tryd.ntmps5
  go_wp2_with fail
  refine (alive_any _ Henv.out).mono ?_
  rintro e w7 ⟨rfl, hb7⟩
  go_wp2
  go_ret
  exact ⟨rfl, hb7⟩

set_option maxRecDepth 100000 in
set_option maxHeartbeats 1600000 in
theorem scriptJoins_short (a b : List UInt8) (hl : a.length + b.length ≤ 65536) (w : World) (he : Env w) :
    Calls Tryd.prog 5 #[.string ⟨a.toArray⟩, .string ⟨b.toArray⟩] w fun e w' => e = .returned (.bool true) ∧ Below w.heap.size w w' := by
  have hl' : (a.length : Int) + b.length ≤ 65536 := by omega
  obtain ⟨x, xl, xe, hpx⟩ : ∃ x xl xe, parseD a = (x, xl, xe) := ⟨_, _, _, rfl⟩
  obtain ⟨y, yl, ye, hpy⟩ : ∃ x xl xe, parseD b = (x, xl, xe) := ⟨_, _, _, rfl⟩
  obtain ⟨z, zl, ze, hpz⟩ : ∃ x xl xe, parseD (a ++ b) = (x, xl, xe) := ⟨_, _, _, rfl⟩
  have hxl : x.length ≤ 2048 := by have := parseD_len a; rw [hpx] at this; exact this
  have hyl : y.length ≤ 2048 := by have := parseD_len b; rw [hpy] at this; exact this
  have hyl0 := parseD_line b
  rw [hpy] at hyl0
  simp only at hyl0
  have hye : ye ≠ 0 → y = [] := fun h => by
    have h := back_err (s := b) (by rw [hpy]; exact h)
    rw [hpy] at h
    exact h
  have hj : xe = 0 → _ := fun h => joins hl (by rw [hpx, h]) hpy
  rw [hpz] at hj
  simp only at hj
  have Hj := Lib.hid hj; clear hj
  have Hye := Lib.hid hye; clear hye
  have Henv := Lib.hid he; clear he
  have hpa := fun W hW => parse_any a (by omega) W hW
  have hpb := fun W hW => parse_any b (by omega) W hW
  have hpc := fun W hW => parse_any (a ++ b) (by rw [List.length_append]; omega) W hW
  unfold ParsePost at hpa hpb hpc
  rw [hpx] at hpa
  rw [hpy] at hpb
  rw [hpz] at hpc
  have Hpa := Lib.hid hpa; clear hpa
  have Hpb := Lib.hid hpb; clear hpb
  have Hpc := Lib.hid hpc; clear hpc
  clear hpx hpy hpz
  go_enter Tryd.func5, Tryd.ntmps5
  go_wp2_with fail
  refine (Hpa.out _ Henv.out).mono ?_
  rintro e w1 ⟨⟨vx, rfl, hownx, _⟩, hb1⟩
  simp only at hownx ⊢
  obtain ⟨ax, cx, rfl, _⟩ := own_len hownx
  have Hownx := Lib.hid hownx; clear hownx
  have Hb1 := Lib.hid hb1; clear hb1
  go_wp2_with fail
  refine (Hpb.out _ (Henv.out.below Hb1.out Henv.out.size)).mono ?_
  rintro e w2 ⟨⟨vy, rfl, howny, _⟩, hb2⟩
  simp only at howny ⊢
  obtain ⟨ay, cy, rfl, _⟩ := own_len howny
  have Hownx2 := Lib.hid (Hownx.out.keep hb2); clear Hownx
  have Howny := Lib.hid howny; clear howny
  have Hb2 := Lib.hid (Hb1.out.trans (hb2.mono Hb1.out.size)); clear hb2 Hb1
  go_wp2_with fail
  rw [ba_append]
  refine (Hpc.out _ (Henv.out.below Hb2.out Henv.out.size)).mono ?_
  rintro e w3 ⟨⟨vz, rfl, hownz, _⟩, hb3⟩
  simp only at hownz ⊢
  obtain ⟨az, cz, rfl, _⟩ := own_len hownz
  have Hownx3 := Lib.hid (Hownx2.out.keep hb3); clear Hownx2
  have Howny3 := Lib.hid (Howny.out.keep hb3); clear Howny
  have Hownz := Lib.hid hownz; clear hownz
  have Hb3 := Lib.hid (Hb2.out.trans (hb3.mono Hb2.out.size)); clear hb3 Hb2
  by_cases hxe : xe = 0
  · subst hxe
    have hj := Hj.out rfl
    clear Hj
    by_cases hbig : 2048 < x.length + y.length
    · have hbig' : 2048 < (x.length : Int) + y.length := by omega
      have hy0 : ye = 0 := Classical.byContradiction fun h => by
        rw [Hye.out h] at hbig
        simp at hbig
        omega
      subst hy0
      obtain rfl := (hj.1 rfl).2 hbig
      clear hj
      go_wp2_with (go_at_call 11; refine (alive_any _ (Henv.out.below Hb3.out Henv.out.size)).mono ?_; rintro e w7 ⟨rfl, hb7⟩; have Hb7 := Lib.hid (Hb3.out.trans (hb7.mono Hb3.out.size)); clear hb7; refine Hid.out ?_; refine Lib.hid ?_)
      go_ret
      exact ⟨rfl, Hb7.out⟩
    · have hbig' : (x.length : Int) + y.length ≤ 2048 := by omega
      by_cases hye0 : ye = 0
      · subst hye0
        have he := (hj.1 rfl).1 (by omega)
        clear hj
        simp only [Prod.mk.injEq] at he
        obtain ⟨rfl, rfl, rfl⟩ := he
        have hxs := own_steps (d := dfl) Hownx3.out rfl
        have hzs := own_steps (d := dfl) Hownz.out rfl
        have Hxs := Lib.hid hxs; clear hxs
        have Hzs := Lib.hid hzs; clear hzs
        go_wp2_with fail
        refine (twinOwn_any ax x.length cx (fun i => x.getD i dfl) (by omega) _ Hxs.out.2.1 Hxs.out.2.2).mono ?_
        rintro e w4 ⟨rfl, htw, hb4⟩
        rw [stepsL_getD] at htw
        have Htw := Lib.hid htw; clear htw
        have Howny4 := Lib.hid (Howny3.out.keep hb4)
        have hsz4 := hb4.size
        have Hb34 := Lib.hid hb4
        have Hb4 := Lib.hid (Hb3.out.trans (hb4.mono Hb3.out.size)); clear hb4
        go_wp2_with (at_builtin; refine wpList_unguard (by rfl) ?_; refine wpList_app_steps rfl _ _ _ rfl rfl w3.heap.size w1.heap.size _ _ x y rfl rfl Htw.out Howny4.out (by omega) hsz4 ?_; intro v' w5 hown' hb5)
        obtain ⟨a6, c6, rfl, _⟩ := own_len hown'
        have hst6 := own_steps (d := dfl) hown' rfl
        have Hst6 := Lib.hid hst6; clear hst6 hown'
        have Hzs5 := Lib.hid (Hzs.out.2.1.below (Hb34.out.trans hb5) (Nat.le_refl _))
        have Hb5 := Lib.hid (Hb4.out.trans (hb5.mono Hb3.out.size)); clear hb5 Hb4 Hb34
        have hsame := same_walk az a6 (x ++ y).length cz c6 (fun i => (x ++ y).getD i dfl) (fun i => (x ++ y).getD i dfl) (by rw [List.length_append]; omega) w5 Hzs5.out Hst6.out.2.1
        rw [show sameB (fun i => (x ++ y).getD i dfl) (fun i => (x ++ y).getD i dfl) (x ++ y).length = true from decide_eq_true (fun _ _ => rfl)] at hsame
        rw [List.length_append] at hsame ⊢
        refine hsame.mono ?_
        clear hsame
        rintro e w6 ⟨rfl, d6, rfl⟩
        have Hb6 := Lib.hid (Hb5.out.trans ((drewN_below w5 d6).mono Hb5.out.size)); clear Hb5
        go_wp2_with fail
        refine (alive_any _ (Henv.out.below Hb6.out Henv.out.size)).mono ?_
        rintro e w7 ⟨rfl, hb7⟩
        have Hb7 := Lib.hid (Hb6.out.trans (hb7.mono Hb6.out.size)); clear hb7 Hb6
        go_wp2
        go_ret
        exact ⟨rfl, Hb7.out⟩
      · have hj2 := hj.2 hye0
        clear hj
        rcases hj2 with ⟨rfl, rfl⟩ | rfl
        · go_wp2_with (go_at_call 11; refine (alive_any _ (Henv.out.below Hb3.out Henv.out.size)).mono ?_; rintro e w7 ⟨rfl, hb7⟩; have Hb7 := Lib.hid (Hb3.out.trans (hb7.mono Hb3.out.size)); clear hb7; refine Hid.out ?_; refine Lib.hid ?_)
          go_ret
          exact ⟨rfl, Hb7.out⟩
        · by_cases hy3 : ye = 3
          · by_cases hzl : zl = x.length + yl
            · go_wp2_with (go_at_call 11; refine (alive_any _ (Henv.out.below Hb3.out Henv.out.size)).mono ?_; rintro e w7 ⟨rfl, hb7⟩; have Hb7 := Lib.hid (Hb3.out.trans (hb7.mono Hb3.out.size)); clear hb7; refine Hid.out ?_; refine Lib.hid ?_)
              go_ret
              exact ⟨rfl, Hb7.out⟩
            · go_wp2_with (go_at_call 11; refine (alive_any _ (Henv.out.below Hb3.out Henv.out.size)).mono ?_; rintro e w7 ⟨rfl, hb7⟩; have Hb7 := Lib.hid (Hb3.out.trans (hb7.mono Hb3.out.size)); clear hb7; refine Hid.out ?_; refine Lib.hid ?_)
              go_ret
              exact ⟨rfl, Hb7.out⟩
          · go_wp2_with (go_at_call 11; refine (alive_any _ (Henv.out.below Hb3.out Henv.out.size)).mono ?_; rintro e w7 ⟨rfl, hb7⟩; have Hb7 := Lib.hid (Hb3.out.trans (hb7.mono Hb3.out.size)); clear hb7; refine Hid.out ?_; refine Lib.hid ?_)
            go_ret
            exact ⟨rfl, Hb7.out⟩
  · clear Hj
    go_wp2_with fail
    refine (alive_any _ (Henv.out.below Hb3.out Henv.out.size)).mono ?_
    rintro e w7 ⟨rfl, hb7⟩
    have Hb7 := Lib.hid (Hb3.out.trans (hb7.mono Hb3.out.size)); clear hb7 Hb3
    go_wp2
    go_ret
    exact ⟨rfl, Hb7.out⟩

theorem scriptJoins_any (a b : List UInt8) (ha : a.length ≤ 1152921504606846976) (hb : b.length ≤ 1152921504606846976) (w : World) (he : Env w) :
    Calls Tryd.prog 5 #[.string ⟨a.toArray⟩, .string ⟨b.toArray⟩] w fun e w' => e = .returned (.bool true) ∧ Below w.heap.size w w' := by
  by_cases h : 65536 < a.length + b.length
  · exact scriptJoins_long a b ha hb h w he
  · exact scriptJoins_short a b (by omega) w he
end Go.Proofs.YtmfecoejechdmaaDoor
