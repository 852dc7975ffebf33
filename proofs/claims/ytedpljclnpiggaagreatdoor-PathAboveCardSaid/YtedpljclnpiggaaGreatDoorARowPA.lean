/-
  A tree, opened; what the rows' list gives.
-/
import Derived.Lib.SmallJoins
import Derived.Carry
import Derived.Test.YtedpljclnpiggaaGreatDoorQRowS
import Derived.Test.YtedpljclnpiggaaGreatDoorATree
import Derived.Test.YtedpljclnpiggaaGreatDoorAPA
import Derived.Test.YtedpljclnpiggaaGreatDoorQFits
set_option linter.unusedVariables false
set_option linter.unusedSimpArgs false
namespace Go.Proofs.YtedpljclnpiggaaGreatDoor
open Go Go.ChangeShapes Go.WideShapes Go.ChangeAt Go.Deep Go.RowKit

theorem laid_tzA {W : World} (h : laidMet Tryz.prog Rows.pathAboveRow.laid W) : Lib.TabIs Tryz.prog W "math/bits.deBruijn64tab" .u8 tz64 := by
  have h2 : laidMet Tryz.prog Rows.pathSecretsRow.laid W := h
  exact laid_tz h2

theorem tz_full {W : World} (h : Lib.TabIs Tryz.prog W "math/bits.deBruijn64tab" .u8 tz64) : TzF W :=
  ⟨tz_env h, h.cell (g := 0) (by kernel_rfl) 3 (by decide), h.cell (g := 0) (by kernel_rfl) 7 (by decide)⟩

theorem array1 {α : Type} {cs : Array α} (h : cs.size = 1) : ∃ c0, cs = #[c0] := by
  obtain ⟨l⟩ := cs
  match l, h with
  | [c0], _ => exact ⟨c0, rfl⟩

section
variable {H : Type} {enc : TypeId × Value → H} {P : Program} {w : World} {base : Nat} {spare : Nat → Bool} {held : Bool}
theorem open_agg1 {r : Reach} {b0 : Nat} {t : TypeId} {f0 : Field} {v : Value} {d : DataW H} {p : List MemPlace} (hs : P.underlying t = some (.struct #[f0])) (hone : oneCellFields P #[f0] = true) (hC : P.cellsOf t = 1)
    (hv : Value.okWide P w r b0 t v) (h : DataW.Trod enc P w base spare held t v d p) : ∃ (v0 : Value) (y0 : DataW H × List MemPlace) (n : Nat), v = .agg #[v0] ∧ DataW.trod enc P w base spare held n f0.type [v0] = some y0 := by
  obtain ⟨cs, rfl, hsz⟩ := okWide_struct hs hv
  obtain ⟨c0, rfl⟩ := array1 (hsz.trans hC)
  obtain ⟨fuel, hf⟩ := h
  obtain ⟨xs, n, _, _, _, hlen, hfs⟩ := DataW.trod_struct hs hf
  obtain ⟨o0, k0⟩ := hone_of hone 0 f0 rfl
  have h1 := hfs 0 f0 rfl
  have hx : xs[0]? = some (xs[0]'(by rw [hlen]; simp)) := List.getElem?_eq_getElem _
  rw [hx] at h1
  exact ⟨c0, _, n, rfl, by simpa [Value.cells, o0, k0] using h1⟩
end

theorem spot_none {w : World} {a : Addr} {v : Value} (h : w.cell? a = some v) (h2 : a = a.add 0) : a.spot = none := by
  obtain ⟨b, o, spot⟩ := a
  cases spot with
  | none => rfl
  | some k =>
    exfalso
    rw [h2] at h
    simp only [Addr.add, if_true, World.cell?] at h
    split at h
    · simp at h
    · cases h

theorem nums_in {H : Type} {enc : TypeId × Value → H} {w : World} {spare : Nat → Bool} {fuel : Nat} {a : Option Addr} {n c : Nat} {x : DataW H × List MemPlace}
    (h : DataW.trod enc Tryz.prog w 0 spare true fuel 27 [.slice a n c] = some x) : ∃ l : List Int, l.length = n ∧ n ≤ 9223372036854775807 ∧ NumsAt w.heap.size w a l := by
  rcases open_slice Tryz.underlying27 h with ⟨hcs, hx⟩ | ⟨a', len, cap, m, n', D, Pl, hcs, _, hl, hm, hmm, hx, hi⟩
  · simp at hcs
    obtain ⟨rfl, rfl, rfl⟩ := hcs
    exact ⟨[], rfl, by omega, fun i hi => by simp at hi⟩
  · simp at hcs
    obtain ⟨rfl, rfl, rfl⟩ := hcs
    have hnm : n ≤ m := by rw [hmm]; split <;> omega
    have hone : ∀ i, ∃ k : Int, i < n → w.cell? (a'.add i) = some (.int .i64 k) := by
      intro i
      by_cases hin : i < n
      · obtain ⟨cs', hc, ht'⟩ := hi i (by omega)
        rw [show Tryz.prog.cellsOf 3 = 1 from by kernel_rfl, Nat.mul_one] at hc
        obtain ⟨k, e, _, _⟩ := DataW.trod_int Tryz.underlying3 ht'
        obtain ⟨_, hcl, hat⟩ := World.cells?_some hc
        have h0 := hat 0 (by omega)
        rw [e] at h0
        rw [Go.Deep.add_add, Nat.add_zero] at h0
        exact ⟨k, fun _ => by simpa using h0⟩
      · exact ⟨0, fun h => absurd h hin⟩
    obtain ⟨g, hg⟩ := Classical.axiomOfChoice hone
    refine ⟨(List.range n).map g, by simp, by unfold maxLen at hm; omega, fun i hin => ?_⟩
    rw [List.length_map, List.length_range] at hin
    obtain ⟨b, o, spot⟩ := a'
    have h0 := hg 0 (by omega)
    have hs : spot = none := by
      cases spot with
      | none => rfl
      | some k =>
        exfalso
        simp only [Addr.add, if_true, World.cell?] at h0
        split at h0
        · simp at h0
        · cases h0
    subst hs
    have hi := hg i hin
    rw [add_plain] at hi
    refine ⟨b, o, rfl, World.block_lt_of_cell? w _ hi, ?_⟩
    rw [hi]
    simp [List.getD_eq_getElem?_getD, hin]

theorem tree_in {H : Type} {enc : TypeId × Value → H} {w : World} {spare : Nat → Bool} {fuel : Nat} {a : Option Addr} {n c : Nat} {x : DataW H × List MemPlace}
    (h : DataW.trod enc Tryz.prog w 0 spare true fuel 42 [.slice a n c] = some x) : ∃ T : List NodeD, T.length = n ∧ n ≤ 9223372036854775807 ∧ FitT T ∧ TreeAt w.heap.size w a T := by
  rcases open_slice_fields Tryz.underlying42 Tryz.underlying125 (by kernel_rfl) (by kernel_rfl) h with ⟨hcs, hx⟩ | ⟨a', len, cap, m, D, Pl, hcs, _, hl, hm, hmm, hx, hf⟩
  · simp at hcs
    obtain ⟨rfl, rfl, rfl⟩ := hcs
    exact ⟨[], rfl, by omega, fun x hx => by simp at hx, fun i hi => by simp at hi⟩
  · simp at hcs
    obtain ⟨rfl, rfl, rfl⟩ := hcs
    have hnm : n ≤ m := by rw [hmm]; split <;> omega
    have hone : ∀ i, ∃ d : NodeD, i < n → (i64ok d.pub ∧ i64ok d.mem ∧ i64ok d.ep ∧ d.um.length ≤ 9223372036854775807) ∧ w.cell? (a'.add (i * 4 + 0)) = some (.int .i64 d.pub) ∧ w.cell? (a'.add (i * 4 + 1)) = some (.int .i64 d.mem) ∧ w.cell? (a'.add (i * 4 + 2)) = some (.int .i64 d.ep) ∧
        ∃ ua uc, w.cell? (a'.add (i * 4 + 3)) = some (.slice ua d.um.length uc) ∧ NumsAt w.heap.size w ua d.um := by
      intro i
      by_cases hi : i < n
      · obtain ⟨ys, n', _, _, _, hj⟩ := hf i (by omega)
        obtain ⟨v0, y0, c0, _, t0⟩ := hj 0 _ rfl
        obtain ⟨v1, y1, c1, _, t1⟩ := hj 1 _ rfl
        obtain ⟨v2, y2, c2, _, t2⟩ := hj 2 _ rfl
        obtain ⟨v3, y3, c3, _, t3⟩ := hj 3 _ rfl
        obtain ⟨n0, e0, _, w0⟩ := DataW.trod_int Tryz.underlying3 t0
        obtain ⟨n1, e1, _, w1⟩ := DataW.trod_int Tryz.underlying3 t1
        obtain ⟨n2, e2, _, w2⟩ := DataW.trod_int Tryz.underlying3 t2
        obtain rfl := List.singleton_inj.1 e0
        obtain rfl := List.singleton_inj.1 e1
        obtain rfl := List.singleton_inj.1 e2
        obtain ⟨ua, ul, uc, e3⟩ := Go.Joins.slice_form Tryz.underlying27 t3
        obtain rfl := List.singleton_inj.1 e3
        obtain ⟨l, rfl, hul, hnum⟩ := nums_in t3
        exact ⟨⟨n0, n1, n2, l⟩, fun _ => ⟨⟨wf_i64 w0, wf_i64 w1, wf_i64 w2, hul⟩, c0, c1, c2, ua, uc, c3, hnum⟩⟩
      · exact ⟨zeroN, fun h => absurd h hi⟩
    obtain ⟨g, hg⟩ := Classical.axiomOfChoice hone
    have hget : ∀ i, i < n → nodeD ((List.range n).map g) i = g i := fun i hi => by unfold nodeD; simp [List.getD_eq_getElem?_getD, hi]
    refine ⟨(List.range n).map g, by simp, by unfold maxLen at hm; omega, fun i hi => ?_, fun i hi => ?_⟩
    · rw [List.length_map, List.length_range] at hi
      rw [hget i hi]
      exact (hg i hi).1
    · rw [List.length_map, List.length_range] at hi
      rw [hget i hi]
      obtain ⟨b, o, spot⟩ := a'
      have h0 := (hg 0 (by omega)).2.1
      have hs : spot = none := by
        rw [Nat.zero_mul, Nat.zero_add] at h0
        cases spot with
        | none => rfl
        | some k =>
          exfalso
          simp only [Addr.add, if_true, World.cell?] at h0
          split at h0
          · simp at h0
          · cases h0
      subst hs
      obtain ⟨_, c0, c1, c2, ua, uc, c3, hnum⟩ := hg i hi
      rw [add_plain] at c0 c1 c2 c3
      exact ⟨b, o, rfl, World.block_lt_of_cell? w _ c0, c0, c1, c2, ua, uc, c3, hnum⟩
end Go.Proofs.YtedpljclnpiggaaGreatDoor

/-
  ████ THE CARD OF PathAbove ████
-/
namespace Go.Proofs.YtedpljclnpiggaaGreatDoor.pathAbove
open Go Go.ChangeShapes Go.WideShapes Go.ChangeAt Go.RowKit

theorem witness_row (os : Os) {H : Type} (enc : TypeId × Value → H) :
    (OpenSpec.ofChange Rows.pathAboveSpec).preRow enc Tryz.prog Tryz.f4 Rows.pathAboveRow.domain false Rows.pathAboveRow.laid ((laidWorld os).forCall (fun _ _ => 0) ⟨#[], #[.slice none 0 0, .agg #[.slice none 0 0], .int .i64 0, .int .i64 0], []⟩).memory #[.slice none 0 0, .agg #[.slice none 0 0], .int .i64 0, .int .i64 0] := by
  have hw : (DataW.whole enc Tryz.prog ((laidWorld os).forCall (fun _ _ => 0) ⟨#[], #[.slice none 0 0, .agg #[.slice none 0 0], .int .i64 0, .int .i64 0], []⟩).memory Tryz.f4.params.toList Rows.pathAboveSpec.vars false #[Value.slice none 0 0, .agg #[.slice none 0 0], .int .i64 0, .int .i64 0].toList 8).map (fun x => (x.1, x.2.1)) =
      some ([.nil, .agg [.nil], .lit (.int .i64 0), .lit (.int .i64 0)], []) := by kernel_rfl
  obtain ⟨⟨x1, x2, x3⟩, hx, hx1⟩ := Option.map_eq_some_iff.1 hw
  simp only [Prod.mk.injEq] at hx1
  obtain ⟨rfl, rfl⟩ := hx1
  exact OpenSpec.preRow_of_cond 8 hx (by kernel_rfl) (fun k hk => by cases hk) (by kernel_rfl) (laid_met os _)

set_option maxRecDepth 100000 in
theorem contract (H : Type) (enc : TypeId × Value → H) (W : World) (base : Nat) (args : Array Value) (ds gs : List (DataW H)) (before : List MemPlace)
    (hval : ∀ (j : Nat) t v, Tryz.f4.params[j]? = some t → args[j]? = some v → Value.okWide Tryz.prog W .any base t v)
    (hW : DataW.Whole enc Tryz.prog Tryz.f4.params.toList Rows.pathAboveSpec.vars false W args.toList ds gs before) (hE : Lib.TabIs Tryz.prog W "math/bits.deBruijn64tab" .u8 tz64) (h3 : 3 ≤ W.heap.size) :
    Calls Tryz.prog 4 args W fun e W' => ∃ v, e = .returned v ∧ Rows.pathAboveSpec.post enc Tryz.prog Tryz.f4 false true false false W args v W' := by
  have hW' := hW
  obtain ⟨p, q, hA0, hV, rfl, _, _⟩ := hW
  have hA : DataW.TrodAll enc Tryz.prog W 0 (fun _ => true) true Tryz.f4.params.toList args.toList ds p := hA0
  rw [Tryz.params4] at hA hval
  obtain ⟨v0, v1, v2, v3, d0, d1, d2, d3, p0, p1, p2, p3, rfl, rfl, rfl, h0, h1, h2, h3'⟩ := trodAll_four hA
  obtain ⟨rfl, rfl⟩ := trodVars_none hV
  obtain ⟨a0, len, cap, rfl⟩ := okWide_slice Tryz.underlying22 (hval 0 22 v0 rfl rfl)
  obtain ⟨vt, yt, nt, rfl, ht⟩ := open_agg1 Tryz.underlying44 (by kernel_rfl) (by kernel_rfl) (hval 1 44 v1 rfl rfl) h1
  obtain ⟨ta, tl, tc, e3⟩ := Go.Joins.slice_form Tryz.underlying42 ht
  obtain rfl := List.singleton_inj.1 e3
  obtain ⟨n1, rfl, rfl, rfl, w1⟩ := open_int Tryz.underlying3 (hval 2 3 v2 rfl rfl) h2
  obtain ⟨n2, rfl, rfl, rfl, w2⟩ := open_int Tryz.underlying3 (hval 3 3 v3 rfl rfl) h3'
  have h0k := h0
  have h1k := h1
  obtain ⟨fuel, hf⟩ := h0
  clear hA0 hval
  simp only [List.append_nil] at hW'
  have hlt : ∀ x ∈ p0, x.block < W.heap.size := fun x hx => hW'.lt x (by simp [hx])
  have hlt1 : ∀ x ∈ p1, x.block < W.heap.size := fun x hx => hW'.lt x (by simp [hx])
  obtain ⟨f, hbig, hok, hin⟩ := terms_in hf
  obtain ⟨T, rfl, htl, hfit, hT⟩ := tree_in ht
  refine (pathAbove_any lives_any a0 len cap f hbig hok ta tc T hfit htl n1 n2 W (tz_full hE) h3 hin hT).mono fun e W' ⟨he, hb⟩ => ?_
  subst he
  exact ⟨_, rfl, _, _, _, [], _, [], hW', trodAll_mk1 (shut_bool Tryz.underlying4 _), trodAll_mk4 (Below.trod laidOut (by kernel_rfl) (of_decide_eq_true (by kernel_rfl)) h0k hb hlt) (Below.trod laidOut (by kernel_rfl) (of_decide_eq_true (by kernel_rfl)) h1k hb hlt1) (shut_int Tryz.underlying3 w1) (shut_int Tryz.underlying3 w2), rfl, hb.frame _, fun h => by cases h⟩

set_option maxRecDepth 100000 in
theorem lifted (os : Os) (started : os.Started) (H : Type) (enc : TypeId × Value → H) (F : Stop.Interp) :
    ReturnsInHanded {} Tryz.checked os 4 .any ((OpenSpec.ofChange Rows.pathAboveSpec).preRow enc Tryz.prog Tryz.f4 Rows.pathAboveRow.domain false Rows.pathAboveRow.laid) (((OpenSpec.ofChange Rows.pathAboveSpec).at F).post enc Tryz.prog Tryz.f4 false true false false) := by
  refine returnsInHanded_of_row (C := Tryz.checked) (s := OpenSpec.ofChange Rows.pathAboveSpec) own started (by kernel_rfl) Tryz.func4
    (witness_row_atRef (enc := enc) (C := Tryz.checked) false (laidWorld os) #[.slice none 0 0, .agg #[.slice none 0 0], .int .i64 0, .int .i64 0] rfl (by kernel_rfl) (by kernel_rfl) (by kernel_rfl) (witness_row os enc)) ?_
  intro W base args ds gs before hval hW _ _ _ hL hsh _
  have hL' : laidMet Tryz.prog Rows.pathAboveRow.laid W := hL
  exact contract H enc W base args ds gs before hval hW (laid_tzA hL') (size_ok hsh)

theorem sName : Tryz.pinned.checked.prog.funcNamed Rows.pathAboveRow.func = some 4 := by kernel_rfl
theorem sInst : Tryz.f4.isInstance Tryz.pinned.checked.prog Rows.pathAboveRow.origin Rows.pathAboveRow.targs := of_decide_eq_true (by kernel_rfl)
theorem sWrap : Tryz.f4.isWrapper Tryz.pinned.checked.prog Rows.pathAboveRow.wrapper Rows.pathAboveRow.mainSum := by
  unfold Func.isWrapper
  first | (rw [if_pos (by decide +kernel)]; kernel_rfl) | (rw [if_neg (by decide +kernel)]; exact ⟨rfl, rfl⟩)
theorem sClosed : joinedFacts Tryz.pinned.checked.prog 4 Tryz.f4 (OpenSpec.ofChange Rows.pathAboveSpec).bare Rows.pathAboveRow = true := by kernel_rfl

theorem said : Rows.PathAboveSaid :=
  OpenClaim.holds_of_cond 4 Tryz.f4 rfl rfl rfl rfl rfl rfl rfl ⟨rfl, rfl, rfl, rfl, rfl⟩ rfl rfl rfl rfl rfl sName Tryz.func4 sClosed sInst sWrap
    (fun os started H enc _ F => by rw [OpenClaim.pre_eq_preRow]; exact lifted os started H enc F)

theorem plain (f : FuncId) (fn : Func) (hf : Tryz.pinned.checked.prog.funcNamed "phratry/phratrylaw09.PathAbove" = some f) (hfn : Tryz.pinned.checked.prog.funcs[f]? = some fn) :
    false = Tryz.pinned.checked.prog.looks [] ∧ ∀ (j : Nat) t, fn.params[j]? = some t → Tryz.pinned.checked.prog.wantsStandIn t = false := by
  obtain rfl : f = 4 := Option.some.inj ((show Tryz.prog.funcNamed "phratry/phratrylaw09.PathAbove" = some 4 by kernel_rfl).symm.trans hf) |>.symm
  obtain rfl : fn = Tryz.f4 := (Option.some.inj (Tryz.func4.symm.trans hfn)).symm
  refine ⟨by kernel_rfl, fun j t ht => ?_⟩
  rw [Tryz.params4] at ht
  have hm := Array.mem_of_getElem? ht
  simp only [List.mem_toArray, List.mem_cons, List.not_mem_nil, or_false] at hm
  rcases hm with rfl | rfl | rfl | rfl
  · exact (show Tryz.prog.wantsStandIn 22 = false by kernel_rfl)
  · exact (show Tryz.prog.wantsStandIn 44 = false by kernel_rfl)
  · exact (show Tryz.prog.wantsStandIn 3 = false by kernel_rfl)
  · exact (show Tryz.prog.wantsStandIn 3 = false by kernel_rfl)

theorem card : Rows.PathAboveCardSaid :=
  Claim7.holds_tied_plain_at .later [] _ _ _ _ said (fun _ h => by cases h) (by kernel_rfl) (fun _ h => by cases h) pathAbove_row_tie rfl ⟨rfl, rfl⟩ (by kernel_rfl) rfl plain (by kernel_rfl)
end Go.Proofs.YtedpljclnpiggaaGreatDoor.pathAbove
