/- ████ THE CARD OF PathMakes ████ -/
import Derived.Test.YtedpljclnpiggaaGreatDoorV07
import Derived.Test.YtedpljclnpiggaaGreatDoorV11
import Derived.Test.YtedpljclnpiggaaGreatDoorV51
import Derived.Test.YtedpljclnpiggaaGreatDoorV40
set_option linter.unusedVariables false
set_option linter.unusedSimpArgs false
set_option maxRecDepth 100000
set_option maxHeartbeats 12800000
namespace Go.Proofs.YtedpljclnpiggaaGreatDoor.pathMakes
open Go Go.ChangeShapes Go.WideShapes Go.ChangeAt Go.RowKit
theorem laidP3 (os : Os) (args : Array Value) : LaidIn Tryz.prog (inW os args) Rows.pathMakesRow.laid [2, 0, 1] :=
 LaidIn.of_run [2, 0, 1] 8 (by kernel_rfl) (by kernel_rfl) (by kernel_rfl) (by kernel_rfl)
theorem laid_met3 (os : Os) (args : Array Value) : laidMet Tryz.prog Rows.pathMakesRow.laid ((laidWorld os).forCall (fun _ _ => 0) ⟨#[], args, []⟩).memory := (laidP3 os args).met
theorem laid_tzM {W : World} (h : laidMet Tryz.prog Rows.pathMakesRow.laid W) : Lib.TabIs Tryz.prog W "math/bits.deBruijn64tab" .u8 tz64 := by
 have h2 : laidMet Tryz.prog [("math/bits.deBruijn64tab", Rows.laid_math_bits_deBruijn64tab), ("internal/strconv.uint64pow10", Rows.laid_internal_strconv_uint64pow10)] W := laidMet.tail h
 rw [show (Rows.laid_math_bits_deBruijn64tab : DataW Unit) = Lib.tabData .u8 tz64 from by kernel_rfl] at h2
 exact Lib.tabIs_of_head (g := 0) (t := 460) (by kernel_rfl) (by kernel_rfl) Tryz.underlying460 Tryz.underlying5 (by kernel_rfl) (by kernel_rfl) h2
theorem witness_row (os : Os) {H : Type} (enc : TypeId × Value → H) :
    (OpenSpec.ofChange Rows.pathMakesSpec).preRow enc Tryz.prog Tryz.f5 Rows.pathMakesRow.domain false Rows.pathMakesRow.laid ((laidWorld os).forCall (fun _ _ => 0) ⟨#[], #[.slice none 0 0, .agg #[.slice none 0 0], .int .i64 0, .int .i64 0, .int .i64 0, .slice none 0 0], []⟩).memory #[.slice none 0 0, .agg #[.slice none 0 0], .int .i64 0, .int .i64 0, .int .i64 0, .slice none 0 0] := by
 have hw : (DataW.whole enc Tryz.prog ((laidWorld os).forCall (fun _ _ => 0) ⟨#[], #[.slice none 0 0, .agg #[.slice none 0 0], .int .i64 0, .int .i64 0, .int .i64 0, .slice none 0 0], []⟩).memory Tryz.f5.params.toList Rows.pathMakesSpec.vars false #[Value.slice none 0 0, .agg #[.slice none 0 0], .int .i64 0, .int .i64 0, .int .i64 0, .slice none 0 0].toList 8).map (fun x => (x.1, x.2.1)) =
     some ([.nil, .agg [.nil], .lit (.int .i64 0), .lit (.int .i64 0), .lit (.int .i64 0), .nil], []) := by kernel_rfl
 obtain ⟨⟨x1, x2, x3⟩, hx, hx1⟩ := Option.map_eq_some_iff.1 hw
 simp only [Prod.mk.injEq] at hx1
 obtain ⟨rfl, rfl⟩ := hx1
 exact OpenSpec.preRow_of_cond 8 hx (by kernel_rfl) (fun k hk => by cases hk) (by kernel_rfl) (laid_met3 os _)
theorem contract (H : Type) (enc : TypeId × Value → H) (W : World) (base : Nat) (args : Array Value) (ds gs : List (DataW H)) (before : List MemPlace)
    (hval : ∀ (j : Nat) t v, Tryz.f5.params[j]? = some t → args[j]? = some v → Value.okWide Tryz.prog W .any base t v)
    (hW : DataW.Whole enc Tryz.prog Tryz.f5.params.toList Rows.pathMakesSpec.vars false W args.toList ds gs before) (hE : Lib.TabIs Tryz.prog W "math/bits.deBruijn64tab" .u8 tz64) (h3 : 3 ≤ W.heap.size)
    (hsz : (DataW.weightsEach Tryz.prog (Tryz.f5.params.toList ++ Rows.pathMakesSpec.plain.varTypes Tryz.prog) (ds ++ gs)).all (· ≤ reachBytes) = true) :
    Calls Tryz.prog 5 args W fun e W' => ∃ v, e = .returned v ∧ Rows.pathMakesSpec.post enc Tryz.prog Tryz.f5 false true false false W args v W' := by
 have hW' := hW
 obtain ⟨p, q, hA0, hV, rfl, _, _⟩ := hW
 have hA : DataW.TrodAll enc Tryz.prog W 0 (fun _ => true) true Tryz.f5.params.toList args.toList ds p := hA0
 rw [Tryz.params5] at hA hval hsz
 obtain ⟨v0, v1, v2, v3, v4, v5, d0, d1, d2, d3, d4, d5, p0, p1, p2, p3, p4, p5, rfl, rfl, rfl, h0, h1, h2, h3', h4, h5⟩ := trodAll_six hA
 obtain ⟨rfl, rfl⟩ := trodVars_none hV
 obtain ⟨a0, len, cap, rfl⟩ := okWide_slice Tryz.underlying22 (hval 0 22 v0 rfl rfl)
 obtain ⟨vt, yt, nt, rfl, hdt, ht⟩ := open_agg1d Tryz.underlying44 (by kernel_rfl) (by kernel_rfl) (hval 1 44 v1 rfl rfl) h1
 obtain ⟨ta, tl, tc, e3⟩ := Go.Joins.slice_form Tryz.underlying42 ht
 obtain rfl := List.singleton_inj.1 e3
 obtain ⟨n1, rfl, rfl, rfl, w1⟩ := open_int Tryz.underlying3 (hval 2 3 v2 rfl rfl) h2
 obtain ⟨n2, rfl, rfl, rfl, w2⟩ := open_int Tryz.underlying3 (hval 3 3 v3 rfl rfl) h3'
 obtain ⟨n3, rfl, rfl, rfl, w3⟩ := open_int Tryz.underlying3 (hval 4 3 v4 rfl rfl) h4
 obtain ⟨fa, fn, fc, rfl⟩ := okWide_slice Tryz.underlying27 (hval 5 27 v5 rfl rfl)
 have h0k := h0
 have h1k := h1
 have h5k := h5
 obtain ⟨fuel, hf⟩ := h0
 obtain ⟨fuel5, hf5⟩ := h5
 clear hA0 hval
 simp only [List.append_nil] at hW'
 have hlt : ∀ x ∈ p0, x.block < W.heap.size := fun x hx => hW'.lt x (by simp [hx])
 have hlt1 : ∀ x ∈ p1, x.block < W.heap.size := fun x hx => hW'.lt x (by simp [hx])
 have hlt5 : ∀ x ∈ p5, x.block < W.heap.size := fun x hx => hW'.lt x (by simp [hx])
 have hsz' := List.all_eq_true.1 hsz
 obtain ⟨f, hbig, hok, hin⟩ := terms_in hf
 obtain ⟨T, rfl, htl, hfit, hT⟩ := tree_in ht
 have hTl := tree_len hT rfl ht (fun k hk => by
  have := hsz' k (DataW.weights_mem_each (j := 1) (t := 44) (d := d1) rfl rfl k (by
   rw [hdt]
   simp only [DataW.weights, Tryz.underlying44]
   exact DataW.weights_mem_each (j := 0) (t := 42) rfl rfl k hk))
  simpa using this)
 have hFl := nums_len hf5 (fun k hk => by
  have := hsz' k (DataW.weights_mem_each (j := 5) (t := 27) (d := d5) rfl rfl k hk)
  simpa using this)
 obtain ⟨fl, rfl, hfl, hF⟩ := nums_in hf5
 refine (pathMakes_any lives_any a0 len cap f hbig hok ta tc T hfit hTl.1 hTl.2 n1 n2 n3 fa fl fc hFl W (tz_full hE) h3 hin hT hF).mono fun e W' ⟨he, hb⟩ => ?_
 subst he
 exact ⟨_, rfl, _, _, _, [], _, [], hW', trodAll_mk1 (shut_bool Tryz.underlying4 _), trodAll_mk6 (Below.trod laidOut (by kernel_rfl) (of_decide_eq_true (by kernel_rfl)) h0k hb hlt) (Below.trod laidOut (by kernel_rfl) (of_decide_eq_true (by kernel_rfl)) h1k hb hlt1) (shut_int Tryz.underlying3 w1) (shut_int Tryz.underlying3 w2) (shut_int Tryz.underlying3 w3)
  (Below.trod laidOut (by kernel_rfl) (of_decide_eq_true (by kernel_rfl)) h5k hb hlt5), rfl, hb.frame _, fun h => by cases h⟩
theorem lifted (os : Os) (started : os.Started) (H : Type) (enc : TypeId × Value → H) (F : Stop.Interp) :
    ReturnsInHanded {} Tryz.checked os 5 .any ((OpenSpec.ofChange Rows.pathMakesSpec).preRow enc Tryz.prog Tryz.f5 Rows.pathMakesRow.domain false Rows.pathMakesRow.laid) (((OpenSpec.ofChange Rows.pathMakesSpec).at F).post enc Tryz.prog Tryz.f5 false true false false) := by
 refine returnsInHanded_of_row (C := Tryz.checked) (s := OpenSpec.ofChange Rows.pathMakesSpec) own started (by kernel_rfl) Tryz.func5
  (witness_row_atRef (enc := enc) (C := Tryz.checked) false (laidWorld os) #[.slice none 0 0, .agg #[.slice none 0 0], .int .i64 0, .int .i64 0, .int .i64 0, .slice none 0 0] rfl (by kernel_rfl) (by kernel_rfl) (by kernel_rfl) (witness_row os enc)) ?_
 intro W base args ds gs before hval hW _ _ hsz hL hsh _
 have hL' : laidMet Tryz.prog Rows.pathMakesRow.laid W := hL
 exact contract H enc W base args ds gs before hval hW (laid_tzM hL') (size_ok hsh) hsz
theorem sName : Tryz.pinned.checked.prog.funcNamed Rows.pathMakesRow.func = some 5 := by kernel_rfl
theorem sInst : Tryz.f5.isInstance Tryz.pinned.checked.prog Rows.pathMakesRow.origin Rows.pathMakesRow.targs := of_decide_eq_true (by kernel_rfl)
theorem sWrap : Tryz.f5.isWrapper Tryz.pinned.checked.prog Rows.pathMakesRow.wrapper Rows.pathMakesRow.mainSum := by
 unfold Func.isWrapper
 first | (rw [if_pos (by decide +kernel)]; kernel_rfl) | (rw [if_neg (by decide +kernel)]; exact ⟨rfl, rfl⟩)
theorem sC0 : (Rows.pathMakesRow.inPlace == Tryz.pinned.checked.prog.inPlace 5) = true := by kernel_rfl
theorem sC1 : (Rows.pathMakesRow.unfollowed == Tryz.pinned.checked.prog.unfollowed 5) = true := by kernel_rfl
theorem sC2 : (Rows.pathMakesRow.recurses == Tryz.pinned.checked.prog.recurses 5) = true := by kernel_rfl
theorem sC3 : (Rows.pathMakesRow.named == Tryz.pinned.checked.prog.varsNamed 5) = true := by kernel_rfl
theorem sClosed : joinedFacts Tryz.pinned.checked.prog 5 Tryz.f5 (OpenSpec.ofChange Rows.pathMakesSpec).bare Rows.pathMakesRow = true := by
 unfold joinedFacts
 rw [sC0, sC1, sC2, sC3]
 kernel_rfl
theorem said : Rows.PathMakesSaid :=
 OpenClaim.holds_of_cond 5 Tryz.f5 rfl rfl rfl rfl rfl rfl rfl ⟨rfl, rfl, rfl, rfl, rfl⟩ rfl rfl rfl rfl rfl sName Tryz.func5 sClosed sInst sWrap
  (fun os started H enc _ F => by rw [OpenClaim.pre_eq_preRow]; exact lifted os started H enc F)
theorem plain (f : FuncId) (fn : Func) (hf : Tryz.pinned.checked.prog.funcNamed "phratry/phratrylaw09.PathMakes" = some f) (hfn : Tryz.pinned.checked.prog.funcs[f]? = some fn) :
    false = Tryz.pinned.checked.prog.looks [] ∧ ∀ (j : Nat) t, fn.params[j]? = some t → Tryz.pinned.checked.prog.wantsStandIn t = false := by
 obtain rfl : f = 5 := Option.some.inj ((show Tryz.prog.funcNamed "phratry/phratrylaw09.PathMakes" = some 5 by kernel_rfl).symm.trans hf) |>.symm
 obtain rfl : fn = Tryz.f5 := (Option.some.inj (Tryz.func5.symm.trans hfn)).symm
 refine ⟨by kernel_rfl, fun j t ht => ?_⟩
 rw [Tryz.params5] at ht
 have hm := Array.mem_of_getElem? ht
 simp only [List.mem_toArray, List.mem_cons, List.not_mem_nil, or_false] at hm
 rcases hm with rfl | rfl | rfl | rfl | rfl | rfl
 · exact (show Tryz.prog.wantsStandIn 22 = false by kernel_rfl)
 · exact (show Tryz.prog.wantsStandIn 44 = false by kernel_rfl)
 · exact (show Tryz.prog.wantsStandIn 3 = false by kernel_rfl)
 · exact (show Tryz.prog.wantsStandIn 3 = false by kernel_rfl)
 · exact (show Tryz.prog.wantsStandIn 3 = false by kernel_rfl)
 · exact (show Tryz.prog.wantsStandIn 27 = false by kernel_rfl)
theorem card : Rows.PathMakesCardSaid :=
 Claim7.holds_tied_plain_at .later [] _ _ _ _ said (fun _ h => by cases h) (by kernel_rfl) (fun _ h => by cases h) pathMakes_row_tie rfl ⟨rfl, rfl⟩ (by kernel_rfl) rfl plain (by kernel_rfl)
end Go.Proofs.YtedpljclnpiggaaGreatDoor.pathMakes
