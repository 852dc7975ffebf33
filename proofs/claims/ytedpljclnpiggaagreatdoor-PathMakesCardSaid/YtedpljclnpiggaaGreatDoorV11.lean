/- Arguments that are trees and numbers, opened, with how long they may be. -/
import Derived.Test.YtedpljclnpiggaaGreatDoorV10
import Derived.SizedLaws
import Derived.Stop.LaidErr
set_option linter.unusedVariables false
set_option linter.unusedSimpArgs false
set_option maxRecDepth 100000
set_option maxHeartbeats 12800000
namespace Go.Proofs.YtedpljclnpiggaaGreatDoor
open Go Go.ChangeShapes Go.WideShapes Go.ChangeAt Go.Deep Go.RowKit
section
variable {H : Type} {enc : TypeId × Value → H} {P : Program} {w : World} {base : Nat} {spare : Nat → Bool} {held : Bool}
theorem trodAll_six {t0 t1 t2 t3 t4 t5 : TypeId} {args : Array Value} {ds : List (DataW H)} {ps : List MemPlace} (h : DataW.TrodAll enc P w base spare held [t0, t1, t2, t3, t4, t5] args.toList ds ps) :
    ∃ v0 v1 v2 v3 v4 v5 d0 d1 d2 d3 d4 d5 p0 p1 p2 p3 p4 p5, args = #[v0, v1, v2, v3, v4, v5] ∧ ds = [d0, d1, d2, d3, d4, d5] ∧ ps = p0 ++ p1 ++ p2 ++ p3 ++ p4 ++ p5 ∧ DataW.Trod enc P w base spare held t0 v0 d0 p0 ∧ DataW.Trod enc P w base spare held t1 v1 d1 p1 ∧
     DataW.Trod enc P w base spare held t2 v2 d2 p2 ∧ DataW.Trod enc P w base spare held t3 v3 d3 p3 ∧ DataW.Trod enc P w base spare held t4 v4 d4 p4 ∧ DataW.Trod enc P w base spare held t5 v5 d5 p5 := by
 obtain ⟨v0, vs0, d0, ds0, p0, q0, hargs, rfl, rfl, h0, r0⟩ := trodAll_cons h
 obtain ⟨v1, vs1, d1, ds1, p1, q1, rfl, rfl, rfl, h1, r1⟩ := trodAll_cons r0
 obtain ⟨v2, vs2, d2, ds2, p2, q2, rfl, rfl, rfl, h2, r2⟩ := trodAll_cons r1
 obtain ⟨v3, vs3, d3, ds3, p3, q3, rfl, rfl, rfl, h3, r3⟩ := trodAll_cons r2
 obtain ⟨v4, vs4, d4, ds4, p4, q4, rfl, rfl, rfl, h4, r4⟩ := trodAll_cons r3
 obtain ⟨v5, vs5, d5, ds5, p5, q5, rfl, rfl, rfl, h5, r5⟩ := trodAll_cons r4
 obtain ⟨rfl, rfl, rfl⟩ := trodAll_nil r5
 exact ⟨v0, v1, v2, v3, v4, v5, d0, d1, d2, d3, d4, d5, p0, p1, p2, p3, p4, p5, by cases args; simp_all, rfl, by simp, h0, h1, h2, h3, h4, h5⟩
theorem trodAll_mk6 {t0 t1 t2 t3 t4 t5 : TypeId} {v0 v1 v2 v3 v4 v5 : Value} {d0 d1 d2 d3 d4 d5 : DataW H} {p0 p1 p2 p3 p4 p5 : List MemPlace} (h0 : DataW.Trod enc P w base spare held t0 v0 d0 p0) (h1 : DataW.Trod enc P w base spare held t1 v1 d1 p1)
    (h2 : DataW.Trod enc P w base spare held t2 v2 d2 p2) (h3 : DataW.Trod enc P w base spare held t3 v3 d3 p3) (h4 : DataW.Trod enc P w base spare held t4 v4 d4 p4) (h5 : DataW.Trod enc P w base spare held t5 v5 d5 p5) :
    DataW.TrodAll enc P w base spare held [t0, t1, t2, t3, t4, t5] [v0, v1, v2, v3, v4, v5] [d0, d1, d2, d3, d4, d5] (p0 ++ (p1 ++ (p2 ++ (p3 ++ (p4 ++ p5))))) :=
 ⟨p0, p1 ++ (p2 ++ (p3 ++ (p4 ++ p5))), h0, ⟨p1, p2 ++ (p3 ++ (p4 ++ p5)), h1, trodAll_mk4 h2 h3 h4 h5, rfl⟩, rfl⟩
theorem open_agg1d {r : Reach} {b0 : Nat} {t : TypeId} {f0 : Field} {v : Value} {d : DataW H} {p : List MemPlace} (hs : P.underlying t = some (.struct #[f0])) (hone : oneCellFields P #[f0] = true) (hC : P.cellsOf t = 1)
    (hv : Value.okWide P w r b0 t v) (h : DataW.Trod enc P w base spare held t v d p) : ∃ (v0 : Value) (y0 : DataW H × List MemPlace) (n : Nat), v = .agg #[v0] ∧ d = .agg [y0.1] ∧ DataW.trod enc P w base spare held n f0.type [v0] = some y0 := by
 obtain ⟨cs, rfl, hsz⟩ := okWide_struct hs hv
 obtain ⟨c0, rfl⟩ := array1 (hsz.trans hC)
 obtain ⟨fuel, hf⟩ := h
 obtain ⟨xs, n, _, hx0, _, hlen, hfs⟩ := DataW.trod_struct hs hf
 obtain ⟨o0, k0⟩ := hone_of hone 0 f0 rfl
 have h1 := hfs 0 f0 rfl
 have hx : xs[0]? = some (xs[0]'(by rw [hlen]; simp)) := List.getElem?_eq_getElem _
 rw [hx] at h1
 simp only [Prod.mk.injEq] at hx0
 refine ⟨c0, _, n, rfl, ?_, by simpa [Value.cells, o0, k0] using h1⟩
 rw [hx0.1]
 match xs, hlen with
 | [y], _ => rfl
end
theorem weigh_sub {H : Type} {P : Program} {t e : TypeId} {elems sp : List (DataW H)} (hu : P.underlying t = some (.slice e)) {n : Nat} {d : DataW H} (hd : d ∈ elems) (hn : n ∈ d.weights P e) : n ∈ (DataW.slice elems sp).weights P t := by
 have hall : ∀ (l : List (DataW H)), d ∈ l → n ∈ DataW.weightsAll P e l := fun l => by
  induction l with
  | nil => intro h; cases h
  | cons x r ih =>
   intro h
   simp only [DataW.weightsAll, List.mem_append]
   rcases List.mem_cons.1 h with rfl | h
   · exact .inl hn
   · exact .inr (ih h)
 simp only [DataW.weights, hu, List.mem_cons, List.mem_append]
 exact .inr (.inl (hall _ hd))
theorem nums_len {H : Type} {enc : TypeId × Value → H} {w : World} {spare : Nat → Bool} {fuel : Nat} {a : Option Addr} {n c : Nat} {x : DataW H × List MemPlace}
    (h : DataW.trod enc Tryz.prog w 0 spare true fuel 27 [.slice a n c] = some x) (hw : ∀ k ∈ x.1.weights Tryz.prog 27, k ≤ reachBytes) : n ≤ 20000000000000 := by
 rcases open_slice Tryz.underlying27 h with ⟨hcs, hx⟩ | ⟨a', len, cap, m, n', D, Pl, hcs, _, hl, hm, hmm, hx, hi⟩
 · simp at hcs
   omega
 · simp at hcs
   obtain ⟨rfl, rfl, rfl⟩ := hcs
   have h8 : Tryz.prog.bytesOf 3 = 8 := by kernel_rfl
   have := hw ((((List.range n).map D).length + ((List.range (m - n)).map fun j => D (n + j)).length) * Tryz.prog.bytesOf 3) (by rw [hx]; simp only [DataW.weights, Tryz.underlying27]; exact List.mem_cons_self ..)
   rw [h8] at this
   unfold reachBytes at this
   simp at this
   omega
theorem tree_len {H : Type} {enc : TypeId × Value → H} {w : World} {spare : Nat → Bool} {fuel : Nat} {a : Option Addr} {n c : Nat} {x : DataW H × List MemPlace} {T : List NodeD} (hT : TreeAt w.heap.size w a T) (hTn : T.length = n)
    (h : DataW.trod enc Tryz.prog w 0 spare true fuel 42 [.slice a n c] = some x) (hw : ∀ k ∈ x.1.weights Tryz.prog 42, k ≤ reachBytes) : n ≤ 20000000000000 ∧ ∀ i, i < n → (nodeD T i).um.length ≤ 20000000000000 := by
 rcases open_slice_fields Tryz.underlying42 Tryz.underlying125 (by kernel_rfl) (by kernel_rfl) h with ⟨hcs, hx⟩ | ⟨a', len, cap, m, D, Pl, hcs, _, hl, hm, hmm, hx, hf⟩
 · simp at hcs
   obtain ⟨rfl, rfl, rfl⟩ := hcs
   exact ⟨by omega, fun i hi => absurd hi (Nat.not_lt_zero _)⟩
 · simp at hcs
   obtain ⟨rfl, rfl, rfl⟩ := hcs
   have hnm : n ≤ m := by rw [hmm]; split <;> omega
   refine ⟨?_, fun i hi => ?_⟩
   · have h8 : Tryz.prog.bytesOf 125 = 48 := by kernel_rfl
     have := hw ((((List.range n).map D).length + ((List.range (m - n)).map fun j => D (n + j)).length) * Tryz.prog.bytesOf 125) (by rw [hx]; simp only [DataW.weights, Tryz.underlying42]; exact List.mem_cons_self ..)
     rw [h8] at this
     unfold reachBytes at this
     simp at this
     omega
   · obtain ⟨ys, n', hD, _, hyl, hj⟩ := hf i (by omega)
     obtain ⟨v3, y3, c3, hy3, t3⟩ := hj 3 _ rfl
     obtain ⟨ua, ul, uc, e3⟩ := Go.Joins.slice_form Tryz.underlying27 t3
     obtain rfl := List.singleton_inj.1 e3
     have hlen : ul ≤ 20000000000000 := nums_len t3 (fun k hk => hw k (by
      rw [hx]
      refine weigh_sub (e := 125) Tryz.underlying42 (d := D i) (List.mem_map.2 ⟨i, List.mem_range.2 hi, rfl⟩) ?_
      rw [hD]
      simp only [DataW.weights, Tryz.underlying125]
      exact DataW.weights_mem_each (j := 3) (t := 27) rfl (by simp [hy3]) k hk))
     obtain ⟨b, o, hab, hnode⟩ := hT i (by rw [hTn]; exact hi)
     obtain ⟨ua', uc', k3, _⟩ := hnode.c3
     have hcell : some (Value.slice ua ul uc) = some (Value.slice ua' (nodeD T i).um.length uc') := by
      rw [← c3, ← k3]
      rw [show a' = ⟨b, o, none⟩ by simpa using hab, add_plain]
      rfl
     simp only [Option.some.injEq, Value.slice.injEq] at hcell
     omega
end Go.Proofs.YtedpljclnpiggaaGreatDoor
