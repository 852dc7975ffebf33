/- The statement PathMakes' function answers true, if lives does. -/
import Derived.Test.YtedpljclnpiggaaGreatDoorV43
import Derived.Test.YtedpljclnpiggaaGreatDoorV48
import Derived.Test.YtedpljclnpiggaaGreatDoorV50
import Derived.Test.YtedpljclnpiggaaGreatDoorV40
set_option linter.unusedVariables false
set_option linter.unusedSimpArgs false
set_option maxRecDepth 100000
set_option maxHeartbeats 12800000
namespace Go.Proofs.YtedpljclnpiggaaGreatDoor
section
open Go Go.RowKit
theorem TreeO.own {N0 : Nat} {w : World} {g n c : Nat} {nd : Nat → NodeD} {U : Nat → Value} (h : TreeO N0 w g n c nd U) : ∃ xs, w.ownsRow 0 125 4 (.slice (some ⟨g, 0, none⟩) n c) n xs := by
 obtain ⟨cs, hr, hs, _⟩ := h.row
 have hle : n * 4 ≤ c * 4 := Nat.mul_le_mul_right 4 h.nc
 exact ⟨cs.toList.take (n * 4), by simp; omega, .inr ⟨g, c, cs, rfl, Nat.zero_le _, hr, h.nc, h.cm, hs, rfl⟩⟩
theorem TreeB.own {N0 : Nat} {w : World} {v : Value} {n : Nat} {nd : Nat → NodeD} {U : Nat → Value} (h : TreeB N0 w v n nd U) : ∃ xs, w.ownsRow 0 125 4 v n xs := by
 rcases h with ⟨rfl, rfl⟩ | ⟨g, c, rfl, h⟩
 · exact ⟨[], rfl, .inl ⟨rfl, rfl⟩⟩
 · exact h.own
theorem TreeB.um {N0 : Nat} {w : World} {v : Value} {n : Nat} {nd : Nat → NodeD} {U : Nat → Value} (h : TreeB N0 w v n nd U) {i : Nat} (hi : i < n) : OwnI (U i) (nd i).um w ∧ (∀ j, j < n → i ≠ j → ∀ x, (U i).ownBlock = some x → (U j).ownBlock ≠ some x) ∧ ∀ x, (U i).ownBlock = some x → v.ownBlock ≠ some x := by
 rcases h with ⟨rfl, _⟩ | ⟨g, c, rfl, h⟩
 · exact absurd hi (Nat.not_lt_zero _)
 · refine ⟨(h.um i hi).1, fun j hj hij x hx => ?_, fun x hx e => ((h.um i hi).2 x hx).2 (by simpa [Value.ownBlock] using e.symm)⟩
   rcases Nat.lt_or_gt_of_ne hij with h1 | h1
   · exact h.dis i j h1 hj x hx
   · exact fun e => h.dis j i h1 hi x e hx
theorem TreeB.nodesIn {N0 : Nat} {w : World} {b : Nat} {a : Option Addr} {c n : Nat} {nd : Nat → NodeD} {U : Nat → Value} (h : TreeB N0 w (.slice a n c) n nd U) (hb : ∀ x, (Value.slice a n c).ownBlock = some x → x ≠ b) : NodesIn w b a n U := fun i hi => by
 rcases h with ⟨rfl, _⟩ | ⟨g, c', e, h⟩
 · exact absurd hi (Nat.not_lt_zero _)
 · obtain ⟨rfl, rfl⟩ : a = some ⟨g, 0, none⟩ ∧ c = c' := by simpa using e
   obtain ⟨cs, hr, hs, hc⟩ := h.row
   obtain ⟨h0, h1, h2, h3⟩ := hc i hi
   obtain ⟨ua, uc, eu, _⟩ := ownI_len (h.um i hi).1
   exact ⟨g, 0, _, _, _, rfl, hb g rfl, by rw [Nat.zero_add]; exact (cRw hr _).trans h0, by rw [Nat.zero_add]; exact (cRw hr _).trans h1, by rw [Nat.zero_add]; exact (cRw hr _).trans h2, by rw [Nat.zero_add]; exact (cRw hr _).trans h3, ua, _, uc, eu⟩
theorem TreeB.tree {N0 : Nat} {w : World} {a : Option Addr} {c n : Nat} {nd : Nat → NodeD} {U : Nat → Value} (h : TreeB N0 w (.slice a n c) n nd U) : TreeAt w.heap.size w a ((List.range n).map nd) := by
 rcases h with ⟨rfl, _⟩ | ⟨g, c', e, h⟩
 · exact fun i hi => absurd hi (by simp)
 · obtain ⟨rfl, rfl⟩ : a = some ⟨g, 0, none⟩ ∧ c = c' := by simpa using e
   exact h.tree
def bkN0 (n : Nat) : Nat → Nat | 0 => 0 | 1 => n + 2 | 2 => n + 1 | _ => n
def bkM (n : Nat) : Nat → Nat | 0 => n | _ => 1
def bkKb : Nat → Nat | 0 => 8 | 1 => 1000 | 2 => 100 | _ => 15
def bkP (l : Nat → Value) (n : Nat) (U : Nat → Value) (vs vk v : Value) : Nat → Nat → Prop
 | 0 => fun k => (l 0).ownBlock = some k ∨ ∃ i, i < n ∧ (U i).ownBlock = some k
 | 1 => fun k => (l 1).ownBlock = some k ∨ vs.ownBlock = some k
 | 2 => fun k => (l 2).ownBlock = some k ∨ vk.ownBlock = some k
 | _ => fun k => (l 3).ownBlock = some k ∨ v.ownBlock = some k
theorem one_kind {ht et : TypeId} {sz : Nat} {mk : Nat → List Value} {w : World} {b n0 K Kb : Nat} {l x : Value} {xs : List Value} (hl : w.ownsRow b ht 2 l 1 [x, .int .i64 (n0 : Nat)]) (hx : w.ownsRow 0 et sz x K xs) (hK : K ≤ Kb) (hlt : ∀ k, x.ownBlock = some k → k < b) :
    KindAt ht et sz mk w l n0 1 (fun k => l.ownBlock = some k ∨ x.ownBlock = some k) Kb false := by
 obtain ⟨g, cap, e, hg, hh⟩ := held_row (n0 := n0) (V := fun _ => x) (K := fun _ => K) (X := fun _ => xs) (by omega : 0 < 1) (by simpa using hl) (fun _ _ => hx) (fun i j hi hj hij => by omega) (fun _ _ => hlt)
 refine .inr ⟨g, cap, _, _, _, e, hh, fun k hk => ?_, fun _ _ => hK, fun h => by cases h⟩
 rcases hk with rfl | ⟨i, _, h⟩
 · exact .inl (by rw [e]; rfl)
 · exact .inr h
theorem book_st {B : Nat} {w : World} {b n : Nat} {l : Nat → Value} {U : Nat → Value} {vs vk v : Value} {nd : Nat → NodeD} {ks : List KeyP} {ss : List SealP} {N5 : Nat} (hn : n ≤ 15) (hkl : ks.length ≤ 100) (hsl : ss.length ≤ 1000) (hum : ∀ x, x < n → (nd x).um.length ≤ 8)
    (row : BookM w b ((n + 3 : Nat) : Int) l) (r0 : w.ownsRow (b + 1) 199 2 (l 0) n (heldL U 0 n)) (z0 : n = 0 → l 0 = .slice none 0 0) (r1 : w.ownsRow (b + 1) 196 2 (l 1) 1 [vs, .int .i64 ((n + 2 : Nat) : Int)])
    (r2 : w.ownsRow (b + 1) 194 2 (l 2) 1 [vk, .int .i64 ((n + 1 : Nat) : Int)]) (r3 : w.ownsRow (b + 1) 296 2 (l 3) 1 [v, .int .i64 ((n : Nat) : Int)])
    (dl : ∀ i j, i < j → j < 4 → ∀ k, (l i).ownBlock = some k → (l j).ownBlock ≠ some k)
    (tb : TreeB N5 w v n nd U) (hk : OwnK vk ks w) (hs : OwnS vs ss w) (hBb : B ≤ b)
    (low : ∀ x, (v.ownBlock = some x ∨ vk.ownBlock = some x ∨ vs.ownBlock = some x ∨ ∃ i, i < n ∧ (U i).ownBlock = some x) → B ≤ x ∧ x < b)
    (dk : ∀ x, vk.ownBlock = some x → vs.ownBlock ≠ some x ∧ v.ownBlock ≠ some x ∧ ∀ i, i < n → (U i).ownBlock ≠ some x)
    (ds : ∀ x, vs.ownBlock = some x → v.ownBlock ≠ some x ∧ ∀ i, i < n → (U i).ownBlock ≠ some x) :
    BkSt B w b ((n + 3 : Nat) : Int) l (bkN0 n) (bkM n) (bkP l n U vs vk v) bkKb (fun _ => false) := by
 have hb1 : ∀ j, j < 4 → ∀ k, (l j).ownBlock = some k → b + 1 ≤ k ∧ k < w.heap.size := fun j hj k hk => by
  rcases (by omega : j = 0 ∨ j = 1 ∨ j = 2 ∨ j = 3) with rfl | rfl | rfl | rfl
  · exact r0.lt k hk
  · exact r1.lt k hk
  · exact r2.lt k hk
  · exact r3.lt k hk
 have hbw : b < w.heap.size := (Array.getElem?_eq_some_iff.1 row).1
 have hP : ∀ j, j < 4 → ∀ k, bkP l n U vs vk v j k → (b + 1 ≤ k ∧ (l j).ownBlock = some k) ∨ (k < b ∧ B ≤ k) := fun j hj k hk => by
  rcases (by omega : j = 0 ∨ j = 1 ∨ j = 2 ∨ j = 3) with rfl | rfl | rfl | rfl
  · rcases hk with h | h
    · exact .inl ⟨(hb1 0 hj k h).1, h⟩
    · have := low k (.inr (.inr (.inr h))); exact .inr ⟨this.2, this.1⟩
  · rcases hk with h | h
    · exact .inl ⟨(hb1 1 hj k h).1, h⟩
    · have := low k (.inr (.inr (.inl h))); exact .inr ⟨this.2, this.1⟩
  · rcases hk with h | h
    · exact .inl ⟨(hb1 2 hj k h).1, h⟩
    · have := low k (.inr (.inl h)); exact .inr ⟨this.2, this.1⟩
  · rcases hk with h | h
    · exact .inl ⟨(hb1 3 hj k h).1, h⟩
    · have := low k (.inl h); exact .inr ⟨this.2, this.1⟩
 have hdis : ∀ i j, i < j → j < 4 → ∀ k, bkP l n U vs vk v i k → ¬ bkP l n U vs vk v j k := fun i j hij hj k h1 h2 => by
  rcases hP i (by omega) k h1 with ⟨a1, e1⟩ | ⟨a1, _⟩
  · rcases hP j hj k h2 with ⟨a2, e2⟩ | ⟨a2, _⟩
    · exact dl i j hij hj k e1 e2
    · omega
  · rcases hP j hj k h2 with ⟨a2, e2⟩ | ⟨a2, _⟩
    · omega
    · have nl : ∀ j, j < 4 → (l j).ownBlock ≠ some k := fun j hj e => by have := hb1 j hj k e; omega
      rcases (by omega : (i = 0 ∧ j = 1) ∨ (i = 0 ∧ j = 2) ∨ (i = 0 ∧ j = 3) ∨ (i = 1 ∧ j = 2) ∨ (i = 1 ∧ j = 3) ∨ (i = 2 ∧ j = 3)) with ⟨rfl, rfl⟩ | ⟨rfl, rfl⟩ | ⟨rfl, rfl⟩ | ⟨rfl, rfl⟩ | ⟨rfl, rfl⟩ | ⟨rfl, rfl⟩
      · obtain ⟨i, hi, e⟩ := h1.resolve_left (nl 0 (by omega))
        exact (ds k (h2.resolve_left (nl 1 (by omega)))).2 i hi e
      · obtain ⟨i, hi, e⟩ := h1.resolve_left (nl 0 (by omega))
        exact (dk k (h2.resolve_left (nl 2 (by omega)))).2.2 i hi e
      · obtain ⟨i, hi, e⟩ := h1.resolve_left (nl 0 (by omega))
        exact (tb.um hi).2.2 k e (h2.resolve_left (nl 3 (by omega)))
      · exact (dk k (h2.resolve_left (nl 2 (by omega)))).1 (h1.resolve_left (nl 1 (by omega)))
      · exact (ds k (h1.resolve_left (nl 1 (by omega)))).1 (h2.resolve_left (nl 3 (by omega)))
      · exact (dk k (h1.resolve_left (nl 2 (by omega)))).2.1 (h2.resolve_left (nl 3 (by omega)))
 refine ⟨row, fun j hj => ?_, fun j hj k hk => ?_, fun j hj k hk => ?_, hBb, fun j hj hk => ?_, fun i j hi hj hij k h1 h2 => ?_⟩
 · rcases (by omega : j = 0 ∨ j = 1 ∨ j = 2 ∨ j = 3) with rfl | rfl | rfl | rfl
   · by_cases h0 : n = 0
     · exact .inl ⟨h0, z0 h0⟩
     · obtain ⟨g, cap, e, hg, hh⟩ := held_row (n0 := 0) (V := U) (K := fun i => (nd i).um.length) (X := fun i => (nd i).um.map intV) (by omega : 0 < n) r0 (fun i hi => (tb.um hi).1) (fun i j hi hj hij => (tb.um hi).2.1 j hj hij) (fun i hi x hx => Nat.lt_succ_of_lt (low x (.inr (.inr (.inr ⟨i, hi, hx⟩)))).2)
       refine .inr ⟨g, cap, _, _, _, e, hh, fun k hk => ?_, fun i hi => hum i hi, fun h => by cases h⟩
       rcases hk with rfl | ⟨i, hi, h⟩
       · exact .inl (by rw [e]; rfl)
       · exact .inr ⟨i, hi, h⟩
   · exact one_kind r1 hs hsl (fun k hk => Nat.lt_succ_of_lt (low k (.inr (.inr (.inl hk)))).2)
   · exact one_kind r2 hk hkl (fun k hk => Nat.lt_succ_of_lt (low k (.inr (.inl hk))).2)
   · obtain ⟨xs, hx⟩ := tb.own
     exact one_kind r3 hx hn (fun k hk => Nat.lt_succ_of_lt (low k (.inl hk)).2)
 · rcases hP j hj k hk with h | h
   · exact (hb1 j hj k h.2).2
   · omega
 · rcases hP j hj k hk with h | h
   · omega
   · exact h.2
 · rcases hP j hj b hk with h | h
   · omega
   · omega
 · rcases Nat.lt_or_gt_of_ne hij with h | h
   · exact hdis i j h hj k h1 h2
   · exact hdis j i h hi k h2 h1
end
section
open Go Go.RowKit
theorem run_alloc_bookM (W : World) : (Instr.alloc 96 true (.tuple #[])).run Tryz.prog W = .ok (.pointer (some ⟨W.heap.size, 0, none⟩)) (W.alloc (.cells (bookM 0 (fun _ => .slice none 0 0)) 96)) := by kernel_rfl
theorem wp_alloc_bookM {o : Oper} {a : Act} {w : World} {K : Act → World → Prop} {Q : Exit → Act → World → Prop} (ho : o.op = .alloc 96) (h : K (a.put o.dst (.pointer (some ⟨w.heap.size, 0, none⟩))) (w.alloc (.cells (bookM 0 (fun _ => .slice none 0 0)) 96))) : o.wp Tryz.prog a w K Q := by
 unfold Oper.wp
 simp [execOp, ho, run_alloc_bookM, Result.andThen]
 exact h
theorem wpList_alloc_bookM {ops : Array Oper} {rest : List Oper} {o : Oper} {a : Act} {w : World} {Q : Exit → Act → World → Prop} (hg : o.guard = none) (ho : o.op = .alloc 96)
    (h : wpList Tryz.prog ops Q rest (a.put o.dst (.pointer (some ⟨w.heap.size, 0, none⟩))) (w.alloc (.cells (bookM 0 (fun _ => .slice none 0 0)) 96))) : wpList Tryz.prog ops Q (o :: rest) a w :=
 wpList_plain hg fun _ hK => wp_alloc_bookM ho (hK _ _ h)
theorem TwT.treeB {N0 B : Nat} {w : World} {g : Nat} {T : List NodeD} {H : Nat → Nat} (h : TwT N0 w g T H) (hg : g < B) (hH : ∀ i, i < T.length → H i < B) : TreeAt B w (some ⟨g, 0, none⟩) T := by
 obtain ⟨c, hr, h1, h2⟩ := h.row
 intro i hi
 refine ⟨g, 0, rfl, ?_⟩
 obtain ⟨k0, k1, k2, k3⟩ := h2 i (by omega)
 rw [show twNd T i = nodeD T i from if_pos hi] at k0 k1 k2
 rw [show twU T.length T H i = .slice (some ⟨H i, 0, none⟩) (nodeD T i).um.length ((nodeD T i).um.length + 2) from if_pos hi] at k3
 rw [Nat.zero_add]
 exact ⟨hg, by rw [cRw hr, k0], by rw [cRw hr, k1], by rw [cRw hr, k2], ⟨_, _, by rw [cRw hr, k3], (h.nums i hi).1.nums (hH i hi)⟩⟩
theorem twin_stays {N0 : Nat} {w : World} {g : Nat} {T : List NodeD} {H : Nat → Nat} {F : Nat → Prop} (h : TwT N0 w g T H) (hF : ∀ k, F k → k < N0) : TreeS w.heap.size F w (some ⟨g, 0, none⟩) T := fun W hW =>
 (h.kept hW (fun k h1 h2 hf => by
  rcases hf with hf | hf
  · have := hF k hf; omega
  · omega)).treeB h.lt (fun i hi => (h.nums i hi).1.lt)
theorem twn_stays {N0 : Nat} {w : World} {g : Nat} {l : List Int} {F : Nat → Prop} (h : TwN w g l) (hg : N0 ≤ g) (hF : ∀ k, F k → k < N0) : NumsS w.heap.size F w (some ⟨g, 0, none⟩) l := fun W hW =>
 (h.kept (hW.block g h.lt (fun hf => by
  rcases hf with hf | hf
  · have := hF g hf; omega
  · have := h.lt; omega))).nums h.lt
theorem tree_stays {N : Nat} {F : Nat → Prop} {w w' : World} {a : Option Addr} {T : List NodeD} (h : TreeAt N w a T) (hb : Below N w w') (hF : ∀ k, F k → N ≤ k) (hN : N ≤ w'.heap.size) : TreeS N F w' a T := fun _ hW => (h.below hb).below (hW.below hN (fun k hk => hk.elim (hF k) id))
theorem nums_stay {N : Nat} {F : Nat → Prop} {w w' : World} {a : Option Addr} {l : List Int} (h : NumsAt N w a l) (hb : Below N w w') (hF : ∀ k, F k → N ≤ k) (hN : N ≤ w'.heap.size) : NumsS N F w' a l := fun _ hW => (h.below hb).below (hW.below hN (fun k hk => hk.elim (hF k) id))
def vNil : Nat → Value := fun _ => .slice none 0 0
theorem ownS_lenC {v : Value} {l : List SealP} {w : World} (h : OwnS v l w) : ∃ a c, v = .slice a l.length c := by
 rcases h.2 with ⟨e, h2⟩ | ⟨g, cap, cur, e, _⟩
 · exact ⟨none, 0, by rw [e, h2]⟩
 · exact ⟨_, _, e⟩
theorem nd_range {n : Nat} {nd : Nat → NodeD} {x : Nat} (hx : x < n) : nodeD ((List.range n).map nd) x = nd x := by unfold nodeD; simp [List.getD_eq_getElem?_getD, hx]
theorem pathMakes_any (lv : Lives) (a : Option Addr) (n c : Nat) (f : Nat → TermD) (hn : n ≤ 9223372036854775807) (hok : ∀ i, i < n → (f i).ok) (ta : Option Addr) (tc : Nat) (T : List NodeD) (hfit : FitT T) (htl : T.length ≤ 20000000000000) (hul : ∀ x, x < T.length → (nodeD T x).um.length ≤ 20000000000000) (leaf ep seed : Int)
    (fa : Option Addr) (fl : List Int) (fc : Nat) (hfl : fl.length ≤ 20000000000000) (w : World) (htz : TzF w) (h3 : 3 ≤ w.heap.size) (h : Terms w a n f) (hT : TreeAt w.heap.size w ta T) (hF : NumsAt w.heap.size w fa fl) :
    Calls Tryz.prog 5 #[.slice a n c, .agg #[.slice ta T.length tc], .int .i64 leaf, .int .i64 ep, .int .i64 seed, .slice fa fl.length fc] w fun e w' => e = .returned (.bool true) ∧ Below w.heap.size w w' := by
 have hb0 := (Below.refl w.heap.size w).alloc (Nat.le_refl _) (boxT (.slice ta T.length tc))
 have hrow := rAl (w := w) #[.slice ta T.length tc] 44 (0, 0)
 have hs0 : w.heap.size < (w.alloc (boxT (.slice ta T.length tc))).heap.size := by simp
 have Lv := hQ lv
 have Htz := hQ htz
 have H3 := hQ h3
 have HT := hQ hT
 have HF := hQ hF
 have Hfit := hQ hfit
 have Hul := hQ hul
 have Hb0 := hQ hb0
 have Hrow := hQ hrow
 have Hs0 := hQ hs0
 by_cases hbig : 2000 < n
 · have hbI : (2000 : Int) < n := by omega
   clear lv htz h3 hul hF h hok hT hfit hb0 hrow hs0
   go_enter Tryz.func5, Tryz.ntmps5
   go_wp2
   go_ret
   exact ⟨rfl, Hb0.out⟩
 · have hbI : (n : Int) ≤ 2000 := by omega
   have hts := treesize_full w.heap.size T htl hul ta tc _ hb0.size (hT.below hb0)
   have Hts := hQ hts
   have Hterm := hQ (fun W (hW : Below w.heap.size w W) => h.below hW (Nat.le_refl _))
   have Hok := hQ hok
   have Hbig := hQ hbig
   have hfI : (fl.length : Int) ≤ 20000000000000 := by omega
   clear lv htz h3 hul hF h hok hT hfit hb0 hrow hs0 hts hbig
   go_enter Tryz.func5, Tryz.ntmps5
   go_wp2_with fail
   refine Hts.out.mono ?_
   rintro e w1 ⟨N, rfl, hTN, hNu, hb1⟩
   have Hbx1 := hQ ((hb1.block w.heap.size Hs0.out).trans Hrow.out)
   have Hb1 := hQ (Hb0.out.trans (hb1.mono Hb0.out.size))
   have HN := hQ (And.intro hTN hNu)
   clear hb1 hTN hNu Hts
   have hbN := beyond_two w1.heap.size N fl.length (by have := HN.out.1.1; omega) (by omega) hfI (by have := HN.out.1.2; omega) (w1.alloc (.cells #[.int .i64 N, .int .i64 fl.length] 3)) (by simp) (by simp)
   have HbN := hQ hbN; clear hbN
   go_wp2_with fail
   refine HbN.out.mono ?_
   rintro e wx ⟨rfl, hwx⟩
   have Hb2 := hQ (show Below w.heap.size w wx by rw [hwx]; exact Hb1.out.alloc Hb1.out.size _)
   have Hbx2 := hQ (show wx.heap[w.heap.size]? = some (boxT (.slice ta T.length tc)) by rw [hwx]; exact (Below.heap_alloc _ _ _ (Array.getElem?_eq_some_iff.1 Hbx1.out).1).trans Hbx1.out)
   clear hwx HbN Hbx1 Hb1
   by_cases hbey : 262144 < N + (fl.length : Int)
   · have hd : decide (262144 < N + (fl.length : Int)) = true := by simpa using hbey
     rw [hd]
     clear hd hbey
     go_wp2
     go_ret
     exact ⟨rfl, Hb2.out⟩
   · have hd : decide (262144 < N + (fl.length : Int)) = false := by simpa using hbey
     rw [hd]
     have hlen : T.length ≤ 262144 := by have := HN.out.1.1; omega
     have hul2 := HN.out.2 (by omega)
     have hfl2 : fl.length ≤ 262144 := by have := HN.out.1.1; omega
     have Hlen := hQ hlen
     have Hul2 := hQ hul2
     have Hfl2 := hQ hfl2
     clear hd hbey hlen hul2 hfl2
     have hbuild := build_any a n c f (by have := Hbig.out; omega) Hok.out wx (Hterm.out wx Hb2.out)
     have hfacts := buildL_facts (termsL n f) (termsL_ok Hok.out)
     have hmay := buildL_may (termsL n f)
     rw [termsL_len] at hfacts
     unfold BuildPost at hbuild
     generalize buildL (termsL n f) = L at hbuild hfacts hmay
     have Hbuild := hQ hbuild
     have Hf := hQ hfacts
     have Hmay := hQ hmay
     have HLl := hQ (show L.length ≤ 3000 by have := hfacts.2; have := Hbig.out; omega)
     clear hbuild hfacts hmay
     go_wp2_with fail
     refine Hbuild.out.mono ?_
     rintro e w3 ⟨rfl, ⟨F0, G0, hp1⟩, hb3⟩
     obtain ⟨s, hs⟩ : ∃ s, s = wx.heap.size + 1 := ⟨_, rfl⟩
     obtain ⟨r, hr⟩ : ∃ r, r = wx.heap.size + 2 := ⟨_, rfl⟩
     rw [← hs, ← hr] at hp1 ⊢
     have Hp1 := hQ hp1
     have hbw3 := Hb2.out.trans (hb3.mono Hb2.out.size)
     have hws : w.heap.size ≤ wx.heap.size := Hb2.out.size
     have Hbw3 := hQ hbw3
     have Hws := hQ hws
     have Hxs := hQ hb3.size
     have hk0 := fun (W : World) (hW : Below wx.heap.size wx W) => (cRw ((hW.block w.heap.size (Array.getElem?_eq_some_iff.1 Hbx2.out).1).trans Hbx2.out) 0).trans (show (#[.slice ta T.length tc] : Array Value)[0]? = some (.slice ta T.length tc) from rfl)
     have Hb3 := hQ hb3
     have Hk0 := hQ hk0
     have htw := twinTree_any w.heap.size T Hlen.out Hul2.out ta tc w3 hbw3.size (HT.out.below hbw3)
     have Htw := hQ htw
     have htn := fun (W : World) (hW : Below w3.heap.size w3 W) => twinNumbers_any w.heap.size fl Hfl2.out fa fc W (Nat.le_trans hbw3.size hW.size) (HF.out.below (hbw3.trans (hW.mono hbw3.size)))
     have Htn := hQ htn
     have k1 := hk0 w3 hb3
     clear hs hr hp1 hb3 hbw3 hws hk0 htw htn Hbuild
     go_wp2_with fail
     refine Htw.out.mono ?_
     rintro e w4 ⟨g, H, rfl, ht4, hb4⟩
     have hb4a : Below w3.heap.size w3 (w4.alloc (boxT (.slice (some ⟨g, 0, none⟩) T.length (T.length + 2)))) := hb4.alloc hb4.size _
     have hr4 := rAl (w := w4) #[.slice (some ⟨g, 0, none⟩) T.length (T.length + 2)] 44 (0, 0)
     have ht4a := ht4.kept (Turned.new (fun _ => False) ((Below.refl w4.heap.size w4).alloc (Nat.le_refl _) (boxT (.slice (some ⟨g, 0, none⟩) T.length (T.length + 2))))) (fun _ _ _ h => h)
     obtain ⟨q4, hq4⟩ : ∃ q4, q4 = w4.heap.size := ⟨_, rfl⟩
     have hq4l : w3.heap.size ≤ q4 := by rw [hq4]; exact hb4.size
     have Ht4 := hQ ht4a
     have Hb4 := hQ hb4a
     have Hr4 := hQ (show (w4.alloc (boxT (.slice (some ⟨g, 0, none⟩) T.length (T.length + 2)))).heap[q4]? = some (boxT (.slice (some ⟨g, 0, none⟩) T.length (T.length + 2))) by rw [hq4]; exact hr4)
     have Hq4l := hQ hq4l
     clear k1 ht4 hb4 hb4a hr4 ht4a hq4l
     go_wp2_with fail
     rw [← hq4]
     refine (Htn.out _ Hb4.out).mono ?_
     clear hq4
     generalize w4.alloc (boxT (.slice (some ⟨g, 0, none⟩) T.length (T.length + 2))) = w4a at Ht4 Hb4 Hr4 ⊢
     rintro e w5 ⟨rfl, htn5, hb5⟩
     obtain ⟨gf, hgf⟩ : ∃ gf, gf = w4a.heap.size := ⟨_, rfl⟩
     rw [← hgf] at htn5 ⊢
     have hgf3 : w3.heap.size ≤ gf := by rw [hgf]; exact Hb4.out.size
     have ht5 := Ht4.out.kept (Turned.new (fun _ => False) hb5) (fun _ _ _ h => h)
     have hr5 := (hb5.block q4 (Array.getElem?_eq_some_iff.1 Hr4.out).1).trans Hr4.out
     have hb35 := Hb4.out.trans (hb5.mono Hb4.out.size)
     have hp5 := Hp1.out.new hb35
     have hbw5 := Hbw3.out.trans (hb35.mono Hbw3.out.size)
     have hF0 : ∀ k, F0 k → k < w3.heap.size := Hp1.out.ps.lt
     have hG0 : ∀ k, G0 k → k < w3.heap.size := Hp1.out.rs.lt
     have HF0 := hQ hF0
     have HG0 := hQ hG0
     have h35 : w3.heap.size ≤ w5.heap.size := hb35.size
     have H35 := hQ h35
     have hmw5 : MkW (PSt s) w5.heap.size F0 L (some ⟨g, 0, none⟩) T (some ⟨gf, 0, none⟩) fl w5 :=
      ⟨Htz.out.below hbw5 H3.out, hp5.ps, twin_stays ht5 hF0, twn_stays htn5 hgf3 hF0, fun k hk => Nat.le_trans H3.out (Nat.le_trans Hws.out (hp5.lf k hk)), Nat.le_trans H3.out (Nat.le_trans Hbw3.out.size h35), Nat.le_refl _⟩
     have hpm := pmd_any s w5.heap.size F0 L Hf.out.1 Hmay.out HLl.out T Hfit.out Hlen.out (some ⟨g, 0, none⟩) (T.length + 2) leaf ep seed fl (by have := Hfl2.out; omega) (some ⟨gf, 0, none⟩) (fl.length + 2) w5 hmw5
     have hrm := fun (W : World) (hmw : MkW (RSt r) w.heap.size G0 L ta T fa fl W) => rmd_any r w.heap.size G0 L Hf.out.1 Hmay.out HLl.out T Hfit.out Hlen.out ta tc leaf ep seed fl (by have := Hfl2.out; omega) fa fc W hmw
     have hfa := md_facts (T := T) (leaf := leaf) (ep := ep) (seed := seed) fl Hf.out.1 Hmay.out HLl.out
     generalize mdAns T L leaf ep seed fl = A at hpm hrm hfa
     have Hpm := hQ hpm
     have Hrm := hQ hrm
     have Hfa := hQ hfa
     have Ht5 := hQ ht5
     have Htn5 := hQ htn5
     have Hgf3 := hQ hgf3
     have Hr5 := hQ hr5
     have Hp5 := hQ hp5
     have Hbw5 := hQ hbw5
     have Hb35 := hQ hb35
     have k5 := (cRw hr5 0).trans (show (#[.slice (some ⟨g, 0, none⟩) T.length (T.length + 2)] : Array Value)[0]? = some (.slice (some ⟨g, 0, none⟩) T.length (T.length + 2)) from rfl)
     clear htn5 hb5 hgf hgf3 ht5 hr5 hb35 hp5 hbw5 hF0 hG0 h35 hmw5 hpm hrm hfa Ht4 Hb4 Hr4 Htn Htw Hp1 Hf Hmay HLl
     go_wp2_with fail
     refine Hpm.out.mono ?_
     rintro e w6 ⟨v, vk, vs, U, F1, rfl, htb6, hok6, hos6, hmw6, hx6, hT6, hf1, hf2, hf3⟩
     obtain ⟨na, nc, rfl⟩ := htb6.form
     obtain ⟨ka, kc, rfl⟩ := ownK_lenC hok6
     obtain ⟨sa, sc, rfl⟩ := ownS_lenC hos6
     obtain ⟨hp6, hbx56⟩ := Hp5.out.left (Nat.le_trans Hxs.out H35.out) hx6 hmw6.st hT6
     have hbx5 : Below wx.heap.size wx w5 := Hb3.out.trans (Hb35.out.mono Hxs.out)
     have hbx6 := hbx5.trans hbx56
     have h56 : w5.heap.size ≤ w6.heap.size := hT6.size
     have hb67 : Below w6.heap.size w6 (w6.alloc (boxT (.slice na A.n nc))) := (Below.refl w6.heap.size w6).alloc (Nat.le_refl _) _
     have hr7 : (w6.alloc (boxT (.slice na A.n nc))).heap[w6.heap.size]? = some (boxT (.slice na A.n nc)) := rAl _ _ _
     have hs7 : w6.heap.size < (w6.alloc (boxT (.slice na A.n nc))).heap.size := by simp
     have hp7 := hp6.new hb67
     have hbx7 : Below wx.heap.size wx (w6.alloc (boxT (.slice na A.n nc))) := hbx6.trans (hb67.mono (Nat.le_trans Hxs.out (Nat.le_trans H35.out h56)))
     have k7 := Hk0.out _ hbx7
     obtain ⟨q6, hq6⟩ : ∃ q6, q6 = w6.heap.size := ⟨_, rfl⟩
     rw [← hq6] at hr7 hs7
     have Hq6 := hQ hq6
     have Htb6 := hQ htb6
     have Hok6 := hQ hok6
     have Hos6 := hQ hos6
     have Hfr6 := hQ (And.intro hf1 (And.intro hf2 hf3))
     have HT6 := hQ hT6
     have H56 := hQ h56
     have Hb67 := hQ hb67
     have Hr7 := hQ hr7
     have Hs7 := hQ hs7
     have Hp7 := hQ hp7
     have Hbx7 := hQ hbx7
     clear k5 htb6 hok6 hos6 hmw6 hx6 hT6 hf1 hf2 hf3 hp6 hbx56 hbx5 hbx6 h56 hb67 hr7 hs7 hp7 hbx7 Hpm
     go_wp2_with fail
     rw [← hq6]
     clear hq6
     generalize w6.alloc (boxT (.slice na A.n nc)) = w7 at Hb67 Hr7 Hs7 Hp7 Hbx7 k7 ⊢
     have hbw7 : Below w.heap.size w w7 := Hb2.out.trans (Hbx7.out.mono Hb2.out.size)
     have hmw7 : MkW (RSt r) w.heap.size G0 L ta T fa fl w7 :=
      ⟨Htz.out.below hbw7 H3.out, Hp7.out.rs, tree_stays HT.out hbw7 (fun k hk => Nat.le_trans Hws.out (Hp7.out.lg k hk)) hbw7.size, nums_stay HF.out hbw7 (fun k hk => Nat.le_trans Hws.out (Hp7.out.lg k hk)) hbw7.size, fun k hk => Nat.le_trans H3.out (Nat.le_trans Hws.out (Hp7.out.lg k hk)), H3.out, hbw7.size⟩
     refine (Hrm.out _ hmw7).mono ?_
     clear hmw7 hbw7 k7 Hrm
     rintro e w8 ⟨v2, vk2, vs2, U2, G1, rfl, htb8, hok8, hos8, hmw8, hx8, hT8, hg1, hg2, hg3⟩
     obtain ⟨na2, nc2, rfl⟩ := htb8.form
     obtain ⟨ka2, kc2, rfl⟩ := ownK_lenC hok8
     obtain ⟨sa2, sc2, rfl⟩ := ownS_lenC hos8
     have hx7 : wx.heap.size ≤ w7.heap.size := Hbx7.out.size
     obtain ⟨hp8, hbx78⟩ := Hp7.out.right hx7 hx8 hmw8.st hT8
     have hb89 : Below w8.heap.size w8 (w8.alloc (boxT (.slice na2 A.n nc2))) := (Below.refl w8.heap.size w8).alloc (Nat.le_refl _) _
     have hr9 : (w8.alloc (boxT (.slice na2 A.n nc2))).heap[w8.heap.size]? = some (boxT (.slice na2 A.n nc2)) := rAl _ _ _
     have hp9 := hp8.new hb89
     have h78 : w7.heap.size ≤ w8.heap.size := hT8.size
     have hbx9 := Hbx7.out.trans (hbx78.trans (hb89.mono (Nat.le_trans hx7 h78)))
     have hG1 : ∀ k, G1 k → k < w8.heap.size := hp8.rs.lt
     obtain ⟨q8, hq8⟩ : ∃ q8, q8 = w8.heap.size := ⟨_, rfl⟩
     rw [← hq8] at hr9
     have Hq8 := hQ hq8
     have Htb8 := hQ htb8
     have Hok8 := hQ hok8
     have Hos8 := hQ hos8
     have Hg1 := hQ hg1
     have Hx8 := hQ hx8
     have HT8 := hQ hT8
     have H78 := hQ h78
     have HG1 := hQ hG1
     have Hb89 := hQ hb89
     have Hr9 := hQ hr9
     have Hp9 := hQ hp9
     have Hbx9 := hQ hbx9
     clear htb8 hok8 hos8 hmw8 hx8 hT8 hg1 hg2 hg3 hx7 hp8 hbx78 hb89 hr9 hp9 h78 hbx9 hG1 Hp7 Hp5
     go_wp2_with fail
     rw [← hq8]
     clear hq8
     generalize w8.alloc (boxT (.slice na2 A.n nc2)) = w9 at Hb89 Hr9 Hp9 Hbx9 ⊢
     refine (across_any s r A.L F1 G1 Hfa.out.good Hfa.out.may (by have := Hfa.out.len; omega) w9 Hp9.out.ps Hp9.out.rs Hp9.out.ap).mono ?_
     rintro e w10 ⟨mp, rfl, hmap, hT10⟩
     have h67 : w6.heap.size ≤ w7.heap.size := Hb67.out.size
     have h89 : w8.heap.size ≤ w9.heap.size := Hb89.out.size
     have hx710 : ∀ k, G1 k → G0 k ∨ w7.heap.size ≤ k := fun k hk => (Hx8.out k hk).imp id (fun h => h.1)
     have hT910 : Turned G1 w8 w10 := (Turned.new G1 Hb89.out).trans hT10 (fun _ _ h => h)
     have hT710 : Turned G0 w7 w10 := HT8.out.trans hT910 (fun k hk hg => (hx710 k hg).elim id (fun h => by omega))
     have hT610 : Turned G0 w6 w10 := (Turned.new G0 Hb67.out).trans hT710 (fun _ _ h => h)
     have hT510 : Turned (fun k => F0 k ∨ G0 k) w5 w10 := (HT6.out.mono (fun k _ hk => (.inl hk : F0 k ∨ G0 k))).trans hT610 (fun k _ hk => .inr hk)
     have hnG0 : ∀ k, w5.heap.size ≤ k → ¬ G0 k := fun k hk hg => by have := HG0.out k hg; have := H35.out; omega
     have htb10 := Htb6.out.kept hT610 (fun x hx => hnG0 x (Hfr6.out.1 x (.inl hx)).1) (fun i hi x hx => hnG0 x (Hfr6.out.1 x (.inr (.inr (.inr ⟨i, hi, hx⟩)))).1)
     have hok10 : OwnK (.slice ka A.ks.length kc) A.ks w10 := oKp Hok6.out hT610 (fun x hx => hnG0 x (Hfr6.out.1 x (.inr (.inl hx))).1)
     have hos10 : OwnS (.slice sa A.ss.length sc) A.ss w10 := oKp Hos6.out hT610 (fun x hx => hnG0 x (Hfr6.out.1 x (.inr (.inr (.inl hx)))).1)
     have htc10 := Htb8.out.kept hT910 (fun x hx => (Hg1.out x (.inl hx)).2) (fun i hi x hx => (Hg1.out x (.inr (.inr (.inr ⟨i, hi, hx⟩)))).2)
     have hol10 : OwnK (.slice ka2 A.ks.length kc2) A.ks w10 := oKp Hok8.out hT910 (fun x hx => (Hg1.out x (.inr (.inl hx))).2)
     have hot10 : OwnS (.slice sa2 A.ss.length sc2) A.ss w10 := oKp Hos8.out hT910 (fun x hx => (Hg1.out x (.inr (.inr (.inl hx)))).2)
     have hnFG : ∀ k, w3.heap.size ≤ k → ¬ (F0 k ∨ G0 k) := fun k hk hg => by
      rcases hg with hg | hg
      · have := HF0.out k hg; omega
      · have := HG0.out k hg; omega
     have ht10 := Ht5.out.kept hT510 (fun k h1 _ => hnFG k h1)
     have htn10 := Htn5.out.kept (hT510.block gf Htn5.out.lt (hnFG gf Hgf3.out))
     have hr10 : w10.heap[q4]? = some (boxT (.slice (some ⟨g, 0, none⟩) T.length (T.length + 2))) := (hT510.block q4 (Array.getElem?_eq_some_iff.1 Hr5.out).1 (hnFG q4 Hq4l.out)).trans Hr5.out
     have hra10 : w10.heap[q6]? = some (boxT (.slice na A.n nc)) := (hT710.block q6 (Array.getElem?_eq_some_iff.1 Hr7.out).1 (hnG0 q6 (by rw [Hq6.out]; exact H56.out))).trans Hr7.out
     have hrb10 : w10.heap[q8]? = some (boxT (.slice na2 A.n nc2)) := (hT10.block q8 (Array.getElem?_eq_some_iff.1 Hr9.out).1 (fun hg => by have := HG1.out q8 hg; rw [Hq8.out] at this; omega)).trans Hr9.out
     have hbx10 : Below wx.heap.size wx w10 := Hbx9.out.trans (hT10.below Hbx9.out.size Hp9.out.lg)
     have hbw10 : Below w.heap.size w w10 := Hb2.out.trans (hbx10.mono Hb2.out.size)
     have h510 : w5.heap.size ≤ w10.heap.size := hT510.size
     have h610 : w6.heap.size ≤ w10.heap.size := hT610.size
     have hsz : A.L.length + 1 ≤ 100000 := by have := Hfa.out.len; omega
     have hcT := fun (W : World) (hW : Below w10.heap.size w10 W) => mtree_any mp (A.L.length + 1) ((List.range A.n).map A.nd) na na2 nc nc2 hsz (by simp; have := Hfa.out.few; omega) (fun x hx => by
      have hx' : x < A.n := by simpa using hx
      rw [nd_range hx']
      have := Hfa.out.nodes x hx'
      omega) W (hmap.new hW) (htb10.kept (Turned.new (fun _ => False) hW) (fun _ _ h => h) (fun _ _ _ _ h => h)).tree (htc10.kept (Turned.new (fun _ => False) hW) (fun _ _ h => h) (fun _ _ _ _ h => h)).tree
     rw [show ((List.range A.n).map A.nd).length = A.n by simp] at hcT
     have hcK := fun (W : World) (hW : Below w10.heap.size w10 W) => keys_any mp (A.L.length + 1) A.ks ka ka2 kc kc2 hsz (fun y hy => by have := Hfa.out.keys y hy; omega) Hfa.out.kfew W (hmap.new hW) (keysC (oKp hok10 (Turned.new (fun _ => False) hW) (fun _ _ h => h))) (keysC (oKp hol10 (Turned.new (fun _ => False) hW) (fun _ _ h => h)))
     have hcS := fun (W : World) (hW : Below w10.heap.size w10 W) => mseals_any mp (A.L.length + 1) A.ss sa sa2 sc sc2 hsz (fun y hy => by have := Hfa.out.seals y hy; omega) Hfa.out.sfew W (hmap.new hW) (seals_own (oKp hos10 (Turned.new (fun _ => False) hW) (fun _ _ h => h))) (seals_own (oKp hot10 (Turned.new (fun _ => False) hW) (fun _ _ h => h)))
     obtain ⟨cx, hcx⟩ : ∃ x : Nat, A.cm = x := ⟨A.cm.toNat, by have := Hfa.out.cm.1; omega⟩
     have hcC := fun (W : World) (hW : Below w10.heap.size w10 W) => same_any mp (A.L.length + 1) cx (by have := Hfa.out.cm.2; omega) hsz W (hmap.new hW)
     have hcL := fun (W : World) (hW : Below w10.heap.size w10 W) => leftTree_any w.heap.size w3.heap.size T Hlen.out Hul2.out g H ta tc W (Nat.le_trans hbw10.size hW.size) (ht10.kept (Turned.new (fun _ => False) hW) (fun _ _ _ h => h)) (HT.out.below (hbw10.trans (hW.mono hbw10.size)))
     have hcN := fun (W : World) (hW : Below w10.heap.size w10 W) => leftNumbers_any w.heap.size fl Hfl2.out gf fa fc W (htn10.kept (hW.block gf htn10.lt)) (HF.out.below (hbw10.trans (hW.mono hbw10.size)))
     have hl4 := fun (W : World) (hW : Below w10.heap.size w10 W) => (cRw ((hW.block q4 (Array.getElem?_eq_some_iff.1 hr10).1).trans hr10) 0).trans (show (#[.slice (some ⟨g, 0, none⟩) T.length (T.length + 2)] : Array Value)[0]? = some (.slice (some ⟨g, 0, none⟩) T.length (T.length + 2)) from rfl)
     have hl6 := fun (W : World) (hW : Below w10.heap.size w10 W) => (cRw ((hW.block q6 (Array.getElem?_eq_some_iff.1 hra10).1).trans hra10) 0).trans (show (#[.slice na A.n nc] : Array Value)[0]? = some (.slice na A.n nc) from rfl)
     have hl0 := fun (W : World) (hW : Below w10.heap.size w10 W) => Hk0.out W (hbx10.trans (hW.mono hbx10.size))
     have k6 := hl6 w10 (Below.refl _ _)
     have k8 := (cRw hrb10 0).trans (show (#[.slice na2 A.n nc2] : Array Value)[0]? = some (.slice na2 A.n nc2) from rfl)
     have HcT := hQ hcT
     have HcK := hQ hcK
     have HcS := hQ hcS
     have HcC := hQ hcC
     have HcL := hQ hcL
     have HcN := hQ hcN
     have Hl4 := hQ hl4
     have Hl6 := hQ hl6
     have Hl0 := hQ hl0
     have Htb10 := hQ htb10
     have Hok10 := hQ hok10
     have Hos10 := hQ hos10
     have Hbw10 := hQ hbw10
     have H510 := hQ h510
     have H610 := hQ h610
     have Hown6 := hQ (And.intro (fun x (hx : (Value.slice na A.n nc).ownBlock = some x) => (Htb6.out.own).elim fun xs h => (h.lt x hx).2) (And.intro (fun x (hx : (Value.slice ka A.ks.length kc).ownBlock = some x) => (Hok6.out.lt x hx).2) (And.intro (fun x (hx : (Value.slice sa A.ss.length sc).ownBlock = some x) => (Hos6.out.lt x hx).2) (fun x (i : Nat) (hi : i < A.n) (hx : (U i).ownBlock = some x) => (((Htb6.out.um hi).1).lt x hx).2))))
     rw [hcx]
     clear h67 h89 hx710 hT910 hT710 hT610 hT510 hnG0 htb10 hok10 hos10 htc10 hol10 hot10 hnFG ht10 htn10 hr10 hra10 hrb10 hbx10 hbw10 h510 h610 hsz hcT hcK hcS hcC hcL hcN hl4 hl6 hl0 hmap hT10 hcx Htb8 Hok8 Hos8 Hg1 Hx8 HT8 HG1 Hb89 Hr9 Hp9 Hbx9 Ht5 Htn5 Hr5 Hr7 Htb6 Hok6 Hos6 HT6
     go_wp2_with fail
     refine (HcT.out _ (Below.refl _ _)).mono ?_
     rintro e w11 ⟨rfl, hb11⟩
     have Hb11 := hQ hb11
     clear hb11 k6 k8
     go_wp2_with fail
     refine (HcK.out _ Hb11.out).mono ?_
     rintro e w12 ⟨rfl, d1, hw12⟩
     have Hb12 := hQ (show Below w10.heap.size w10 w12 by rw [hw12]; exact bDr Hb11.out d1)
     clear hw12 Hb11
     go_wp2_with fail
     refine (HcS.out _ Hb12.out).mono ?_
     rintro e w13 ⟨rfl, d2, hw13⟩
     have Hb13 := hQ (show Below w10.heap.size w10 w13 by rw [hw13]; exact bDr Hb12.out d2)
     clear hw13 Hb12
     go_wp2_with fail
     refine (HcC.out _ Hb13.out).mono ?_
     rintro e wz ⟨rfl, hwz⟩
     subst wz
     have k4 := Hl4.out _ Hb13.out
     have k0 := Hl0.out _ Hb13.out
     go_wp2_with fail
     refine (HcL.out _ Hb13.out).mono ?_
     rintro e w14 ⟨rfl, hb14⟩
     have Hb14 := hQ (Hb13.out.trans (hb14.mono Hb13.out.size))
     clear hb14 k4 k0 Hb13
     go_wp2_with fail
     refine (HcN.out _ Hb14.out).mono ?_
     rintro e w15 ⟨rfl, d3, hw15⟩
     have hb15 : Below w10.heap.size w10 w15 := by rw [hw15]; exact bDr Hb14.out d3
     have Hb15 := hQ hb15
     clear hw15 Hb14 hb15
     have k6 := Hl6.out _ Hb15.out
     have hq6l : q6 < w15.heap.size := World.block_lt_of_cell? w15 _ k6
     have hq6n : q6 ≠ w15.heap.size := Nat.ne_of_lt hq6l
     go_wp2_with (first | (refine wpList_alloc_bookM rfl rfl ?_))
     obtain ⟨b, hbe⟩ : ∃ b, b = w15.heap.size := ⟨_, rfl⟩
     have hb16 : Below w15.heap.size w15 (w15.alloc (.cells (bookM 0 (fun _ => .slice none 0 0)) 96)) := (Below.refl w15.heap.size w15).alloc (Nat.le_refl _) _
     have hrow16 : BookM (w15.alloc (.cells (bookM 0 (fun _ => .slice none 0 0)) 96)) b ((0 : Nat) : Int) vNil := by rw [hbe]; exact rAl _ _ _
     have hB16 : Below w10.heap.size w10 (w15.alloc (.cells (bookM 0 (fun _ => .slice none 0 0)) 96)) := Hb15.out.trans (hb16.mono Hb15.out.size)
     have h10b : w10.heap.size ≤ b := by rw [hbe]; exact Hb15.out.size
     have hbs : b < (w15.alloc (.cells (bookM 0 (fun _ => .slice none 0 0)) 96)).heap.size := by rw [hbe]; simp
     rw [← hbe]
     clear k6 hq6l hq6n hb16 hbe
     generalize w15.alloc (.cells (bookM 0 (fun _ => .slice none 0 0)) 96) = w16 at hrow16 hB16 hbs ⊢
     have htb16 := Htb10.out.kept (Turned.new (fun _ => False) hB16) (fun _ _ h => h) (fun _ _ _ _ h => h)
     have hblo : ∀ x, x < w6.heap.size → x < b := fun x hx => by have := H610.out; omega
     have hbt := btree_any b 0 A.n (by have := Hfa.out.few; omega) vNil U na nc w16 hrow16 rfl rfl (htb16.nodesIn (fun x hx e => by have := hblo x (Hown6.out.1 x hx); omega))
     have Hbt := hQ hbt
     have HB16 := hQ hB16
     have H10b := hQ h10b
     have Hblo := hQ hblo
     have Hbs := hQ hbs
     clear hrow16 hB16 htb16 hblo hbt h10b hbs
     refine Hbt.out.mono ?_
     rintro e w17 ⟨rfl, l0, l3, g1, g2, g3, g4, g5, g6, g7⟩
     rw [Nat.zero_add] at g1 g4
     have hk2 := bKeys_any b (A.n + 1) 0 (by have := Hfa.out.few; omega) (by omega) (updF (updF vNil 0 l0) 3 l3) [] ka A.ks.length kc w17 g1 ⟨rfl, .inl ⟨rfl, rfl⟩⟩
     have Hk2 := hQ hk2
     have Hg := hQ (And.intro g2 (And.intro g3 (And.intro g4 (And.intro g5 (And.intro g6 g7)))))
     clear g1 g2 g3 g4 g5 g6 g7 hk2 Hbt
     go_wp2_with fail
     refine Hk2.out.mono ?_
     rintro e w18 ⟨rfl, l2, g1, g2, g3, g4⟩
     have g1' : BookM w18 b ((A.n + 2 : Nat) : Int) (updF (updF (updF vNil 0 l0) 3 l3) 2 l2) := by rw [show ((A.n + 2 : Nat) : Int) = ((A.n + 1 : Nat) : Int) + 1 by omega]; exact g1
     have hk1 := bSeals_any b (A.n + 2) 0 (by have := Hfa.out.few; omega) (by omega) (updF (updF (updF vNil 0 l0) 3 l3) 2 l2) [] sa A.ss.length sc w18 g1' ⟨rfl, .inl ⟨rfl, rfl⟩⟩
     have Hk1 := hQ hk1
     have g3' : Turned (fun k => k = b) w17 w18 := g3.mono (fun k _ h => h.elim id (fun h => by cases h))
     have g4' : ∀ x, l2.ownBlock = some x → w17.heap.size ≤ x := fun x hx => (g4 x hx).elim (fun h => by cases h) id
     have Hi := hQ (And.intro g2 (And.intro g3' g4'))
     clear g1 g2 g3 g4 g1' g3' g4' hk1 Hk2
     go_wp2_with fail
     refine Hk1.out.mono ?_
     rintro e w19 ⟨rfl, l1, g1, g2, g3, g4⟩
     have g1' : BookM w19 b ((A.n + 3 : Nat) : Int) (updF (updF (updF (updF vNil 0 l0) 3 l3) 2 l2) 1 l1) := by rw [show ((A.n + 3 : Nat) : Int) = ((A.n + 2 : Nat) : Int) + 1 by omega]; exact g1
     have g3' : Turned (fun k => k = b) w18 w19 := g3.mono (fun k _ h => h.elim id (fun h => by cases h))
     have g4' : ∀ x, l1.ownBlock = some x → w18.heap.size ≤ x := fun x hx => (g4 x hx).elim (fun h => by cases h) id
     have hB19 : Below w10.heap.size w10 w19 := HB16.out.trans (((Hg.out.2.2.2.1.trans Hi.out.2.1 (fun _ _ h => h)).trans g3' (fun _ _ h => h)).below HB16.out.size (fun k e => by rw [e]; exact H10b.out))
     have k0 := Hl0.out _ hB19
     have Hj := hQ (And.intro g1' (And.intro g2 (And.intro g3' g4')))
     have HB19 := hQ hB19
     clear g1 g2 g3 g4 g1' g3' g4' hB19 Hk1
     go_wp2_with fail
     refine (pmake_nil (.agg #[.slice ta T.length tc]) ⟨ta, _, tc, rfl⟩ leaf ep seed (.slice fa fl.length fc) w19).mono ?_
     rintro e w20 ⟨rfl, hb20⟩
     have Hb20 := hQ hb20
     clear hb20 k0
     go_wp2_with fail
     have hb21 : Below w19.heap.size w19 (w20.alloc (boxT (.slice none 0 0))) := Hb20.out.alloc Hb20.out.size _
     have hB21 : Below w10.heap.size w10 (w20.alloc (boxT (.slice none 0 0))) := HB19.out.trans (hb21.mono HB19.out.size)
     generalize w20.alloc (boxT (.slice none 0 0)) = w21 at hb21 hB21 ⊢
     have hT19 : Turned (fun x => x = b) w19 w21 := Turned.new _ hb21
     have hT18 : Turned (fun x => x = b) w18 w21 := Hj.out.2.2.1.trans hT19 (fun _ _ h => h)
     have hT17 : Turned (fun x => x = b) w17 w21 := Hi.out.2.1.trans hT18 (fun _ _ h => h)
     have hnb : ∀ k, b + 1 ≤ k → ¬ k = b := fun k hk e => by omega
     have hlow : ∀ x, x < w6.heap.size → x < b := fun x hx => Hblo.out x hx
     have hr0 := oKp Hg.out.1 hT17 (fun k hk => hnb k (Hg.out.1.lt k hk).1)
     have hr3 := oKp Hg.out.2.2.1 hT17 (fun k hk => hnb k (Hg.out.2.2.1.lt k hk).1)
     have hr2 := oKp Hi.out.1 hT18 (fun k hk => hnb k (Hi.out.1.lt k hk).1)
     have hr1 := oKp Hj.out.2.1 hT19 (fun k hk => hnb k (Hj.out.2.1.lt k hk).1)
     have hs18 : w17.heap.size ≤ w18.heap.size := Hi.out.2.1.size
     have d01 : ∀ k, l0.ownBlock = some k → k < w17.heap.size := fun k hk => (Hg.out.1.lt k hk).2
     have d31 : ∀ k, l3.ownBlock = some k → k < w17.heap.size := fun k hk => (Hg.out.2.2.1.lt k hk).2
     have d21 : ∀ k, l2.ownBlock = some k → w17.heap.size ≤ k ∧ k < w18.heap.size := fun k hk => ⟨Hi.out.2.2 k hk, (Hi.out.1.lt k hk).2⟩
     have d11 : ∀ k, l1.ownBlock = some k → w18.heap.size ≤ k := fun k hk => Hj.out.2.2.2 k hk
     have hst := book_st (B := w5.heap.size) (nd := A.nd) (l := updF (updF (updF (updF vNil 0 l0) 3 l3) 2 l2) 1 l1) (vs := .slice sa A.ss.length sc) (vk := .slice ka A.ks.length kc) (v := .slice na A.n nc) (U := U) (N5 := w5.heap.size) Hfa.out.few Hfa.out.kfew Hfa.out.sfew (fun x hx => (Hfa.out.nodes x hx).2)
      ((hb21.block b (Array.getElem?_eq_some_iff.1 Hj.out.1).1).trans Hj.out.1) hr0 Hg.out.2.1 hr1 hr2 hr3
      (fun i j hij hj k e1 e2 => by
       rcases (by omega : (i = 0 ∧ j = 1) ∨ (i = 0 ∧ j = 2) ∨ (i = 0 ∧ j = 3) ∨ (i = 1 ∧ j = 2) ∨ (i = 1 ∧ j = 3) ∨ (i = 2 ∧ j = 3)) with ⟨rfl, rfl⟩ | ⟨rfl, rfl⟩ | ⟨rfl, rfl⟩ | ⟨rfl, rfl⟩ | ⟨rfl, rfl⟩ | ⟨rfl, rfl⟩
       · have := d01 k e1; have := d11 k e2; omega
       · have := d01 k e1; have := d21 k e2; omega
       · exact (Hg.out.2.2.2.2.2 k e2).2 e1
       · have := d11 k e1; have := d21 k e2; omega
       · have := d11 k e1; have := d31 k e2; omega
       · have := d21 k e1; have := d31 k e2; omega)
      (Htb10.out.kept (Turned.new (fun _ => False) hB21) (fun _ _ h => h) (fun _ _ _ _ h => h)) (oKp Hok10.out (Turned.new (fun _ => False) hB21) (fun _ _ h => h)) (oKp Hos10.out (Turned.new (fun _ => False) hB21) (fun _ _ h => h))
      (Nat.le_trans H510.out H10b.out)
      (fun x hx => ⟨(Hfr6.out.1 x hx).1, hlow x (by
       rcases hx with h | h | h | ⟨i, hi, h⟩
       · exact Hown6.out.1 x h
       · exact Hown6.out.2.1 x h
       · exact Hown6.out.2.2.1 x h
       · exact Hown6.out.2.2.2 x i hi h)⟩)
      Hfr6.out.2.1 Hfr6.out.2.2
     have hap := apartM_any w5.heap.size b ((A.n + 3 : Nat) : Int) _ (bkN0 A.n) (bkM A.n) _ bkKb (fun _ => false) w21 hst (fun j hj => by
      have := Hfa.out.few
      rcases (by omega : j = 0 ∨ j = 1 ∨ j = 2 ∨ j = 3) with rfl | rfl | rfl | rfl
      · exact ⟨by show 0 + A.n ≤ 1000; omega, by show 8 ≤ 100000; omega⟩
      · exact ⟨by show A.n + 2 + 1 ≤ 1000; omega, by show 1000 ≤ 100000; omega⟩
      · exact ⟨by show A.n + 1 + 1 ≤ 1000; omega, by show 100 ≤ 100000; omega⟩
      · exact ⟨by show A.n + 1 ≤ 1000; omega, by show 15 ≤ 100000; omega⟩)
     have Hap := hQ hap
     have hbw5 : w.heap.size ≤ w5.heap.size := Nat.le_trans Hbw3.out.size H35.out
     have hbw21 := Hbw10.out.trans (hB21.mono Hbw10.out.size)
     have Hbw21 := hQ hbw21
     have Hbw5s := hQ hbw5
     clear hb21 hB21 hT19 hT18 hT17 hnb hlow hr0 hr3 hr2 hr1 hs18 d01 d31 d21 d11 hst hap hbw5 hbw21
     refine Hap.out.mono ?_
     rintro e w22 ⟨rfl, hb22⟩
     have hbw22 : Below w.heap.size w w22 := Hbw21.out.trans (hb22.mono Hbw5s.out)
     have Hbw22 := hQ hbw22
     clear hb22 hbw22
     go_wp2_with fail
     refine (Lv.out _ (Htz.out.e.below Hbw22.out H3.out) (Nat.le_trans H3.out Hbw22.out.size)).mono ?_
     rintro e w23 ⟨rfl, hb23⟩
     have Hb23 := hQ (Hbw22.out.trans (hb23.mono Hbw22.out.size))
     clear hb23
     go_wp2
     go_ret
     exact ⟨rfl, Hb23.out⟩
end
end Go.Proofs.YtedpljclnpiggaaGreatDoor
