/- path.Above: what lies in its boxes at the end, and between two rounds. -/
import Derived.Laws.EntriesVeiled
import Derived.Test.YtedpljclnpiggaaGreatDoorV35
import Derived.Test.YtedpljclnpiggaaGreatDoorV32
import Derived.Test.YtedpljclnpiggaaGreatDoorV09
import Derived.Test.YtedpljclnpiggaaGreatDoorV18
import Derived.Test.YtedpljclnpiggaaGreatDoorV13
import Derived.Test.YtedpljclnpiggaaGreatDoorV15
import Derived.Test.YtedpljclnpiggaaGreatDoorV25
set_option linter.unusedVariables false
set_option linter.unusedSimpArgs false
set_option maxRecDepth 100000
set_option maxHeartbeats 12800000
namespace Go.Proofs.YtedpljclnpiggaaGreatDoor
section
open Go Go.RowKit
attribute [local go_sem] Oper.semAt_some
abbrev boxE (v : Int) : Obj := .cells #[.int .i64 v] 28 (0, 0)
theorem above_results (tmps : Array Value) (w : World) (r : Nat) (a : Option Addr) (k c : Nat) (x y : Int) (h8 : tmps.getD 8 undef = .pointer (some ⟨r, 0, none⟩)) (h9 : tmps.getD 9 undef = .pointer (some ⟨r + 1, 0, none⟩)) (h10 : tmps.getD 10 undef = .pointer (some ⟨r + 1 + 1, 0, none⟩))
    (g0 : w.heap[r]? = some (boxK (.slice a k c))) (g1 : w.heap[r + 1]? = some (boxI x)) (g2 : w.heap[r + 1 + 1]? = some (boxE y)) :
    (results Tryz.f17 tmps).run Tryz.prog w = .ok (.tuple #[.slice a k c, .int .i64 x, .int .i64 y]) w := by
 have ha : ∀ r, (asAddr (.pointer (some ⟨r, 0, none⟩))).run Tryz.prog w = .ok ⟨r, 0, none⟩ w := fun r => by simp [asAddr]
 have hr : Tryz.f17.results = #[.cell 8 47, .cell 9 3, .cell 10 28] := by kernel_rfl
 have h8' : tmps[8]?.getD undef = .pointer (some ⟨r, 0, none⟩) := by simpa using h8
 have h9' : tmps[9]?.getD undef = .pointer (some ⟨r + 1, 0, none⟩) := by simpa using h9
 have h10' : tmps[10]?.getD undef = .pointer (some ⟨r + 1 + 1, 0, none⟩) := by simpa using h10
 have l0 : (loadVar 47 ⟨r, 0, none⟩).run Tryz.prog w = .ok (.slice a k c) w := by
  have hc := cRw g0 0
  have hu := Tryz.underlying47
  simp [loadVar, isAgg, go_sem, hu, hc]
 have l1 : (loadVar 3 ⟨r + 1, 0, none⟩).run Tryz.prog w = .ok (.int .i64 x) w := by
  have hc := cRw g1 0
  have hu := Tryz.underlying3
  simp [loadVar, isAgg, go_sem, hu, hc]
 have l2 : (loadVar 28 ⟨r + 1 + 1, 0, none⟩).run Tryz.prog w = .ok (.int .i64 y) w := by
  have hc := cRw g2 0
  have hu := Tryz.underlying28
  simp [loadVar, isAgg, go_sem, hu, hc]
 simp only [results, hr]
 simp [Sem.run_bind, h8', h9', h10', ha, l0, l1, l2]
theorem six_rows (w : World) (o0 o1 o2 o3 o4 o5 : Obj) {W : World} (hW : W = (((((w.alloc o0).alloc o1).alloc o2).alloc o3).alloc o4).alloc o5) :
    Below w.heap.size w W ∧ W.heap[w.heap.size]? = some o0 ∧ W.heap[w.heap.size + 1]? = some o1 ∧ W.heap[w.heap.size + 1 + 1]? = some o2 ∧ W.heap[w.heap.size + 1 + 1 + 1]? = some o3 ∧ W.heap[w.heap.size + 1 + 1 + 1 + 1]? = some o4 ∧ W.heap[w.heap.size + 1 + 1 + 1 + 1 + 1]? = some o5 := by
 subst hW
 have n0 := World.alloc_heap_new w o0
 have n1 := World.alloc_heap_new (w.alloc o0) o1
 have n2 := World.alloc_heap_new ((w.alloc o0).alloc o1) o2
 have n3 := World.alloc_heap_new (((w.alloc o0).alloc o1).alloc o2) o3
 have n4 := World.alloc_heap_new ((((w.alloc o0).alloc o1).alloc o2).alloc o3) o4
 have n5 := World.alloc_heap_new (((((w.alloc o0).alloc o1).alloc o2).alloc o3).alloc o4) o5
 simp only [World.size_alloc] at n1 n2 n3 n4 n5
 refine ⟨?_, ?_, ?_, ?_, ?_, ?_, n5⟩
 · exact ((((((Below.refl w.heap.size w).alloc (Nat.le_refl _) _).alloc (by simp <;> omega) _).alloc (by simp <;> omega) _).alloc (by simp <;> omega) _).alloc (by simp <;> omega) _).alloc (by simp <;> omega) _
 · exact (old_at (by simp <;> omega)).trans ((old_at (by simp <;> omega)).trans ((old_at (by simp <;> omega)).trans ((old_at (by simp <;> omega)).trans ((old_at (by simp <;> omega)).trans n0))))
 · exact (old_at (by simp <;> omega)).trans ((old_at (by simp <;> omega)).trans ((old_at (by simp <;> omega)).trans ((old_at (by simp <;> omega)).trans n1)))
 · exact (old_at (by simp <;> omega)).trans ((old_at (by simp <;> omega)).trans ((old_at (by simp <;> omega)).trans n2))
 · exact (old_at (by simp <;> omega)).trans ((old_at (by simp <;> omega)).trans n3)
 · exact (old_at (by simp <;> omega)).trans n4
theorem Stays.to {F F' G : Nat → Prop} {w w' : World} {k : Nat} {o : Obj} (h : Stays F w k o) (hx : Ext F F' w w') (hT : Turned G w w') (hn : ¬ G k) : Stays F' w' k o :=
 ⟨(hT.block k h.lt hn).trans h.at', fun hf => (hx k hf).elim h.out (fun h2 => absurd h2.1 (Nat.not_le_of_lt h.lt))⟩
def AbPost (B s : Nat) (F : Nat → Prop) (w : World) (r : Ending) (w' : World) : Prop :=
 ∃ F' a cl, r = .returned (.tuple #[.slice a 1 cl, .int .i64 6, .int .i64 0]) ∧ Lv B s F' L4 w' ∧ KeysAt w' a [(1, 9)] ∧ Ext F F' w w' ∧ Turned F w w'
theorem ris_one : rsD [(1, 9)] = [(1, 9)] := by decide
theorem one_of {v : Value} {w : World} (h : OwnK v (rsD [(1, 9)]) w) : ∃ g c, v = .slice (some ⟨g, 0, none⟩) 1 c := by
 rcases h.2 with ⟨_, e⟩ | ⟨g, cap, cur, e, _⟩
 · rw [ris_one] at e; simp at e
 · rw [ris_one] at e; exact ⟨_, _, e⟩
theorem above_fin {B s b c q g cg D va vc : Nat} {F F5 : Nat → Prop} {w w8 : World} {N : Nat} (hq : q = w.heap.size) (hA : StepAt B s F5 b c q (q + 1 + 1) (q + 1) (q + 1 + 1 + 1) (.slice (some ⟨g, 0, none⟩) 1 cg) 6 w8)
    (h4 : Stays F5 w8 (q + 1 + 1 + 1 + 1) (boxI 0)) (h5 : Stays F5 w8 (q + 1 + 1 + 1 + 1 + 1) (boxE 0)) (hK : w8.heap[D]? = some (.deferred (some []))) (hD : q + 1 + 1 + 1 + 1 + 1 < D ∧ ¬ F5 D ∧ D < N)
    (hv : OwnK (.slice (some ⟨va, 0, none⟩) 1 vc) (rsD [(1, 9)]) w8) (hva : N ≤ va) (hT : Turned F w w8) (hx : Ext F F5 w w8) (hB : B ≤ w.heap.size) (tmps : Array Value)
    (e8 : tmps.getD 8 undef = .pointer (some ⟨q + 1 + 1 + 1, 0, none⟩)) (e9 : tmps.getD 9 undef = .pointer (some ⟨q + 1 + 1 + 1 + 1, 0, none⟩)) (e10 : tmps.getD 10 undef = .pointer (some ⟨q + 1 + 1 + 1 + 1 + 1, 0, none⟩)) :
    LeavesInM Fence.wide 6 Tryz.prog Tryz.f17 tmps (AbPost B s F w) [{ target := .collected D, args := #[] }] .returning
     (((w8.setCell ⟨q + 1 + 1 + 1, 0, none⟩ (.slice (some ⟨va, 0, none⟩) 1 vc)).setCell ⟨q + 1 + 1 + 1 + 1, 0, none⟩ (.int .i64 6)).setCell ⟨q + 1 + 1 + 1 + 1 + 1, 0, none⟩ (.int .i64 0)) := by
 obtain ⟨X, hX⟩ : ∃ X, X = (((w8.setCell ⟨q + 1 + 1 + 1, 0, none⟩ (.slice (some ⟨va, 0, none⟩) 1 vc)).setCell ⟨q + 1 + 1 + 1 + 1, 0, none⟩ (.int .i64 6)).setCell ⟨q + 1 + 1 + 1 + 1 + 1, 0, none⟩ (.int .i64 0)) := ⟨_, rfl⟩
 have g3 : X.heap[q + 1 + 1 + 1]? = some (boxK (.slice (some ⟨va, 0, none⟩) 1 vc)) := by
  rw [hX]
  exact (Below.heap_setCell _ ⟨q + 1 + 1 + 1 + 1 + 1, 0, none⟩ _ _ (by simp only; omega)).trans ((Below.heap_setCell _ ⟨q + 1 + 1 + 1 + 1, 0, none⟩ _ _ (by simp only; omega)).trans (rSc hA.cl.at' 0 _))
 have g4 : X.heap[q + 1 + 1 + 1 + 1]? = some (boxI 6) := by
  rw [hX]
  exact (Below.heap_setCell _ ⟨q + 1 + 1 + 1 + 1 + 1, 0, none⟩ _ _ (by simp only; omega)).trans (rSc ((Below.heap_setCell _ ⟨q + 1 + 1 + 1, 0, none⟩ _ _ (by simp only; omega)).trans h4.at') 0 _)
 have g5 : X.heap[q + 1 + 1 + 1 + 1 + 1]? = some (boxE 0) := by
  rw [hX]
  exact rSc ((Below.heap_setCell _ ⟨q + 1 + 1 + 1 + 1, 0, none⟩ _ _ (by simp only; omega)).trans ((Below.heap_setCell _ ⟨q + 1 + 1 + 1, 0, none⟩ _ _ (by simp only; omega)).trans h5.at')) 0 _
 have hTX : Turned (fun k => k = q + 1 + 1 + 1 ∨ k = q + 1 + 1 + 1 + 1 ∨ k = q + 1 + 1 + 1 + 1 + 1 ∨ k = D) w8 X := by
  rw [hX]
  exact (((Turned.refl _ _).setCell (p := ⟨q + 1 + 1 + 1, 0, none⟩) (fun _ => .inl rfl) _).setCell (p := ⟨q + 1 + 1 + 1 + 1, 0, none⟩) (fun _ => .inr (.inl rfl)) _).setCell (p := ⟨q + 1 + 1 + 1 + 1 + 1, 0, none⟩) (fun _ => .inr (.inr (.inl rfl))) _
 have hKX : X.heap[D]? = some (.deferred (some [])) := by
  rw [hX]
  exact (Below.heap_setCell _ ⟨q + 1 + 1 + 1 + 1 + 1, 0, none⟩ _ _ (by simp only; omega)).trans ((Below.heap_setCell _ ⟨q + 1 + 1 + 1 + 1, 0, none⟩ _ _ (by simp only; omega)).trans ((Below.heap_setCell _ ⟨q + 1 + 1 + 1, 0, none⟩ _ _ (by simp only; omega)).trans hK))
 rw [← hX]
 clear hX
 have hTY : Turned (fun k => k = q + 1 + 1 + 1 ∨ k = q + 1 + 1 + 1 + 1 ∨ k = q + 1 + 1 + 1 + 1 + 1 ∨ k = D) w8 (X.putObj D (.deferred none)) :=
  hTX.grown (grownBy_putObj' X D _) (fun k _ e => by cases e; exact .inr (.inr (.inr rfl)))
 have o3 : (X.putObj D (.deferred none)).heap[q + 1 + 1 + 1]? = some (boxK (.slice (some ⟨va, 0, none⟩) 1 vc)) := (World.putObj_heap_other (by omega)).trans g3
 have o4 : (X.putObj D (.deferred none)).heap[q + 1 + 1 + 1 + 1]? = some (boxI 6) := (World.putObj_heap_other (by omega)).trans g4
 have o5 : (X.putObj D (.deferred none)).heap[q + 1 + 1 + 1 + 1 + 1]? = some (boxE 0) := (World.putObj_heap_other (by omega)).trans g5
 refine ⟨by simp, .inl ⟨_, _, rfl, run_takeDeferred hKX, ?_⟩⟩
 have hs : StO (fun _ => False) w8 123 2 (.slice (some ⟨va, 0, none⟩) 1 vc) 1 (keyV (1, 9)) := ⟨by rw [ris_one] at hv; exact hv, fun _ _ h => h⟩
 have hs2 := hs.turn hTY (fun k hk e => by
  have h1 : va = k := by simpa [Value.ownBlock] using hk
  omega)
 refine ⟨_, above_results tmps _ (q + 1 + 1 + 1) (some ⟨va, 0, none⟩) 1 vc 6 0 e8 e9 e10 o3 o4 o5, F5, _, _, rfl, hA.lv.turn hTY (fun k hk e => ?_) (fun k hk => by omega), keys_at (l := [(1, 9)]) hs2 rfl, fun k hk => (hx k hk).imp id fun h2 => ⟨h2.1, Nat.lt_of_lt_of_le h2.2 hTY.size⟩, hT.trans hTY (fun k hk e => by omega)⟩
 rcases e with rfl | rfl | rfl | rfl
 · exact hA.cl.out hk
 · exact h4.out hk
 · exact h5.out hk
 · exact hD.2.1 hk
theorem above_3 (B s b c : Nat) (F : Nat → Prop) (w : World) (h : Lv B s F L4 w) (hT : StT F w b 8 5 5 10 4 6 0) :
    Calls Tryz.prog 17 #[.pointer (some ⟨s, 0, none⟩), .agg #[.slice (some ⟨b, 0, none⟩) 3 c], .int .i64 1, .int .i64 5] w (AbPost B s F w) := by
 obtain ⟨w1, hw1⟩ : ∃ w1, w1 = (((((w.alloc (boxP s)).alloc (boxT (.slice (some ⟨b, 0, none⟩) 3 c))).alloc (boxI 5)).alloc (boxK (.slice none 0 0))).alloc (boxI 0)).alloc (boxE 0) := ⟨_, rfl⟩
 obtain ⟨hb1, g0, g1, g2, g3, g4, g5⟩ := six_rows w _ _ _ _ _ _ hw1
 have hFl := h.ps.lt
 have hA : StepAt B s F b c w.heap.size (w.heap.size + 1 + 1) (w.heap.size + 1) (w.heap.size + 1 + 1 + 1) (.slice none 0 0) 5 w1 :=
  ⟨h.new hb1, hT.new hb1, ⟨g0, fun hf => by have := hFl _ hf; omega⟩, ⟨g2, fun hf => by have := hFl _ hf; omega⟩, ⟨g1, fun hf => by have := hFl _ hf; omega⟩, ⟨g3, fun hf => by have := hFl _ hf; omega⟩⟩
 have h4 : Stays F w1 (w.heap.size + 1 + 1 + 1 + 1) (boxI 0) := ⟨g4, fun hf => by have := hFl _ hf; omega⟩
 have h5 : Stays F w1 (w.heap.size + 1 + 1 + 1 + 1 + 1) (boxE 0) := ⟨g5, fun hf => by have := hFl _ hf; omega⟩
 have k0 := cRw g0 0
 have HA := hQ hA
 have H4 := hQ h4
 have H5 := hQ h5
 have Hb1 := hQ hb1
 have HB := hQ (show B ≤ w.heap.size ∧ b < w.heap.size from ⟨h.size, hT.at'.lt⟩)
 clear h hT hA h4 h5 hb1 g0 g1 g2 g3 g4 g5 hFl
 refine calls_of_marks 6 Tryz.func17 rfl ?_
 simp only [Tryz.ntmps17, List.size_toArray, List.length_cons, List.length_nil, Nat.reduceAdd, Nat.reduceSub, Array.replicate_succ, Array.replicate_zero, List.push_toArray, List.append_toArray, List.nil_append, List.cons_append]
 go_upto_region 1 with fail
 rw [← hw1]
 have Hw1 := hQ hw1; clear hw1
 go_wp2_with fail
 refine (palive_any s F L4 _ HA.out.lv.ps).mono ?_
 rintro e wx ⟨rfl, hwx⟩
 subst wx
 obtain ⟨q, hq⟩ : ∃ q, q = w.heap.size := ⟨_, rfl⟩
 rw [← hq] at HA H4 H5 k0 ⊢
 have Hq := hQ hq; clear hq
 have k1 := cRw HA.out.ct.at' 0
 have k2 := cRw HA.out.cx.at' 0
 go_wp2_with fail
 refine (held_3 s b c F L4 (by decide) 8 5 5 10 4 6 0 (by decide) (.inr (by decide)) (by decide) (by omega) (by omega) (by omega) (by omega) (by omega) _ HA.out.lv.tz HA.out.lv.sz HA.out.lv.ps HA.out.tr.at').mono ?_
 rintro e w2 ⟨rfl, hb⟩
 have HA2 := hQ (HA.out.new hb); have H42 := hQ (H4.out.new hb); have H52 := hQ (H5.out.new hb); have Hb2 := hQ (Hb1.out.trans (hb.mono Hb1.out.size))
 clear hb HA H4 H5 Hb1 k0 k1 k2
 have k0 := cRw HA2.out.cs.at' 0
 have k1 := cRw HA2.out.ct.at' 0
 have k2 := cRw HA2.out.cx.at' 0
 go_wp2_with fail
 refine (sis_any s F L4 5 _ HA2.out.lv.ps (by decide)).mono ?_
 rintro e w3 ⟨rfl, hb⟩
 rw [show thereD L4.length 5 = true from by decide]
 have HA3 := hQ (HA2.out.new hb); have H43 := hQ (H42.out.new hb); have H53 := hQ (H52.out.new hb); have Hb3 := hQ (Hb2.out.trans (hb.mono Hb2.out.size))
 clear hb HA2 H42 H52 Hb2 k0 k1 k2
 go_wp2_with fail
 have hal := (Below.refl w3.heap.size w3).alloc (Nat.le_refl _) (.cells #[.func (.func 47) #[] #[.pointer (some ⟨q, 0, none⟩), .pointer (some ⟨q + 1 + 1, 0, none⟩), .pointer (some ⟨q + 1, 0, none⟩), .pointer (some ⟨q + 1 + 1 + 1, 0, none⟩)]] 127)
 have HA4 := hQ (HA3.out.new hal); have H44 := hQ (H43.out.new hal); have H54 := hQ (H53.out.new hal); have Hb4 := hQ (Hb3.out.trans (hal.mono Hb3.out.size))
 have H114 : Hid (Stays F (w3.alloc (.cells #[.func (.func 47) #[] #[.pointer (some ⟨q, 0, none⟩), .pointer (some ⟨q + 1 + 1, 0, none⟩), .pointer (some ⟨q + 1, 0, none⟩), .pointer (some ⟨q + 1 + 1 + 1, 0, none⟩)]] 127)) w3.heap.size (.cells #[.func (.func 47) #[] #[.pointer (some ⟨q, 0, none⟩), .pointer (some ⟨q + 1 + 1, 0, none⟩), .pointer (some ⟨q + 1, 0, none⟩), .pointer (some ⟨q + 1 + 1 + 1, 0, none⟩)]] 127 (0, 0))) := hQ ⟨rAl _ _ _, fun hf => absurd (HA3.out.lv.ps.lt _ hf) (Nat.lt_irrefl _)⟩
 have hq53 := H53.out.lt
 have hql := HB.out
 clear hal HA3 H43 H53 Hb3
 refine (step_3 B s F b c q (q + 1 + 1) (q + 1) (q + 1 + 1 + 1) (by have := Hq.out; omega) (by have := Hq.out; omega) _ HA4.out).mono ?_
 obtain ⟨q11, hq11⟩ : ∃ q, q = w3.heap.size := ⟨_, rfl⟩
 rw [← hq11] at H114 hq53 ⊢
 have Hq11 := hQ hq53; clear hq11 hq53
 generalize w3.alloc (.cells #[.func (.func 47) #[] #[.pointer (some ⟨q, 0, none⟩), .pointer (some ⟨q + 1 + 1, 0, none⟩), .pointer (some ⟨q + 1, 0, none⟩), .pointer (some ⟨q + 1 + 1 + 1, 0, none⟩)]] 127) = w4 at HA4 H44 H54 Hb4 H114 ⊢
 rintro e w5 ⟨rfl, F5, g, cg, hA, hs, hx, hTu, hg⟩
 have hqw := Hq.out
 have hq5 := H54.out.to hx hTu (fun h => h.elim H54.out.out (fun h => by omega))
 have hq4 := H44.out.to hx hTu (fun h => h.elim H44.out.out (fun h => by omega))
 have hT5 : Turned F w w5 := (Turned.new F Hb4.out).trans hTu (fun k hk h => h.elim id (fun h => by omega))
 have hx5 : Ext F F5 w w5 := fun k hk => (hx k hk).imp id fun h2 => ⟨Nat.le_trans Hb4.out.size h2.1, h2.2⟩
 have hgq : q + 1 + 1 + 1 + 1 + 1 < g := Nat.lt_of_lt_of_le H54.out.lt hg
 have HA5 := hQ hA; have H45 := hQ hq4; have H55 := hQ hq5; have HT5 := hQ hT5; have HX5 := hQ hx5; have Hs5 := hQ hs; have Hgq := hQ hgq
 clear hqw hq4 hq5 hT5 hx5 hA hs hx hTu hg hgq HA4 H44 H54 Hb4 H114
 have k0 := cRw HA5.out.ct.at' 0
 go_wp2_with fail
 refine (over_any _ 1 _ _ _ rfl _).mono ?_
 rintro r wx ⟨rfl, hwx⟩
 have hbo := ((Below.refl w5.heap.size w5).alloc (Nat.le_refl _) (boxT (.slice (some ⟨b, 0, none⟩) 3 c))).alloc (by simp) (boxI 1)
 have hov : OvAt wx (w5.heap.size + 1) w5.heap.size b c 1 8 5 5 10 4 6 0 := by
  rw [hwx]
  exact ⟨by have := rAl (w := w5.alloc (boxT (.slice (some ⟨b, 0, none⟩) 3 c))) #[.int .i64 1] 3 (0, 0); simpa using this, (old_at (by simp)).trans (rAl _ _ _), HA5.out.tr.at'.new hbo, HA5.out.lv.tz.below hbo HA5.out.lv.sz, Nat.le_trans HA5.out.lv.sz hbo.size⟩
 rw [← hwx] at hbo
 clear hwx
 have Hov := hQ hov
 have HA6 := hQ (HA5.out.new hbo); have H46 := hQ (H45.out.new hbo); have H56 := hQ (H55.out.new hbo)
 have HT6 := hQ (HT5.out.trans (Turned.new (fun _ => False) hbo) (fun _ _ h => h.elim))
 have hx6 : Ext F F5 w wx := fun k hk => (HX5.out k hk).imp id fun h2 => ⟨h2.1, Nat.lt_of_lt_of_le h2.2 hbo.size⟩
 have HX6 := hQ hx6
 have Hs6 := hQ (Hs5.out.new hbo)
 obtain ⟨s4, hs4⟩ : ∃ s, s = w5.heap.size := ⟨_, rfl⟩
 have hqs := H55.out.lt
 rw [← hs4] at Hov hqs ⊢
 clear hov hbo hs4 hx6 H45 H55 HA5 HT5 HX5 Hs5 k0
 go_wp2_with fail
 have hqx : q + 1 + 1 + 1 + 1 + 1 < wx.heap.size := H56.out.lt
 refine (wpIn_wide (n := 6)).1 (wpIn_rangeFunc_ownF rfl (by omega) (gf := 185) (lb := #[.pointer (some ⟨s4 + 1, 0, none⟩), .pointer (some ⟨s4, 0, none⟩)]) rfl trivial (enters_of Tryz.func185 (by kernel_rfl) rfl)
  (over_none_stops 5 (s4 + 1) s4 b c 8 5 5 10 4 6 0 ⟨by omega, by omega, by omega, by omega, by omega, by omega, by omega, by omega⟩ wx Hov.out) walksK_t walksK_b (Below.refl _ _) (fun _ => rfl)
  (fun _ W => Below wx.heap.size wx W) (fun _ _ _ => False) (ownFrom_below (Nat.le_refl _) (Nat.le_refl _)) (fun _ _ _ _ _ h _ _ => h.elim) (Below.refl _ _) ?a1 ?assign ?body ?done ?stop)
 case assign =>
  intro l x W K hK
  gi_wp2
  exact hK
 case body =>
  rintro l pre x W _ h
  simp at h
 case stop =>
  rintro D j pre W hD h
  exact h.elim
 case done =>
  rintro D xs W hD rfl hb hK
  have hA7 := HA6.out.new hb
  have h47 := H46.out.new hb
  have h57 := H56.out.new hb
  have hs7 := Hs6.out.new hb
  have hT7 := HT6.out.trans (Turned.new (fun _ => False) hb) (fun _ _ h => h.elim)
  have hx7 : Ext F F5 w W := fun k hk => (HX6.out k hk).imp id fun h2 => ⟨h2.1, Nat.lt_of_lt_of_le h2.2 hb.size⟩
  have k0 := cRw hA7.cl.at' 0
  have f0 := fRw hA7.cl.at' 0
  have k1 := cRw hA7.cx.at' 0
  have k2 := cRw h47.at' 0
  have f2 := fRw h47.at' 0
  have k3 := cRw h57.at' 0
  have f3 := fRw h57.at' 0
  have HA7 := hQ hA7; have H47 := hQ h47; have H57 := hQ h57; have Hs7 := hQ hs7; have HT7 := hQ hT7; have HX7 := hQ hx7; have HK := hQ hK
  have HD := hQ (show q + 1 + 1 + 1 + 1 + 1 < D ∧ ¬ F5 D ∧ D < W.heap.size from ⟨Nat.lt_of_lt_of_le hqx hD, fun hf => by have := HA6.out.lv.ps.lt D hf; omega, (Array.getElem?_eq_some_iff.1 hK).1⟩)
  clear hA7 h47 h57 hs7 hT7 hx7 hK hD hb HA6 H46 H56 Hs6 HT6 HX6
  go_wp2_with fail
  have hris : ∀ W', Below W.heap.size W W' → Calls Tryz.prog 49 #[.slice (some ⟨g, 0, none⟩) 1 cg] W' fun e w8 => ∃ va vc, e = .returned (.slice (some ⟨va, 0, none⟩) 1 vc) ∧ OwnK (.slice (some ⟨va, 0, none⟩) 1 vc) (rsD [(1, 9)]) w8 ∧ W.heap.size ≤ va ∧ Below W.heap.size W w8 := by
   intro W' hW'
   refine (rising_any (some ⟨g, 0, none⟩) cg [(1, 9)] (by simp) (by simp) (by intro k hk; simp at hk; subst hk; simp [i64ok]) W' (KeysAt.below (keys_at (l := [(1, 9)]) Hs7.out rfl) hW' (Nat.le_refl _))).mono ?_
   rintro e w8 ⟨v, rfl, hv, hvn, hb8⟩
   obtain ⟨va, vc, rfl⟩ := one_of hv
   exact ⟨va, vc, rfl, hv, Nat.le_trans hW'.size (hvn va rfl), hW'.trans (hb8.mono hW'.size)⟩
  have Hris := hQ hris; clear hris
  go_region_with (go_at_call 49; refine (Hris.out _ (by exact ⟨rfl, rfl, rfl, Nat.le_refl _, fun _ _ => rfl⟩)).mono ?_; rintro e w8 ⟨va, vc, rfl, hv, hva, hb8'⟩; have HA8 := hQ (HA7.out.new hb8'); have H48 := hQ (H47.out.new hb8'); have H58 := hQ (H57.out.new hb8'); have HT8 := hQ (HT7.out.trans (Turned.new (fun _ => False) hb8') (fun _ _ h => h.elim)); have HX8 := hQ (show Ext F F5 w w8 from fun k hk => (HX7.out k hk).imp id fun h2 => ⟨h2.1, Nat.lt_of_lt_of_le h2.2 hb8'.size⟩); have HK8 := hQ ((hb8'.block D HD.out.2.2).trans HK.out); have HV := hQ hv; have HN := hQ hva; clear hb8' hv hva; have k0 := cRw HA8.out.cl.at' 0; have f0 := fRw HA8.out.cl.at' 0; have k1 := cRw HA8.out.cx.at' 0; have k2 := cRw H48.out.at' 0; have f2 := fRw H48.out.at' 0; have k3 := cRw H58.out.at' 0; have f3 := fRw H58.out.at' 0)
  all_goals
   go_wp2_with fail
   exact above_fin Hq.out HA8.out H48.out H58.out HK8.out HD.out HV.out HN.out HT8.out HX8.out HB.out.1 _ rfl rfl rfl
end
section
open Go Go.RowKit
section
variable {B s m : Nat} {F F' : Nat → Prop} {L L' : List TermD} {a : Option Addr} {c : Nat} {T : List NodeD} {bs bx bt bl : Nat} {v : Value} {x : Int} {w w' : World}
end
end
section
open Go Go.RowKit
theorem take_snoc {α : Type} (d : α) {l : List α} {k : Nat} (h : k < l.length) : l.take (k + 1) = l.take k ++ [l.getD k d] := by
 rw [List.take_add_one, List.getD_eq_getElem?_getD, List.getElem?_eq_getElem h]; rfl
end
section
open Go Go.RowKit
theorem ahf_any (s q : Nat) (F : Nat → Prop) (L : List TermD) (hl : L.length ≤ 2000000) (p m e : Int) (a : Option Addr) (k c : Nat) (w : World) (h : ProgStore w s F L) (hq : w.cell? ⟨q, 0, none⟩ = some (.pointer (some ⟨s, 0, none⟩))) :
    Calls Tryz.prog 184 #[.agg #[.int .i64 p, .int .i64 m, .int .i64 e, .slice a k c], .pointer (some ⟨q, 0, none⟩)] w fun r w' => r = .returned (.bool (decide (p ≠ 0) && !thereD L.length p)) ∧ Below w.heap.size w w' := by
 have hb := (Below.refl w.heap.size w).alloc (Nat.le_refl _) (.cells #[.int .i64 p, .int .i64 m, .int .i64 e, .slice a k c] 125)
 have hq1 := (hb.cell (p := ⟨q, 0, none⟩) (World.block_lt_of_cell? w _ hq)).trans hq
 by_cases hp : p = 0
 · subst hp
   have Hb := hQ hb; clear hb
   clear h hq
   go_enter Tryz.func184, Tryz.ntmps184
   go_wp2
   go_ret
   exact ⟨rfl, Hb.out⟩
 · have his := sis_any s F L p _ (h.new hb) hl
   have hres : (decide (p ≠ 0) && !thereD L.length p) = !thereD L.length p := by simp [hp]
   rw [hres]
   generalize thereD L.length p = t at his
   have His := hQ his; clear his
   have hp0 : (p == 0) = false := beq_eq_false_iff_ne.2 hp
   have Hb := hQ hb; clear hb
   clear h hq hres
   cases t
   all_goals
    go_enter Tryz.func184, Tryz.ntmps184
    go_wp2_with (go_at_call 37; refine His.out.mono ?_; rintro e w2 ⟨rfl, hb2⟩; have Hb2 := hQ (Hb.out.trans (hb2.mono Hb.out.size)); clear hb2)
    go_ret
    exact ⟨by first | rfl | simp [hp], Hb2.out⟩
def lackD (n : Nat) (d : NodeD) : Bool := decide (d.pub ≠ 0) && !thereD n d.pub
theorem held_iff {T : List NodeD} {n : Nat} : heldD T n ↔ ¬ ∃ x, x < T.length ∧ lackD n (nodeD T x) = true := by
 constructor
 · rintro h ⟨x, hx, hl⟩
   unfold lackD at hl
   rcases h x hx with e | e <;> simp [e] at hl
 · intro h x hx
   by_cases hp : (nodeD T x).pub = 0
   · exact .inl hp
   · refine .inr ?_
     cases ht : thereD n (nodeD T x).pub with
     | true => rfl
     | false => exact absurd ⟨x, hx, by unfold lackD; simp [hp, ht]⟩ h
def IxRel (T : List NodeD) (n : Nat) (w : World) (i : Value) (wr : World) : Prop := ∃ k : Nat, k ≤ T.length ∧ i = .int .i64 k ∧ Below w.heap.size w wr ∧ ∀ x, x < k → lackD n (nodeD T x) = false
theorem aindexf_any (B s q : Nat) (F : Nat → Prop) (L : List TermD) (hl : L.length ≤ 2000000) (T : List NodeD) (hlen : T.length ≤ 262144) (a : Option Addr) (c : Nat) (w : World) (h : ProgStore w s F L) (hB : B ≤ w.heap.size) (hT : TreeAt B w a T) (hq : w.cell? ⟨q, 0, none⟩ = some (.pointer (some ⟨s, 0, none⟩))) :
    Calls Tryz.prog 285 #[.slice a T.length c, .func (.func 184) #[] #[.pointer (some ⟨q, 0, none⟩)]] w
     fun r w' => (∃ i : Int, r = .returned (.int .i64 i) ∧ (0 ≤ i ↔ ∃ x, x < T.length ∧ lackD L.length (nodeD T x) = true)) ∧ Below w.heap.size w w' := by
 have hfn := fun (d : NodeD) (a : Option Addr) (cc : Nat) (W : World) (hW : Below w.heap.size w W) => ahf_any s q F L hl d.pub d.mem d.ep a d.um.length cc W (h.new hW) ((hW.cell (p := ⟨q, 0, none⟩) (World.block_lt_of_cell? w _ hq)).trans hq)
 have Hfn := hQ hfn; clear hfn h hq
 have HT := hQ hT; clear hT
 have hlI : (T.length : Int) ≤ 262144 := by omega
 go_enter Tryz.func285, Tryz.ntmps285
 go_wp2
 go_loopw [8] (fun i wr => IxRel T L.length w i wr) (fun i _ => T.length - (intOf i).toNat)
 case atStart => exact ⟨0, Nat.zero_le _, rfl, Below.refl _ _, fun x hx => by omega⟩
 case round =>
  obtain ⟨k, hk, rfl, hb, hall⟩ := hrel
  by_cases hlt : k < T.length
  · obtain ⟨b, o, rfl, hnode⟩ := (HT.out.below (hb.mono hB)) k hlt
    obtain ⟨ua, uc, k3, _⟩ := hnode.c3
    have k0 := hnode.c0
    have k1 := hnode.c1
    have k2 := hnode.c2
    have hkI : (k : Int) < T.length := by omega
    have hcall := Hfn.out (nodeD T k) ua uc wr hb
    have hlk : lackD L.length (nodeD T k) = (decide ((nodeD T k).pub ≠ 0) && !thereD L.length (nodeD T k).pub) := rfl
    rw [← hlk] at hcall
    clear hnode
    generalize hbd : lackD L.length (nodeD T k) = bd at hcall hlk
    have Hbd := hQ hbd; clear hbd hlk
    generalize (nodeD T k).pub = p at k0 hcall
    generalize (nodeD T k).mem = m at k1 hcall
    generalize (nodeD T k).ep = ee at k2 hcall
    generalize (nodeD T k).um.length = ul at k3 hcall
    have Hcall := hQ hcall; clear hcall
    have Hb := hQ hb; clear hb
    have Hall := hQ hall; clear hall
    go_wp2_with fail
    refine Hcall.out.mono ?_
    rintro e w1 ⟨rfl, hb1⟩
    have Hb1 := hQ (Hb.out.trans (hb1.mono Hb.out.size)); clear hb1 k0 k1 k2 k3
    cases bd with
    | true =>
     go_wp2
     go_ret
     exact ⟨⟨k, rfl, ⟨fun _ => ⟨k, hlt, Hbd.out⟩, fun _ => by omega⟩⟩, Hb1.out⟩
    | false =>
     go_wp2
     exact ⟨⟨k + 1, by omega, by go_num, Hb1.out, fun x hx => by
      by_cases e : x = k
      · subst e; exact Hbd.out
      · exact Hall.out x (by omega)⟩, by simp [intOf]; omega⟩
  · obtain rfl : k = T.length := by omega
    have Hall := hQ hall; clear hall
    have Hb := hQ hb; clear hb
    go_wp2
    go_ret
    exact ⟨⟨-1, rfl, ⟨fun h => by omega, fun ⟨x, hx, h⟩ => by rw [Hall.out x hx] at h; cases h⟩⟩, Hb.out⟩
theorem acontainsf_any (v f : Value) (P : Prop) (w : World) (h : Calls Tryz.prog 285 #[v, f] w fun r w' => (∃ i : Int, r = .returned (.int .i64 i) ∧ (0 ≤ i ↔ P)) ∧ Below w.heap.size w w') :
    Calls Tryz.prog 183 #[v, f] w fun r w' => (∃ b : Bool, r = .returned (.bool b) ∧ (b = true ↔ P)) ∧ Below w.heap.size w w' := by
 have H := hQ h; clear h
 go_enter Tryz.func183, Tryz.ntmps183
 go_wp2_with fail
 refine H.out.mono ?_
 rintro e w2 ⟨⟨i, rfl, hi⟩, hb2⟩
 have Hb2 := hQ hb2; clear hb2
 have Hi := hQ hi; clear hi
 go_wp2
 go_ret
 exact ⟨⟨decide (0 ≤ i), rfl, by simpa using Hi.out⟩, Hb2.out⟩
theorem aheld_any (B s : Nat) (F : Nat → Prop) (L : List TermD) (hl : L.length ≤ 2000000) (T : List NodeD) (hfit : FitT T) (hlen : T.length ≤ 262144) (a : Option Addr) (c : Nat) (w : World) (he : TzF w) (h3 : 3 ≤ B) (hB : B ≤ w.heap.size) (h : ProgStore w s F L) (hT : TreeAt B w a T) :
    Calls Tryz.prog 46 #[.pointer (some ⟨s, 0, none⟩), .agg #[.slice a T.length c]] w fun r w' => (∃ b : Bool, r = .returned (.bool b) ∧ (b = true ↔ OkT' T ∧ heldD T L.length)) ∧ Below w.heap.size w w' := by
 have hb0 := (Below.refl w.heap.size w).alloc (Nat.le_refl _) (.cells #[.pointer (some ⟨s, 0, none⟩)] 23)
 have hb1 := hb0.alloc hb0.size (.cells #[.slice a T.length c] 44)
 have hck := acheck_any B T hfit hlen a c _ (he.below hb1 (Nat.le_trans h3 hB)) h3 (Nat.le_trans hB hb1.size) (hT.below (hb1.mono hB))
 have hcq : ((w.alloc (.cells #[.pointer (some ⟨s, 0, none⟩)] 23)).alloc (.cells #[.slice a T.length c] 44)).cell? ⟨w.heap.size, 0, none⟩ = some (.pointer (some ⟨s, 0, none⟩)) := by simp
 have hct : ((w.alloc (.cells #[.pointer (some ⟨s, 0, none⟩)] 23)).alloc (.cells #[.slice a T.length c] 44)).cell? ⟨w.heap.size + 1, 0, none⟩ = some (.slice a T.length c) := by simp
 have hsz1 : w.heap.size + 1 < ((w.alloc (.cells #[.pointer (some ⟨s, 0, none⟩)] 23)).alloc (.cells #[.slice a T.length c] 44)).heap.size := by simp
 have hix := fun (W : World) (hW : Below w.heap.size w W) (hq : W.cell? ⟨w.heap.size, 0, none⟩ = some (.pointer (some ⟨s, 0, none⟩))) => acontainsf_any _ _ _ W (aindexf_any B s w.heap.size F L hl T hlen a c W (h.new hW) (Nat.le_trans hB hW.size) (hT.below (hW.mono hB)) hq)
 have Hix := hQ hix; clear hix
 have Hck := hQ hck; clear hck
 have Hb1 := hQ hb1; clear hb1 hb0
 have Hcq := hQ hcq; clear hcq
 have Hct := hQ hct; clear hct
 have Hs1 := hQ hsz1; clear hsz1
 clear h hT he hfit
 by_cases hok : OkT' T
 · have he0 := errD_ok hok
   rw [he0] at Hck
   have Hok := hQ hok; clear hok he0
   go_enter Tryz.func46, Tryz.ntmps46
   go_wp2_with fail
   refine Hck.out.mono ?_
   rintro e w2 ⟨rfl, hb2⟩
   have ht2 := (hb2.cell (p := ⟨w.heap.size + 1, 0, none⟩) Hs1.out).trans Hct.out
   have hq2 := (hb2.cell (p := ⟨w.heap.size, 0, none⟩) (Nat.lt_trans (Nat.lt_succ_self _) Hs1.out)).trans Hcq.out
   have Hb2 := hQ (Hb1.out.trans (hb2.mono Hb1.out.size)); clear hb2
   have Hx := hQ (Hix.out w2 Hb2.out hq2)
   clear hq2
   go_wp2_with fail
   refine Hx.out.mono ?_
   rintro e w3 ⟨⟨b, rfl, hb⟩, hb3⟩
   have Hb3 := hQ (Hb2.out.trans (hb3.mono Hb2.out.size)); clear hb3
   have Hbb := hQ hb; clear hb
   go_wp2
   go_ret
   refine ⟨⟨!b, rfl, ?_⟩, Hb3.out⟩
   rw [held_iff, ← Hbb.out]
   cases b <;> simp [Hok.out]
 · have he1 := errD_bad hok
   rw [he1] at Hck
   have Hok := hQ hok; clear hok he1
   go_enter Tryz.func46, Tryz.ntmps46
   go_wp2_with fail
   refine Hck.out.mono ?_
   rintro e w2 ⟨rfl, hb2⟩
   have Hb2 := hQ (Hb1.out.trans (hb2.mono Hb1.out.size)); clear hb2
   go_wp2
   go_ret
   exact ⟨⟨false, rfl, by simp [Hok.out]⟩, Hb2.out⟩
end
section
open Go Go.RowKit
def RCkRel (T : List NodeD) (q : Nat) (a : Option Addr) (c : Nat) (w : World) (i : Value) (wr : World) : Prop :=
 ∃ k : Nat, k ≤ T.length ∧ i = .int .i64 k ∧ wr.heap[q]? = some (.cells #[.slice a T.length c] 44 (0, 0)) ∧ Below w.heap.size w wr ∧ ∀ x, x < k → (x % 2 = 0 → leafD (nodeD T x) = true) ∧ (x % 2 = 1 → parentD T x = true)
theorem archeck_any (B : Nat) (T : List NodeD) (hfit : FitT T) (hlen : T.length ≤ 262144) (a : Option Addr) (c : Nat) (w : World) (hB : B ≤ w.heap.size) (hT : TreeAt B w a T) :
    Calls Tryz.prog 50 #[.agg #[.slice a T.length c]] w fun r w' => r = .returned (.int .i64 (errD T)) ∧ Below w.heap.size w w' := by
 have hb := (Below.refl w.heap.size w).alloc (Nat.le_refl _) (.cells #[.slice a T.length c] 44)
 have hbox := rAl (w := w) #[.slice a T.length c] 44 (0, 0)
 have Hb := hQ hb; clear hb
 have Hbox := hQ hbox; clear hbox
 have hs : w.heap.size < (w.alloc (.cells #[.slice a T.length c] 44)).heap.size := by simp
 have Hs := hQ hs; clear hs
 have HT := hQ hT; clear hT
 have Hfit := hQ hfit; clear hfit
 by_cases h0 : T.length = 0
 · have Hok := hQ (errD_ok (T := T) (.inl h0))
   rw [h0]
   clear HT Hbox Hfit Hs hB hlen
   rw [h0] at Hb
   go_enter Tryz.func50, Tryz.ntmps50
   go_wp2
   go_ret
   exact ⟨by rw [Hok.out]; rfl, Hb.out⟩
 · have hpI : ((T.length : Int) == 0) = false := beq_eq_false_iff_ne.2 (by omega)
   by_cases hlv : lvD T.length = 0
   · have Hbad := hQ (errD_bad (T := T) (fun h => ok_leaves h h0 hlv))
     go_enter Tryz.func50, Tryz.ntmps50
     go_wp2_with fail
     refine (arleaves_any a T.length c _).mono ?_
     rintro e w1 ⟨rfl, hb1⟩
     rw [hlv]
     have Hb1 := hQ (Hb.out.trans (hb1.mono Hb.out.size)); clear hb1
     go_wp2
     go_ret
     exact ⟨by rw [Hbad.out]; rfl, Hb1.out⟩
   · have hokk := ok_iff hlv
     have Hokk := hQ hokk; clear hokk
     obtain ⟨hn, hTn⟩ := leaves_isN hlv
     obtain ⟨n, hnl⟩ : ∃ n, n = lvD T.length := ⟨_, rfl⟩
     rw [← hnl] at hn hTn hlv Hokk
     have Hn := hQ hn
     have HTn := hQ hTn
     have Hnl := hQ hnl
     have hnI : ((n : Int) == 0) = false := beq_eq_false_iff_ne.2 (by omega)
     have hn8 : (n : Int) ≤ 8 := by rcases hn with h | h | h | h <;> omega
     have h15 : T.length ≤ 15 := by rcases hn with h | h | h | h <;> omega
     have h15I : (T.length : Int) ≤ 15 := by omega
     clear hn hTn hnl
     go_enter Tryz.func50, Tryz.ntmps50
     go_wp2_with fail
     refine (arleaves_any a T.length c _).mono ?_
     rintro e w1 ⟨rfl, hb1⟩
     rw [← Hnl.out]
     have hbx := (hb1.block w.heap.size Hs.out).trans Hbox.out
     have Hb1 := hQ (Hb.out.trans (hb1.mono Hb.out.size)); clear hb1
     obtain ⟨q, hq⟩ : ∃ q, q = w.heap.size := ⟨_, rfl⟩
     rw [← hq] at hbx ⊢
     have Hq := hQ hq; clear hq
     have Hbx := hQ hbx
     have hx0 := (cRw hbx 0).trans rfl
     clear hbx
     go_wp2
     clear hx0
     go_loopw [4] (fun i wr => RCkRel T q a c w i wr) (fun i _ => T.length - (intOf i).toNat)
     case atStart => exact ⟨0, Nat.zero_le _, rfl, Hbx.out, Hb1.out, fun x hx => by omega⟩
     case round =>
      obtain ⟨k, hk, rfl, hbq, hbw, hall⟩ := hrel
      have Hbw := hQ hbw
      have Hall := hQ hall; clear hall
      have kb := (cRw hbq 0).trans rfl
      have hqw := (Array.getElem?_eq_some_iff.1 hbq).1
      have Hbq := hQ hbq
      by_cases hlt : k < T.length
      · obtain ⟨b, o, rfl, hnode⟩ := (HT.out.below (hbw.mono hB)) k hlt
        obtain ⟨ua, uc, k3, _⟩ := hnode.c3
        have k0 := hnode.c0
        have k1 := hnode.c1
        have k2 := hnode.c2
        have hkI : (k : Int) < T.length := by omega
        have hHT := HT.out.below (hbw.mono hB)
        have hBw : B ≤ wr.heap.size := Nat.le_trans hB hbw.size
        have hfk := (Hfit.out k hlt).2.2.2
        clear hbw hbq hnode
        have hbadw : ∀ w5, Below w.heap.size w w5 → ¬ ((k % 2 = 0 → leafD (nodeD T k) = true) ∧ (k % 2 = 1 → parentD T k = true)) → (Ending.returned (.int .i64 1) = .returned (.int .i64 (errD T))) ∧ Below w.heap.size w w5 := fun w5 h5 hc => by
         refine ⟨?_, h5⟩
         rw [errD_bad (fun h => hc ((Hokk.out.1 h).1 k hlt))]
        have Hbadw := hQ hbadw; clear hbadw
        by_cases ho : k % 2 = 1
        · have ho1 : (k : Int).tmod 2 = 1 := by rw [Int.tmod_eq_emod_of_nonneg (by omega)]; omega
          have ho2 : (k : Int) % 2 = 1 := by omega
          have hpar := arparent_T B n k Hn.out T HTn.out hlt ho hfk (some ⟨b, o, none⟩) c _ hBw hHT
          have Hpar := hQ hpar; clear hpar hHT k0 k1 k2 k3
          go_wp2_with fail
          refine Hpar.out.mono ?_
          rintro r w3 ⟨rfl, hb3⟩
          have hb4 := Hbw.out.trans (hb3.mono Hbw.out.size)
          have hbq3 := (hb3.block q hqw).trans Hbq.out
          have Hb4 := hQ hb4
          have Hbq3 := hQ hbq3
          clear hb3 hb4 hbq3 Hpar kb
          cases hp : parentD T k with
          | false =>
           have hfin := Hbadw.out w3 Hb4.out (fun h => by rw [h.2 ho] at hp; cases hp)
           have Hfin := hQ hfin
           clear hp hfin
           go_wp2
           go_ret
           exact ⟨Hfin.out.1, Hfin.out.2⟩
          | true =>
           have Hp := hQ hp
           clear hp
           go_wp2
           exact ⟨⟨k + 1, by omega, by go_num, Hbq3.out, Hb4.out, fun x hx => by
            by_cases e : x = k
            · subst e; exact ⟨fun h => by omega, fun _ => Hp.out⟩
            · exact Hall.out x (by omega)⟩, by simp [intOf]; omega⟩
        · have ho0 : k % 2 = 0 := by omega
          have ho3 : (k : Int).tmod 2 = 0 := by rw [Int.tmod_eq_emod_of_nonneg (by omega)]; omega
          have ho4 : (k : Int) % 2 = 0 := by omega
          have hlf := arleaf_any (nodeD T k).pub (nodeD T k).mem (nodeD T k).ep ua (nodeD T k).um.length uc
          have hlfd : leafD (nodeD T k) = ((decide ((nodeD T k).pub = 0) && decide ((nodeD T k).mem = 0) && decide ((nodeD T k).ep = 0) && decide ((nodeD T k).um.length = 0)) || (decide (0 < (nodeD T k).pub) && decide (0 ≤ (nodeD T k).mem) && decide (0 ≤ (nodeD T k).ep) && decide ((nodeD T k).um.length = 0))) := rfl
          rw [← hlfd] at hlf
          clear hlfd hHT hfk
          generalize hbd : leafD (nodeD T k) = bd at hlf
          have Hbd := hQ hbd; clear hbd
          generalize (nodeD T k).pub = p at k0 hlf
          generalize (nodeD T k).mem = m at k1 hlf
          generalize (nodeD T k).ep = ee at k2 hlf
          generalize (nodeD T k).um.length = ul at k3 hlf
          have Hlf := hQ hlf; clear hlf
          go_wp2_with fail
          refine (Hlf.out _).mono ?_
          rintro r w3 ⟨rfl, hb3⟩
          have hb4 := Hbw.out.trans (hb3.mono Hbw.out.size)
          have hbq3 := (hb3.block q hqw).trans Hbq.out
          have Hb4 := hQ hb4
          have Hbq3 := hQ hbq3
          clear hb3 hb4 hbq3 Hlf kb k0 k1 k2 k3
          cases bd with
          | false =>
           have hfin := Hbadw.out w3 Hb4.out (fun h => by have := h.1 ho0; rw [Hbd.out] at this; cases this)
           have Hfin := hQ hfin
           clear hfin
           go_wp2
           go_ret
           exact ⟨Hfin.out.1, Hfin.out.2⟩
          | true =>
           go_wp2
           exact ⟨⟨k + 1, by omega, by go_num, Hbq3.out, Hb4.out, fun x hx => by
            by_cases e : x = k
            · subst e; exact ⟨fun _ => Hbd.out, fun h => by omega⟩
            · exact Hall.out x (by omega)⟩, by simp [intOf]; omega⟩
      · obtain rfl : k = T.length := by omega
        have hkI : ¬ (T.length : Int) < T.length := by omega
        have heach : eachD T := Hall.out
        have Heach := hQ heach
        have htw := fun W (hW : Below w.heap.size w W) => artwice_any B T hlen a c W (Nat.le_trans hB hW.size) (HT.out.below (hW.mono hB))
        have hsm := fun (f : Nat) (hf : f ≤ 8) W (hW : Below w.heap.size w W) => arsome_any B f hf T hlen a c W (Nat.le_trans hB hW.size) (HT.out.below (hW.mono hB))
        have Htw := hQ htw; clear htw
        have Hsm := hQ hsm; clear hsm
        clear hbw hbq heach Hall
        go_wp2_with fail
        refine (Htw.out _ Hbw.out).mono ?_
        rintro r w3 ⟨⟨b1, rfl, hb1⟩, hbl3⟩
        have hb4 := Hbw.out.trans (hbl3.mono Hbw.out.size)
        have hbq3 := (hbl3.block q hqw).trans Hbq.out
        have Hb4 := hQ hb4
        have kb3 := (cRw hbq3 0).trans rfl
        have Hbq3 := hQ hbq3
        have hqw3 := (Array.getElem?_eq_some_iff.1 hbq3).1
        have HB1 := hQ hb1
        clear hbl3 hb4 hbq3 kb hb1
        cases b1 with
        | true =>
         have Hbad := hQ (errD_bad (T := T) (fun h => (Hokk.out.1 h).2.1 (HB1.out.1 rfl)))
         go_wp2
         go_ret
         exact ⟨by rw [Hbad.out]; rfl, Hb4.out⟩
        | false =>
         have Hntw := hQ (show ¬ twiceD T from fun h => by have := HB1.out.2 h; cases this)
         have hs0 := Hsm.out 0 (by omega) w3 Hb4.out
         have Hs0 := hQ hs0; clear hs0
         go_wp2_with fail
         refine Hs0.out.mono ?_
         rintro r w5 ⟨⟨b2, rfl, hb2⟩, hbl5⟩
         have hb5 := Hb4.out.trans (hbl5.mono Hb4.out.size)
         have hbq5 := (hbl5.block q hqw3).trans Hbq3.out
         have Hb5 := hQ hb5
         have kb5 := (cRw hbq5 0).trans rfl
         have HB2 := hQ hb2
         clear hbl5 hb5 hbq5 kb3 hb2
         cases b2 with
         | false =>
          have Hbad := hQ (errD_bad (T := T) (fun h => by have := HB2.out.2 (Hokk.out.1 h).2.2.1; cases this))
          go_wp2
          go_ret
          exact ⟨by rw [Hbad.out]; rfl, Hb5.out⟩
         | true =>
          by_cases hn1 : 1 < n
          · have hn1I : 1 < (n : Int) := by omega
            have hq1 : (n : Int).tdiv 2 = ((n / 2 : Nat) : Int) := by rw [Int.tdiv_eq_ediv_of_nonneg (by omega)]; omega
            have hq2 : (n : Int) / 2 = ((n / 2 : Nat) : Int) := by omega
            have hs1 := Hsm.out (n / 2) (by omega) w5 Hb5.out
            have Hs1 := hQ hs1; clear hs1
            have hok2 : someD T (n / 2) → errD T = 0 := fun h => errD_ok (Hokk.out.2 ⟨Heach.out, Hntw.out, HB2.out.1 rfl, fun _ => h⟩)
            have hbad2 : ¬ someD T (n / 2) → errD T = 1 := fun h => errD_bad (fun ho => h ((Hokk.out.1 ho).2.2.2 hn1))
            have Hok2 := hQ hok2; clear hok2
            have Hbad2 := hQ hbad2; clear hbad2
            generalize n / 2 = m2 at hq1 hq2 Hs1 Hok2 Hbad2
            clear hn1
            go_wp2_with fail
            refine Hs1.out.mono ?_
            rintro r w6 ⟨⟨b3, rfl, hb3⟩, hbl6⟩
            have Hb6 := hQ (Hb5.out.trans (hbl6.mono Hb5.out.size))
            have HB3 := hQ hb3
            clear hbl6 kb5 hb3
            cases b3 with
            | true =>
             have Hgd := hQ (Hok2.out (HB3.out.1 rfl))
             go_wp2
             go_ret
             exact ⟨by rw [Hgd.out]; rfl, Hb6.out⟩
            | false =>
             have Hbad := hQ (Hbad2.out (fun h => by have := HB3.out.2 h; cases this))
             go_wp2
             go_ret
             exact ⟨by rw [Hbad.out]; rfl, Hb6.out⟩
          · have hn1I : ¬ 1 < (n : Int) := by omega
            have Hgd := hQ (errD_ok (T := T) (Hokk.out.2 ⟨Heach.out, Hntw.out, HB2.out.1 rfl, fun h => absurd h hn1⟩))
            clear hn1
            go_wp2
            go_ret
            exact ⟨by rw [Hgd.out]; rfl, Hb5.out⟩
end
section
open Go Go.RowKit
theorem node_e {L : List TermD} {x : Int} (h : thereD L.length x = true) : nodeE L x = 0 := by unfold nodeE; rw [h]; rfl
end
section
open Go Go.RowKit
section
variable {B s m : Nat} {F : Nat → Prop} {w : World} {q : Nat} {va : Option Addr} {vc : Nat} {e c : Int} {T' : List TermD} {ks : List KeyP} {F' : Nat → Prop} {X X' : World}
end
section
variable {B s m : Nat} {F : Nat → Prop} {L : List TermD} {a : Option Addr} {c : Nat} {T : List NodeD} {sec : Int} {w : World} {q qf bt : Nat} {P : List Nat} {F' : Nat → Prop} {va : Option Addr} {vc : Nat} {W W' : World}
end
end
end Go.Proofs.YtedpljclnpiggaaGreatDoor
