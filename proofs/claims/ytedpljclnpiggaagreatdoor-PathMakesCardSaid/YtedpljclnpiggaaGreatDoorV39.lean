/- phratryref08.New; the parts that lives begins with. -/
import Derived.Test.YtedpljclnpiggaaGreatDoorV29
import Derived.Test.YtedpljclnpiggaaGreatDoorV06
import Derived.Test.YtedpljclnpiggaaGreatDoorV26
set_option linter.unusedVariables false
set_option linter.unusedSimpArgs false
set_option maxRecDepth 100000
set_option maxHeartbeats 12800000
namespace Go.Proofs.YtedpljclnpiggaaGreatDoor
open Go Go.RowKit
theorem new_results (tmps : Array Value) (w : World) (r : Nat) (v : Value) (h2 : tmps.getD 2 undef = .pointer (some ⟨r, 0, none⟩))
    (hg : w.heap[r]? = some (.cells #[v] 44 (0, 0))) : (results Tryz.f176 tmps).run Tryz.prog w = .ok (.tuple #[.agg #[v], tmps.getD 3 undef]) w := by
 have hl := run_loadVar_row (P := Tryz.prog) w r 44 44 #[v] (0, 0) _ hg Tryz.underlying44 rfl (by kernel_rfl)
 have ha : (asAddr (.pointer (some ⟨r, 0, none⟩))).run Tryz.prog w = .ok ⟨r, 0, none⟩ w := by simp [asAddr]
 have hr : Tryz.f176.results = #[.cell 2 44, .tmp 3] := by kernel_rfl
 have h2' : tmps[2]?.getD undef = .pointer (some ⟨r, 0, none⟩) := by simpa using h2
 simp only [results, hr]
 simp [Sem.run_bind, h2', ha, hl]
def RNewPost (w : World) (p m e : Int) (r : Ending) (w' : World) : Prop :=
 ∃ g c, r = .returned (.tuple #[.agg #[.slice (some ⟨g, 0, none⟩) 1 c], .int .i64 0]) ∧ T1 w' g p m e ∧ w.heap.size ≤ g ∧ Below w.heap.size w w'
theorem rtnew_any (m e p : Int) (hm : 0 ≤ m) (he : 0 ≤ e) (hp : 0 < p) (w : World) :
    Calls Tryz.prog 176 #[.agg #[.int .i64 m, .int .i64 e, .int .i64 p]] w (RNewPost w p m e) := by
 have hb1 := ((Below.refl w.heap.size w).alloc (Nat.le_refl _) (.cells #[.int .i64 m, .int .i64 e, .int .i64 p] 163)).alloc (by simp) (boxT (.slice none 0 0))
 have h1 : St ((w.alloc (.cells #[.int .i64 m, .int .i64 e, .int .i64 p] 163)).alloc (boxT (.slice none 0 0))) (w.heap.size + 1) (boxT (.slice none 0 0)) := St.mk' (by have := rAl (w := w.alloc (.cells #[.int .i64 m, .int .i64 e, .int .i64 p] 163)) #[.slice none 0 0] 44 (0, 0); simpa using this)
 have Hb1 := hQ hb1; clear hb1
 have H1 := hQ h1; clear h1
 go_enter Tryz.func176, Tryz.ntmps176
 go_wp2_with fail
 refine (radd_0 m e p hm he hp _).mono ?_
 obtain ⟨q, hq⟩ : ∃ q, q = w.heap.size := ⟨_, rfl⟩
 rw [← hq] at H1 ⊢
 have Hq := hQ hq; clear hq
 generalize (w.alloc (.cells #[.int .i64 m, .int .i64 e, .int .i64 p] 163)).alloc (boxT (.slice none 0 0)) = w1 at Hb1 H1 ⊢
 rintro r w2 ⟨g, c, rfl, hT, hg, hb⟩
 have hal := (Below.refl w2.heap.size w2).alloc (Nat.le_refl _) (boxT (.slice (some ⟨g, 0, none⟩) 1 c))
 have H12 := hQ ((H1.out.new hb).new hal)
 have HT := hQ (hT.new hal)
 have Hb2 := hQ ((Hb1.out.trans (hb.mono Hb1.out.size)).trans (hal.mono (Nat.le_trans Hb1.out.size hb.size)))
 have Hg := hQ (show w.heap.size ≤ g ∧ q + 1 < g from ⟨Nat.le_trans Hb1.out.size hg, Nat.lt_of_lt_of_le H1.out.lt hg⟩)
 have kr := cRw H12.out.at' 0
 have fr := fRw H12.out.at' 0
 go_wp2
 refine bodyPost_ret_by (new_results _ _ (q + 1) _ rfl (rSc H12.out.at' 0 _)) rfl ?_
 have hg2 : g ≠ q + 1 := by have := Hg.out; omega
 refine ⟨g, c, rfl, ?_, Hg.out.1, Hb2.out.setCell (p := ⟨q + 1, 0, none⟩) (by have := Hq.out; simp only; omega) _⟩
 have hTu : ∀ j, ((w2.alloc (boxT (.slice (some ⟨g, 0, none⟩) 1 c))).setCell ⟨q + 1, 0, none⟩ (.slice (some ⟨g, 0, none⟩) 1 c)).cell? ⟨g, j, none⟩ = (w2.alloc (boxT (.slice (some ⟨g, 0, none⟩) 1 c))).cell? ⟨g, j, none⟩ := fun j =>
  World.cell?_of_block (Below.heap_setCell _ ⟨q + 1, 0, none⟩ _ g hg2)
 exact ⟨(hTu 0).trans HT.out.c0, (hTu 1).trans HT.out.c1, (hTu 2).trans HT.out.c2, (hTu 3).trans HT.out.c3⟩
theorem two_results (tmps : Array Value) (w : World) (r : Nat) (v : Value) (h2 : tmps.getD 2 undef = .pointer (some ⟨r, 0, none⟩))
    (hg : w.heap[r]? = some (.cells #[v] 44 (0, 0))) : (results Tryz.f44 tmps).run Tryz.prog w = .ok (.tuple #[tmps.getD 0 undef, tmps.getD 1 undef, .agg #[v], tmps.getD 3 undef]) w := by
 have hl := run_loadVar_row (P := Tryz.prog) w r 44 44 #[v] (0, 0) _ hg Tryz.underlying44 rfl (by kernel_rfl)
 have ha : (asAddr (.pointer (some ⟨r, 0, none⟩))).run Tryz.prog w = .ok ⟨r, 0, none⟩ w := by simp [asAddr]
 have hr : Tryz.f44.results = #[.tmp 0, .tmp 1, .cell 2 44, .tmp 3] := by kernel_rfl
 have h2' : tmps[2]?.getD undef = .pointer (some ⟨r, 0, none⟩) := by simpa using h2
 simp only [results, hr]
 simp [Sem.run_bind, h2', ha, hl]
def TwoPost (w : World) (r : Ending) (w' : World) : Prop :=
 ∃ s t g c F, r = .returned (.tuple #[.pointer (some ⟨s, 0, none⟩), .pointer (some ⟨t, 0, none⟩), .agg #[.slice (some ⟨g, 0, none⟩) 3 c], .bool true]) ∧ ProgStore w' s F L0 ∧ StT F w' g 3 5 0 0 4 6 0 ∧ (∀ k, F k → w.heap.size ≤ k) ∧ Below w.heap.size w w'
def f0 (i : Nat) : TermD := L0.getD i zeroT
theorem f0_ok : ∀ i, i < 4 → (f0 i).ok := by
 intro i hi
 have h : i = 0 ∨ i = 1 ∨ i = 2 ∨ i = 3 := by omega
 rcases h with rfl | rfl | rfl | rfl <;> simp [f0, L0, TermD.ok, i64ok]
theorem f0_list : buildL (termsL 4 f0) = L0 := by decide +kernel
theorem two_any (w : World) : Calls Tryz.prog 44 #[] w (TwoPost w) := by
 have hb1 := ((Below.refl w.heap.size w).alloc (Nat.le_refl _) (boxT (.slice none 0 0)))
 have h1 : St (w.alloc (boxT (.slice none 0 0))) w.heap.size (boxT (.slice none 0 0)) := St.mk' (rAl _ _ _)
 have Hb1 := hQ hb1; clear hb1
 have H1 := hQ h1; clear h1
 have hw1 : Terms ((w.alloc (boxT (.slice none 0 0))).alloc (.cells #[.int .u8 1, .int .i64 1, .int .i64 0, .int .i64 0, .int .u8 1, .int .i64 2, .int .i64 0, .int .i64 0, .int .u8 5, .int .i64 0, .int .i64 1, .int .i64 0, .int .u8 5, .int .i64 0, .int .i64 2, .int .i64 0] 107)) (some ⟨w.heap.size + 1, 0, none⟩) 4 f0 := by
  have hr := rAl (w := w.alloc (boxT (.slice none 0 0))) #[.int .u8 1, .int .i64 1, .int .i64 0, .int .i64 0, .int .u8 1, .int .i64 2, .int .i64 0, .int .i64 0, .int .u8 5, .int .i64 0, .int .i64 1, .int .i64 0, .int .u8 5, .int .i64 0, .int .i64 2, .int .i64 0] 107 (0, 0)
  have hr' := hr
  rw [World.size_alloc] at hr'
  intro i hi
  have h : i = 0 ∨ i = 1 ∨ i = 2 ∨ i = 3 := by omega
  rcases h with rfl | rfl | rfl | rfl <;> exact ⟨_, _, rfl, by rw [cRw hr']; rfl, by rw [cRw hr']; rfl, by rw [cRw hr']; rfl, by rw [cRw hr']; rfl⟩
 have hbuild := build_any (some ⟨w.heap.size + 1, 0, none⟩) 4 4 f0 (by omega) f0_ok _ hw1
 unfold BuildPost at hbuild
 rw [f0_list] at hbuild
 have hal1 := (Below.refl (w.alloc (boxT (.slice none 0 0))).heap.size (w.alloc (boxT (.slice none 0 0)))).alloc (Nat.le_refl _) (.cells #[.int .u8 1, .int .i64 1, .int .i64 0, .int .i64 0, .int .u8 1, .int .i64 2, .int .i64 0, .int .i64 0, .int .u8 5, .int .i64 0, .int .i64 1, .int .i64 0, .int .u8 5, .int .i64 0, .int .i64 2, .int .i64 0] 107)
 have H12 := hQ (H1.out.new hal1)
 have Hb2 := hQ (Hb1.out.trans (hal1.mono Hb1.out.size))
 have Hbuild := hQ hbuild
 clear hbuild hw1 hal1 H1 Hb1
 go_enter Tryz.func44, Tryz.ntmps44
 go_wp2_with fail
 refine Calls.mono Hbuild.out ?_
 rintro e w3 ⟨rfl, ⟨F, G, hp⟩, hb⟩
 obtain ⟨q, hq⟩ : ∃ q, q = w.heap.size := ⟨_, rfl⟩
 have hFq : ∀ k, F k → q < k := fun k hk => by have := hp.lf k hk; simp at this; omega
 have hFl := hp.ps.lt
 have H13 := hQ (H12.out.new hb)
 have Hb3 := hQ (Hb2.out.trans (hb.mono Hb2.out.size))
 have hps := hp.ps
 simp only [World.size_alloc] at hps ⊢
 rw [← hq] at hps H13 ⊢
 have Hq := hQ hq
 clear hp hb Hbuild H12 Hb2 hq
 go_wp2_with fail
 refine (rtnew_any 5 0 3 (by omega) (by omega) (by omega) _).mono ?_
 rintro e w4 ⟨g1, c1, rfl, hT1, hg1, hb⟩
 have H14 := hQ (H13.out.new hb)
 have Hb4 := hQ (Hb3.out.trans (hb.mono Hb3.out.size))
 have hps4 := hps.new hb
 have hFl4 : ∀ k, F k → k < w4.heap.size := fun k hk => Nat.lt_of_lt_of_le (hFl k hk) hb.size
 have hqg1 : q < g1 := Nat.lt_of_lt_of_le H13.out.lt hg1
 clear hps hFl hb hg1 H13 Hb3
 have hal := (Below.refl w4.heap.size w4).alloc (Nat.le_refl _) (boxT (.slice (some ⟨g1, 0, none⟩) 1 c1))
 have H7 := hQ (show St (w4.alloc (boxT (.slice (some ⟨g1, 0, none⟩) 1 c1))) w4.heap.size (boxT (.slice (some ⟨g1, 0, none⟩) 1 c1)) from St.mk' (rAl _ _ _))
 have H15 := hQ (H14.out.new hal)
 have Hb5 := hQ (Hb4.out.trans (hal.mono Hb4.out.size))
 have hps5 := hps4.new hal
 have HT5 := hQ (hT1.new hal)
 have hqs : q < w4.heap.size := H14.out.lt
 clear hps4 hT1 hal H14 Hb4
 have Hps := hQ hps5; clear hps5
 have k7 := cRw H7.out.at' 0
 have f7 := fRw H7.out.at' 0
 go_wp2_with fail
 refine (radd_1 g1 c1 5 0 3 6 0 4 (by omega) (by omega) (by omega) (by omega) (by omega) (by omega) (by omega) _ HT5.out).mono ?_
 obtain ⟨q7, hq7⟩ : ∃ q, q = w4.heap.size := ⟨_, rfl⟩
 rw [← hq7] at H7 hqs hFl4 ⊢
 have hb47 : w.heap.size ≤ q7 := by have := Hq.out; omega
 have Hq7 := hQ (And.intro hb47 hqs); clear hq7 hb47 hqs
 generalize w4.alloc (boxT (.slice (some ⟨g1, 0, none⟩) 1 c1)) = w5 at Hb5 H7 H15 HT5 Hps k7 f7 ⊢
 rintro e w6 ⟨g, c, rfl, hT3, hg, hb⟩
 have H16 := hQ (H15.out.new hb)
 have H76 := hQ (H7.out.new hb)
 have Hb6 := hQ (Hb5.out.trans (hb.mono Hb5.out.size))
 have Hps6 := hQ (Hps.out.new hb)
 have HT3 := hQ hT3
 have Hg := hQ (show q7 < g ∧ q < g ∧ ¬ F g from ⟨Nat.lt_of_lt_of_le H7.out.lt hg, Nat.lt_of_lt_of_le H15.out.lt hg, fun hf => by have := hFl4 _ hf; have := H7.out.lt; omega⟩)
 have HF := hQ (And.intro hFq hFl4)
 clear hFq hFl4 hT3 hg hb H15 H7 Hb5 Hps HT5 k7 f7
 have k7 := cRw H76.out.at' 0
 have f7 := fRw H76.out.at' 0
 have kr := cRw H16.out.at' 0
 have fr := fRw H16.out.at' 0
 have hq77 : q ≠ q7 := by have := Hq7.out; omega
 have h77q : q7 ≠ q := by have := Hq7.out; omega
 go_wp2_with fail
 go_region
 all_goals
  go_wp2
  obtain ⟨v, hv⟩ : ∃ v, v = Value.slice (some ⟨g, 0, none⟩) 3 c := ⟨_, rfl⟩
  have hr0 : (w6.setCell ⟨q7, 0, none⟩ (.slice (some ⟨g, 0, none⟩) 3 c)).heap[q]? = some (boxT (.slice none 0 0)) := (Below.heap_setCell w6 ⟨q7, 0, none⟩ _ q hq77).trans H16.out.at'
  have hr1 := rSc hr0 0 (.slice (some ⟨g, 0, none⟩) 3 c)
  refine bodyPost_ret_by (two_results _ _ q (.slice (some ⟨g, 0, none⟩) 3 c) rfl hr1) rfl ?_
  have hTu : Turned (fun k => k = q7 ∨ k = q) w6 ((w6.setCell ⟨q7, 0, none⟩ (.slice (some ⟨g, 0, none⟩) 3 c)).setCell ⟨q, 0, none⟩ (.slice (some ⟨g, 0, none⟩) 3 c)).drew :=
   (Turned.setCell (F := fun k => k = q7 ∨ k = q) (Turned.setCell (F := fun k => k = q7 ∨ k = q) (Turned.refl _ _) (p := ⟨q7, 0, none⟩) (fun _ => Or.inl rfl) _) (p := ⟨q, 0, none⟩) (fun _ => Or.inr rfl) _).drew
  have hq := Hq.out
  have hq7 := Hq7.out
  have hg := Hg.out
  have hF := HF.out
  refine ⟨_, _, g, c, F, rfl, Hps6.out.kept hTu (fun k hk hG => ?_), ⟨HT3.out.block (hTu.block g HT3.out.lt (by omega)), hg.2.2⟩, fun k hk => by have := hF.1 k hk; omega, Hb6.out.trans (hTu.below Hb6.out.size (fun k hk => by omega))⟩
  have h1 := hF.1 k hk
  have h2 := hF.2 k hk
  omega
end Go.Proofs.YtedpljclnpiggaaGreatDoor
