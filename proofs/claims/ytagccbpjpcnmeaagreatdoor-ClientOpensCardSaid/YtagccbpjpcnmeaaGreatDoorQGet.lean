/-
  Reading a store: Get, is, there, alive, Len.
-/
import Derived.Test.YtagccbpjpcnmeaaGreatDoorQKdf
set_option linter.unusedVariables false
set_option linter.unusedSimpArgs false
namespace Go.Proofs.YtagccbpjpcnmeaaGreatDoor
open Go Go.RowKit

/-- The term of a number. -/
def getT (L : List TermD) (n : Int) : TermD := if thereD L.length n then L.getD (n - 1).toNat zeroT else zeroT

theorem term_facts {W : World} {g : Nat} {t : TermD} (h : W.heap[g]? = some (.cells t.arr 95 (0, 0))) :
    W.cell? ⟨g, 0, none⟩ = some (.int .u8 t.kind) ∧ W.cell? ⟨g, 1, none⟩ = some (.int .i64 t.n) ∧ W.cell? ⟨g, 2, none⟩ = some (.int .i64 t.a) ∧ W.cell? ⟨g, 3, none⟩ = some (.int .i64 t.b) ∧
    W.frozen? ⟨g, 0, none⟩ = false ∧ W.frozen? ⟨g, 1, none⟩ = false ∧ W.frozen? ⟨g, 2, none⟩ = false ∧ W.frozen? ⟨g, 3, none⟩ = false :=
  ⟨(cell_row h 0).trans rfl, (cell_row h 1).trans rfl, (cell_row h 2).trans rfl, (cell_row h 3).trans rfl, free_row h 0, free_row h 1, free_row h 2, free_row h 3⟩

theorem rget_results (tmps : Array Value) (w : World) (g : Nat) (t : TermD) (ok : Bool) (h4 : tmps.getD 4 undef = .pointer (some ⟨g, 0, none⟩)) (h5 : tmps.getD 5 undef = .bool ok)
    (hg : w.heap[g]? = some (.cells t.arr 95 (0, 0))) : (results Tryz.f166 tmps).run Tryz.prog w = .ok (.tuple #[.agg t.arr, .bool ok]) w := by
  have hl := run_loadVar_row (P := Tryz.prog) w g 95 95 t.arr (0, 0) _ hg Tryz.underlying95 rfl (by kernel_rfl)
  have ha : (asAddr (.pointer (some ⟨g, 0, none⟩))).run Tryz.prog w = .ok ⟨g, 0, none⟩ w := by simp [asAddr]
  rw [results_cell_tmp (p := 4) (u := 5) (ty := 95) (by kernel_rfl), h4, h5, ha]
  simp [Result.andThen, hl]

set_option maxRecDepth 100000 in
set_option maxHeartbeats 800000 in
theorem rget_any (s : Nat) (F : Nat → Prop) (L : List TermD) (n : Int) (w : World) (h : RefStore w s F L) (hl : L.length ≤ 2000000) :
    Calls Tryz.prog 166 #[.pointer (some ⟨s, 0, none⟩), .int .i64 n] w fun e w' => e = .returned (.tuple #[.agg (getT L n).arr, .bool (thereD L.length n)]) ∧ Below w.heap.size w w' := by
  have hb1 := (Below.refl w.heap.size w).alloc (Nat.le_refl _) (.cells #[.int .u8 0, .int .i64 0, .int .i64 0, .int .i64 0] 95)
  have h1 := h.kept (Turned.new (fun _ => False) hb1) (fun _ _ h => h)
  have hth := rthere_any s F L n _ h1 hl
  obtain ⟨v, hrow, hown, _⟩ := h1
  obtain ⟨va, vc, rfl, _⟩ := ownT_len hown
  have hres := row_alloc (w := w) #[.int .u8 0, .int .i64 0, .int .i64 0, .int .i64 0] 95 (0, 0)
  have Hres := Lib.hid hres; clear hres
  have c0 : (w.alloc (.cells #[.int .u8 0, .int .i64 0, .int .i64 0, .int .i64 0] 95)).cell? ⟨s, 0, none⟩ = some (.slice va L.length vc) := by rw [cell_row hrow]; rfl
  have Hat := Lib.hid (ownT_at hown)
  have Hb1 := Lib.hid hb1; clear hb1
  clear hrow hown h
  cases ht : thereD L.length n with
  | false =>
    rw [ht] at hth
    have Hth := Lib.hid hth; clear hth
    have hg : getT L n = zeroT := by unfold getT; rw [ht]; rfl
    have Hg := Lib.hid hg; clear hg ht c0
    go_enter Tryz.func166, Tryz.ntmps166
    go_wp2_with (first
      | (go_at_call 120; refine Hth.out.mono ?_; rintro e wx ⟨rfl, rfl⟩))
    refine bodyPost_ret_by (rget_results _ _ w.heap.size zeroT false rfl rfl ?_) rfl ⟨by rw [Hg.out], ?_⟩
    · first | exact Hres.out | exact row_setCell (row_setCell (row_setCell (row_setCell Hres.out _ _) _ _) _ _) _ _
    · first | exact Hb1.out | exact (((Hb1.out.setCell (Nat.le_refl _) _).setCell (Nat.le_refl _) _).setCell (Nat.le_refl _) _).setCell (Nat.le_refl _) _
  | true =>
    rw [ht] at hth
    have Hth := Lib.hid hth; clear hth
    obtain ⟨hn1, hn2⟩ := there_bounds ht
    obtain ⟨i, rfl⟩ : ∃ i : Nat, n = (i : Int) + 1 := ⟨(n - 1).toNat, by omega⟩
    have hi : i < L.length := by omega
    have hg : getT L ((i : Int) + 1) = L.getD i zeroT := by unfold getT; rw [ht]; simp
    obtain ⟨gb, go, rfl, t0, t1, t2, t3⟩ := Hat.out i hi
    dsimp only at t0 t1 t2 t3
    generalize L.getD i zeroT = t at hg t0 t1 t2 t3
    have Hg := Lib.hid hg; clear hg ht
    have hiL : (i : Int) < L.length := by omega
    clear hn1 hn2
    go_enter Tryz.func166, Tryz.ntmps166
    go_wp2_with (first
      | (go_at_call 120; refine Hth.out.mono ?_; rintro e wx ⟨rfl, rfl⟩))
    refine bodyPost_ret_by (rget_results _ _ w.heap.size t true rfl rfl ?_) rfl ⟨by rw [Hg.out], ?_⟩
    · exact row_alloc _ _ _
    · exact (Below.refl _ _).alloc (Nat.le_refl _) _

theorem sget_results (tmps : Array Value) (w : World) (g : Nat) (t : TermD) (ok : Bool) (h4 : tmps.getD 4 undef = .pointer (some ⟨g, 0, none⟩)) (h5 : tmps.getD 5 undef = .bool ok)
    (hg : w.heap[g]? = some (.cells t.arr 95 (0, 0))) : (results Tryz.f52 tmps).run Tryz.prog w = .ok (.tuple #[.agg t.arr, .bool ok]) w := by
  have hl := run_loadVar_row (P := Tryz.prog) w g 95 95 t.arr (0, 0) _ hg Tryz.underlying95 rfl (by kernel_rfl)
  have ha : (asAddr (.pointer (some ⟨g, 0, none⟩))).run Tryz.prog w = .ok ⟨g, 0, none⟩ w := by simp [asAddr]
  rw [results_cell_tmp (p := 4) (u := 5) (ty := 95) (by kernel_rfl), h4, h5, ha]
  simp [Result.andThen, hl]

set_option maxRecDepth 100000 in
set_option maxHeartbeats 800000 in
theorem sget_any (s : Nat) (F : Nat → Prop) (L : List TermD) (n : Int) (w : World) (h : ProgStore w s F L) (hl : L.length ≤ 2000000) :
    Calls Tryz.prog 52 #[.pointer (some ⟨s, 0, none⟩), .int .i64 n] w fun e w' => e = .returned (.tuple #[.agg (getT L n).arr, .bool (thereD L.length n)]) ∧ Below w.heap.size w w' := by
  have hb1 := (Below.refl w.heap.size w).alloc (Nat.le_refl _) (.cells #[.int .u8 0, .int .i64 0, .int .i64 0, .int .i64 0] 95)
  have h1 := h.kept (Turned.new (fun _ => False) hb1) (fun _ _ h => h)
  have hth := sthere_any s F L n _ h1 hl
  have hmade := smade_any s F L _ h1
  have Hmade := Lib.hid hmade; clear hmade
  obtain ⟨v, mb, D, hrow, hown, _⟩ := h1
  obtain ⟨va, vc, rfl, _⟩ := ownT_len hown
  have hres := row_alloc (w := w) #[.int .u8 0, .int .i64 0, .int .i64 0, .int .i64 0] 95 (0, 0)
  have Hres := Lib.hid hres; clear hres
  have c0 : (w.alloc (.cells #[.int .u8 0, .int .i64 0, .int .i64 0, .int .i64 0] 95)).cell? ⟨s, 0, none⟩ = some (.slice va L.length vc) := by rw [cell_row hrow]; rfl
  have Hat := Lib.hid (ownT_at hown)
  have Hb1 := Lib.hid hb1; clear hb1
  clear hrow hown h
  cases ht : thereD L.length n with
  | false =>
    rw [ht] at hth
    have Hth := Lib.hid hth; clear hth
    have hg : getT L n = zeroT := by unfold getT; rw [ht]; rfl
    have Hg := Lib.hid hg; clear hg ht c0
    go_enter Tryz.func52, Tryz.ntmps52
    go_wp2_with (first
      | (go_at_call 32; refine Hmade.out.mono ?_; rintro e wx ⟨rfl, rfl⟩)
      | (go_at_call 112; refine Hth.out.mono ?_; rintro e wx ⟨rfl, rfl⟩))
    refine bodyPost_ret_by (sget_results _ _ w.heap.size zeroT false rfl rfl ?_) rfl ⟨by rw [Hg.out], ?_⟩
    · first | exact Hres.out | exact row_setCell (row_setCell (row_setCell (row_setCell Hres.out _ _) _ _) _ _) _ _
    · first | exact Hb1.out | exact (((Hb1.out.setCell (Nat.le_refl _) _).setCell (Nat.le_refl _) _).setCell (Nat.le_refl _) _).setCell (Nat.le_refl _) _
  | true =>
    rw [ht] at hth
    have Hth := Lib.hid hth; clear hth
    obtain ⟨hn1, hn2⟩ := there_bounds ht
    obtain ⟨i, rfl⟩ : ∃ i : Nat, n = (i : Int) + 1 := ⟨(n - 1).toNat, by omega⟩
    have hi : i < L.length := by omega
    have hg : getT L ((i : Int) + 1) = L.getD i zeroT := by unfold getT; rw [ht]; simp
    obtain ⟨gb, go, rfl, t0, t1, t2, t3⟩ := Hat.out i hi
    dsimp only at t0 t1 t2 t3
    generalize L.getD i zeroT = t at hg t0 t1 t2 t3
    have Hg := Lib.hid hg; clear hg ht
    have hiL : (i : Int) < L.length := by omega
    clear hn1 hn2
    go_enter Tryz.func52, Tryz.ntmps52
    go_wp2_with (first
      | (go_at_call 32; refine Hmade.out.mono ?_; rintro e wx ⟨rfl, rfl⟩)
      | (go_at_call 112; refine Hth.out.mono ?_; rintro e wx ⟨rfl, rfl⟩))
    refine bodyPost_ret_by (sget_results _ _ w.heap.size t true rfl rfl ?_) rfl ⟨by rw [Hg.out], ?_⟩
    · exact row_alloc _ _ _
    · exact (Below.refl _ _).alloc (Nat.le_refl _) _

set_option maxRecDepth 100000 in
theorem ris_any (s : Nat) (F : Nat → Prop) (L : List TermD) (n : Int) (w : World) (h : RefStore w s F L) (hl : L.length ≤ 2000000) :
    Calls Tryz.prog 161 #[.pointer (some ⟨s, 0, none⟩), .int .i64 n] w fun e w' => e = .returned (.bool (thereD L.length n)) ∧ Below w.heap.size w w' := by
  have hget := rget_any s F L n w h hl
  unfold TermD.arr at hget
  generalize getT L n = t at hget
  have Hget := Lib.hid hget; clear hget h
  go_enter Tryz.func161, Tryz.ntmps161
  go_wp2_with fail
  refine Hget.out.mono ?_
  rintro e w1 ⟨rfl, hb1⟩
  have Hb1 := Lib.hid hb1; clear hb1
  go_wp2
  go_ret
  exact ⟨rfl, by first | exact Hb1.out.alloc Hb1.out.size _ | exact (((((Hb1.out.alloc Hb1.out.size _).setCell (p := ⟨w1.heap.size, 0, none⟩) Hb1.out.size _).setCell (p := ⟨w1.heap.size, 1, none⟩) Hb1.out.size _).setCell (p := ⟨w1.heap.size, 2, none⟩) Hb1.out.size _).setCell (p := ⟨w1.heap.size, 3, none⟩) Hb1.out.size _)⟩

set_option maxRecDepth 100000 in
theorem sis_any (s : Nat) (F : Nat → Prop) (L : List TermD) (n : Int) (w : World) (h : ProgStore w s F L) (hl : L.length ≤ 2000000) :
    Calls Tryz.prog 150 #[.pointer (some ⟨s, 0, none⟩), .int .i64 n] w fun e w' => e = .returned (.bool (thereD L.length n)) ∧ Below w.heap.size w w' := by
  have hget := sget_any s F L n w h hl
  unfold TermD.arr at hget
  generalize getT L n = t at hget
  have Hget := Lib.hid hget; clear hget h
  go_enter Tryz.func150, Tryz.ntmps150
  go_wp2_with fail
  refine Hget.out.mono ?_
  rintro e w1 ⟨rfl, hb1⟩
  have Hb1 := Lib.hid hb1; clear hb1
  go_wp2
  go_ret
  exact ⟨rfl, by first | exact Hb1.out.alloc Hb1.out.size _ | exact (((((Hb1.out.alloc Hb1.out.size _).setCell (p := ⟨w1.heap.size, 0, none⟩) Hb1.out.size _).setCell (p := ⟨w1.heap.size, 1, none⟩) Hb1.out.size _).setCell (p := ⟨w1.heap.size, 2, none⟩) Hb1.out.size _).setCell (p := ⟨w1.heap.size, 3, none⟩) Hb1.out.size _)⟩

end Go.Proofs.YtagccbpjpcnmeaaGreatDoor
