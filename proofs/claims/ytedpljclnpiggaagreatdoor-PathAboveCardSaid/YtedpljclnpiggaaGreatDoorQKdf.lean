/-
  Derivations: Kdf, Pub (the document's), derived (the program's); the new stores.
-/
import Derived.Test.YtedpljclnpiggaaGreatDoorQSMake
set_option linter.unusedVariables false
set_option linter.unusedSimpArgs false
namespace Go.Proofs.YtedpljclnpiggaaGreatDoor
open Go Go.RowKit

/-- What a call leaves that answers numbers and makes terms, of the document's store. -/
def RPost (r : Nat) (F : Nat → Prop) (L' : List TermD) (v : Value) (w : World) (e : Ending) (w' : World) : Prop :=
  e = .returned v ∧ ∃ F', Ext F F' w w' ∧ RefStore w' r F' L' ∧ Turned F w w'
/-- .. of the program's. -/
def SPost (s : Nat) (F : Nat → Prop) (L' : List TermD) (v : Value) (w : World) (e : Ending) (w' : World) : Prop :=
  e = .returned v ∧ ∃ F', Ext F F' w w' ∧ ProgStore w' s F' L' ∧ Turned F w w'

set_option maxRecDepth 100000 in
theorem rkdf_any (r : Nat) (F : Nat → Prop) (L : List TermD) (label x c : Int) (ht : (⟨4, label, x, c⟩ : TermD).ok) (hG : Good L) (hl : L.length < 1048576) (w : World) (h : RefStore w r F L) :
    Calls Tryz.prog 40 #[.pointer (some ⟨r, 0, none⟩), .int .i64 label, .int .i64 x, .int .i64 c] w (RPost r F (makeL L ⟨4, label, x, c⟩) (.int .i64 (makeN L ⟨4, label, x, c⟩)) w) := by
  have hmake := fun W hW => rmake_any r F L ⟨4, label, x, c⟩ ht hG hl W hW
  have Hmake := Lib.hid hmake; clear hmake
  have H := Lib.hid h; clear h
  have Hl := Lib.hid hl; clear hl
  clear hG ht
  go_enter Tryz.func40, Tryz.ntmps40
  go_wp2_with fail
  refine (Hmake.out _ H.out).mono ?_
  rintro e w1 ⟨rfl, F', hx, hs, hT⟩
  have Hx := Lib.hid hx; clear hx
  have Hs := Lib.hid hs; clear hs
  have HT := Lib.hid hT; clear hT
  go_wp2
  go_ret
  exact ⟨rfl, F', Hx.out, Hs.out, HT.out⟩

set_option maxRecDepth 100000 in
theorem rpub_any (r : Nat) (F : Nat → Prop) (L : List TermD) (x : Int) (ht : (⟨5, 0, x, 0⟩ : TermD).ok) (hG : Good L) (hl : L.length < 1048576) (w : World) (h : RefStore w r F L) :
    Calls Tryz.prog 41 #[.pointer (some ⟨r, 0, none⟩), .int .i64 x] w (RPost r F (makeL L ⟨5, 0, x, 0⟩) (.int .i64 (makeN L ⟨5, 0, x, 0⟩)) w) := by
  have hmake := fun W hW => rmake_any r F L ⟨5, 0, x, 0⟩ ht hG hl W hW
  have Hmake := Lib.hid hmake; clear hmake
  have H := Lib.hid h; clear h
  have Hl := Lib.hid hl; clear hl
  clear hG ht
  go_enter Tryz.func41, Tryz.ntmps41
  go_wp2_with fail
  refine (Hmake.out _ H.out).mono ?_
  rintro e w1 ⟨rfl, F', hx, hs, hT⟩
  have Hx := Lib.hid hx; clear hx
  have Hs := Lib.hid hs; clear hs
  have HT := Lib.hid hT; clear hT
  go_wp2
  go_ret
  exact ⟨rfl, F', Hx.out, Hs.out, HT.out⟩

set_option maxRecDepth 100000 in
theorem derived_any (s : Nat) (F : Nat → Prop) (L : List TermD) (label x : Int) (ht : (⟨4, label, x, 0⟩ : TermD).ok) (hG : Good L) (hl : L.length < 1048576) (w : World) (h : ProgStore w s F L) :
    Calls Tryz.prog 38 #[.pointer (some ⟨s, 0, none⟩), .int .i64 label, .int .i64 x] w (SPost s F (makeL L ⟨4, label, x, 0⟩) (.tuple #[.int .i64 (makeN L ⟨4, label, x, 0⟩), .int .i64 (makeE L ⟨4, label, x, 0⟩)]) w) := by
  have hmake := fun W hW => smake_any s F L ⟨4, label, x, 0⟩ ht hG hl W hW
  have Hmake := Lib.hid hmake; clear hmake
  have H := Lib.hid h; clear h
  have Hl := Lib.hid hl; clear hl
  clear hG ht
  go_enter Tryz.func38, Tryz.ntmps38
  go_wp2_with fail
  refine (Hmake.out _ H.out).mono ?_
  rintro e w1 ⟨rfl, F', hx, hs, hT⟩
  have Hx := Lib.hid hx; clear hx
  have Hs := Lib.hid hs; clear hs
  have HT := Lib.hid hT; clear hT
  go_wp2
  go_ret2
  exact ⟨rfl, F', Hx.out, Hs.out, HT.out⟩

theorem ownT_nil (w : World) : OwnT (.slice none 0 0) [] w := ⟨rfl, .inl ⟨rfl, rfl⟩⟩

theorem rnew_any (w : World) : Calls Tryz.prog 33 #[] w fun e w' => e = .returned (.pointer (some ⟨w.heap.size, 0, none⟩)) ∧ w' = w.alloc (.cells #[.slice none 0 0] 156) := by
  go_enter Tryz.func33, Tryz.ntmps33
  go_wp2
  go_ret
  exact ⟨rfl, rfl⟩

theorem rnew_store (w : World) : RefStore (w.alloc (.cells #[.slice none 0 0] 156)) w.heap.size (fun k => k = w.heap.size) [] :=
  ⟨_, row_alloc _ _ _, ownT_nil _, ⟨rfl, fun g hg => by simp [Value.ownBlock] at hg⟩, fun k hk => by subst hk; simp⟩

theorem run_make_terms (w : World) : (Instr.makeMap 152 none).run Tryz.prog w = .ok (.map (some w.heap.size)) (w.alloc (.map #[] 0)) := by kernel_rfl

theorem snew_any (w : World) : Calls Tryz.prog 32 #[] w fun e w' => e = .returned (.pointer (some ⟨w.heap.size + 1, 0, none⟩)) ∧ w' = (w.alloc (.map #[] 0)).alloc (.cells #[.slice none 0 0, .map (some w.heap.size)] 154) := by
  have hmk := run_make_terms w
  go_enter Tryz.func32, Tryz.ntmps32
  go_wp2
  go_ret
  exact ⟨rfl, rfl⟩

theorem snew_store (w : World) : ProgStore ((w.alloc (.map #[] 0)).alloc (.cells #[.slice none 0 0, .map (some w.heap.size)] 154)) (w.heap.size + 1) (fun k => k = w.heap.size ∨ k = w.heap.size + 1) [] := by
  have h := row_alloc (w := w.alloc (.map #[] 0)) #[.slice none 0 0, .map (some w.heap.size)] 154 (0, 0)
  refine ⟨_, w.heap.size, .map [], by simpa using h, ownT_nil _, ?_, tab_nil, ⟨.inr rfl, .inl rfl, by omega, fun g hg => by simp [Value.ownBlock] at hg⟩, fun k hk => by simp; omega⟩
  exact (World.ownsMap_made w Tryz.prog 107 (plainElem (H := Unit) Tryz.prog 3)).alloc _
end Go.Proofs.YtedpljclnpiggaaGreatDoor

/-
  Reading a store: Get, is, there, alive, Len.
-/
namespace Go.Proofs.YtedpljclnpiggaaGreatDoor
open Go Go.RowKit

/-- The term of a number. -/
def getT (L : List TermD) (n : Int) : TermD := if thereD L.length n then L.getD (n - 1).toNat zeroT else zeroT

theorem term_facts {W : World} {g : Nat} {t : TermD} (h : W.heap[g]? = some (.cells t.arr 107 (0, 0))) :
    W.cell? ⟨g, 0, none⟩ = some (.int .u8 t.kind) ∧ W.cell? ⟨g, 1, none⟩ = some (.int .i64 t.n) ∧ W.cell? ⟨g, 2, none⟩ = some (.int .i64 t.a) ∧ W.cell? ⟨g, 3, none⟩ = some (.int .i64 t.b) ∧
    W.frozen? ⟨g, 0, none⟩ = false ∧ W.frozen? ⟨g, 1, none⟩ = false ∧ W.frozen? ⟨g, 2, none⟩ = false ∧ W.frozen? ⟨g, 3, none⟩ = false :=
  ⟨(cell_row h 0).trans rfl, (cell_row h 1).trans rfl, (cell_row h 2).trans rfl, (cell_row h 3).trans rfl, free_row h 0, free_row h 1, free_row h 2, free_row h 3⟩

theorem rget_results (tmps : Array Value) (w : World) (g : Nat) (t : TermD) (ok : Bool) (h4 : tmps.getD 4 undef = .pointer (some ⟨g, 0, none⟩)) (h5 : tmps.getD 5 undef = .bool ok)
    (hg : w.heap[g]? = some (.cells t.arr 107 (0, 0))) : (results Tryz.f174 tmps).run Tryz.prog w = .ok (.tuple #[.agg t.arr, .bool ok]) w := by
  have hl := run_loadVar_row (P := Tryz.prog) w g 107 107 t.arr (0, 0) _ hg Tryz.underlying107 rfl (by kernel_rfl)
  have ha : (asAddr (.pointer (some ⟨g, 0, none⟩))).run Tryz.prog w = .ok ⟨g, 0, none⟩ w := by simp [asAddr]
  rw [results_cell_tmp (p := 4) (u := 5) (ty := 107) (by kernel_rfl), h4, h5, ha]
  simp [Result.andThen, hl]

set_option maxRecDepth 100000 in
set_option maxHeartbeats 800000 in
theorem rget_any (s : Nat) (F : Nat → Prop) (L : List TermD) (n : Int) (w : World) (h : RefStore w s F L) (hl : L.length ≤ 2000000) :
    Calls Tryz.prog 174 #[.pointer (some ⟨s, 0, none⟩), .int .i64 n] w fun e w' => e = .returned (.tuple #[.agg (getT L n).arr, .bool (thereD L.length n)]) ∧ Below w.heap.size w w' := by
  have hb1 := (Below.refl w.heap.size w).alloc (Nat.le_refl _) (.cells #[.int .u8 0, .int .i64 0, .int .i64 0, .int .i64 0] 107)
  have h1 := h.kept (Turned.new (fun _ => False) hb1) (fun _ _ h => h)
  have hth := rthere_any s F L n _ h1 hl
  obtain ⟨v, hrow, hown, _⟩ := h1
  obtain ⟨va, vc, rfl, _⟩ := ownT_len hown
  have hres := row_alloc (w := w) #[.int .u8 0, .int .i64 0, .int .i64 0, .int .i64 0] 107 (0, 0)
  have Hres := Lib.hid hres; clear hres
  have c0 : (w.alloc (.cells #[.int .u8 0, .int .i64 0, .int .i64 0, .int .i64 0] 107)).cell? ⟨s, 0, none⟩ = some (.slice va L.length vc) := by rw [cell_row hrow]; rfl
  have Hat := Lib.hid (ownT_at hown)
  have Hb1 := Lib.hid hb1; clear hb1
  clear hrow hown h
  cases ht : thereD L.length n with
  | false =>
    rw [ht] at hth
    have Hth := Lib.hid hth; clear hth
    have hg : getT L n = zeroT := by unfold getT; rw [ht]; rfl
    have Hg := Lib.hid hg; clear hg ht c0
    go_enter Tryz.func174, Tryz.ntmps174
    go_wp2_with (first
      | (go_at_call 278; refine Hth.out.mono ?_; rintro e wx ⟨rfl, rfl⟩))
    refine bodyPost_ret_by (rget_results _ _ w.heap.size zeroT false rfl rfl ?_) rfl ⟨by rw [Hg.out], ?_⟩
    · first | exact Hres.out | exact row_setCell (row_setCell (row_setCell (row_setCell Hres.out _ _) _ _) _ _) _ _
    · first | exact Hb1.out | exact (((Hb1.out.setCell (Nat.le_refl _) _).setCell (Nat.le_refl _) _).setCell (Nat.le_refl _) _).setCell (Nat.le_refl _) _
  | true =>
    rw [ht] at hth
    have Hth := Lib.hid hth; clear hth
    obtain ⟨hn1, hn2⟩ := there_bounds ht
    obtain ⟨i, rfl⟩ : ∃ i : Nat, n = (i : Int) + 1 := ⟨(n - 1).toNat, by omega⟩
    have hi : i < L.length := by omega
    have hg : getT L ((i : Int) + 1) = L.getD i zeroT := by unfold getT; rw [ht]; simp
    obtain ⟨gb, go, rfl, t0, t1, t2, t3⟩ := Hat.out i hi
    dsimp only at t0 t1 t2 t3
    generalize L.getD i zeroT = t at hg t0 t1 t2 t3
    have Hg := Lib.hid hg; clear hg ht
    have hiL : (i : Int) < L.length := by omega
    clear hn1 hn2
    go_enter Tryz.func174, Tryz.ntmps174
    go_wp2_with (first
      | (go_at_call 278; refine Hth.out.mono ?_; rintro e wx ⟨rfl, rfl⟩))
    refine bodyPost_ret_by (rget_results _ _ w.heap.size t true rfl rfl ?_) rfl ⟨by rw [Hg.out], ?_⟩
    · exact row_alloc _ _ _
    · exact (Below.refl _ _).alloc (Nat.le_refl _) _

theorem sget_results (tmps : Array Value) (w : World) (g : Nat) (t : TermD) (ok : Bool) (h4 : tmps.getD 4 undef = .pointer (some ⟨g, 0, none⟩)) (h5 : tmps.getD 5 undef = .bool ok)
    (hg : w.heap[g]? = some (.cells t.arr 107 (0, 0))) : (results Tryz.f43 tmps).run Tryz.prog w = .ok (.tuple #[.agg t.arr, .bool ok]) w := by
  have hl := run_loadVar_row (P := Tryz.prog) w g 107 107 t.arr (0, 0) _ hg Tryz.underlying107 rfl (by kernel_rfl)
  have ha : (asAddr (.pointer (some ⟨g, 0, none⟩))).run Tryz.prog w = .ok ⟨g, 0, none⟩ w := by simp [asAddr]
  rw [results_cell_tmp (p := 4) (u := 5) (ty := 107) (by kernel_rfl), h4, h5, ha]
  simp [Result.andThen, hl]

set_option maxRecDepth 100000 in
set_option maxHeartbeats 800000 in
theorem sget_any (s : Nat) (F : Nat → Prop) (L : List TermD) (n : Int) (w : World) (h : ProgStore w s F L) (hl : L.length ≤ 2000000) :
    Calls Tryz.prog 43 #[.pointer (some ⟨s, 0, none⟩), .int .i64 n] w fun e w' => e = .returned (.tuple #[.agg (getT L n).arr, .bool (thereD L.length n)]) ∧ Below w.heap.size w w' := by
  have hb1 := (Below.refl w.heap.size w).alloc (Nat.le_refl _) (.cells #[.int .u8 0, .int .i64 0, .int .i64 0, .int .i64 0] 107)
  have h1 := h.kept (Turned.new (fun _ => False) hb1) (fun _ _ h => h)
  have hth := sthere_any s F L n _ h1 hl
  have hmade := smade_any s F L _ h1
  have Hmade := Lib.hid hmade; clear hmade
  obtain ⟨v, mb, D, hrow, hown, _⟩ := h1
  obtain ⟨va, vc, rfl, _⟩ := ownT_len hown
  have hres := row_alloc (w := w) #[.int .u8 0, .int .i64 0, .int .i64 0, .int .i64 0] 107 (0, 0)
  have Hres := Lib.hid hres; clear hres
  have c0 : (w.alloc (.cells #[.int .u8 0, .int .i64 0, .int .i64 0, .int .i64 0] 107)).cell? ⟨s, 0, none⟩ = some (.slice va L.length vc) := by rw [cell_row hrow]; rfl
  have Hat := Lib.hid (ownT_at hown)
  have Hb1 := Lib.hid hb1; clear hb1
  clear hrow hown h
  cases ht : thereD L.length n with
  | false =>
    rw [ht] at hth
    have Hth := Lib.hid hth; clear hth
    have hg : getT L n = zeroT := by unfold getT; rw [ht]; rfl
    have Hg := Lib.hid hg; clear hg ht c0
    go_enter Tryz.func43, Tryz.ntmps43
    go_wp2_with (first
      | (go_at_call 170; refine Hmade.out.mono ?_; rintro e wx ⟨rfl, rfl⟩)
      | (go_at_call 175; refine Hth.out.mono ?_; rintro e wx ⟨rfl, rfl⟩))
    refine bodyPost_ret_by (sget_results _ _ w.heap.size zeroT false rfl rfl ?_) rfl ⟨by rw [Hg.out], ?_⟩
    · first | exact Hres.out | exact row_setCell (row_setCell (row_setCell (row_setCell Hres.out _ _) _ _) _ _) _ _
    · first | exact Hb1.out | exact (((Hb1.out.setCell (Nat.le_refl _) _).setCell (Nat.le_refl _) _).setCell (Nat.le_refl _) _).setCell (Nat.le_refl _) _
  | true =>
    rw [ht] at hth
    have Hth := Lib.hid hth; clear hth
    obtain ⟨hn1, hn2⟩ := there_bounds ht
    obtain ⟨i, rfl⟩ : ∃ i : Nat, n = (i : Int) + 1 := ⟨(n - 1).toNat, by omega⟩
    have hi : i < L.length := by omega
    have hg : getT L ((i : Int) + 1) = L.getD i zeroT := by unfold getT; rw [ht]; simp
    obtain ⟨gb, go, rfl, t0, t1, t2, t3⟩ := Hat.out i hi
    dsimp only at t0 t1 t2 t3
    generalize L.getD i zeroT = t at hg t0 t1 t2 t3
    have Hg := Lib.hid hg; clear hg ht
    have hiL : (i : Int) < L.length := by omega
    clear hn1 hn2
    go_enter Tryz.func43, Tryz.ntmps43
    go_wp2_with (first
      | (go_at_call 170; refine Hmade.out.mono ?_; rintro e wx ⟨rfl, rfl⟩)
      | (go_at_call 175; refine Hth.out.mono ?_; rintro e wx ⟨rfl, rfl⟩))
    refine bodyPost_ret_by (sget_results _ _ w.heap.size t true rfl rfl ?_) rfl ⟨by rw [Hg.out], ?_⟩
    · exact row_alloc _ _ _
    · exact (Below.refl _ _).alloc (Nat.le_refl _) _

set_option maxRecDepth 100000 in
theorem ris_any (s : Nat) (F : Nat → Prop) (L : List TermD) (n : Int) (w : World) (h : RefStore w s F L) (hl : L.length ≤ 2000000) :
    Calls Tryz.prog 39 #[.pointer (some ⟨s, 0, none⟩), .int .i64 n] w fun e w' => e = .returned (.bool (thereD L.length n)) ∧ Below w.heap.size w w' := by
  have hget := rget_any s F L n w h hl
  unfold TermD.arr at hget
  generalize getT L n = t at hget
  have Hget := Lib.hid hget; clear hget h
  go_enter Tryz.func39, Tryz.ntmps39
  go_wp2_with fail
  refine Hget.out.mono ?_
  rintro e w1 ⟨rfl, hb1⟩
  have Hb1 := Lib.hid hb1; clear hb1
  go_wp2
  go_ret
  exact ⟨rfl, by first | exact Hb1.out.alloc Hb1.out.size _ | exact (((((Hb1.out.alloc Hb1.out.size _).setCell (p := ⟨w1.heap.size, 0, none⟩) Hb1.out.size _).setCell (p := ⟨w1.heap.size, 1, none⟩) Hb1.out.size _).setCell (p := ⟨w1.heap.size, 2, none⟩) Hb1.out.size _).setCell (p := ⟨w1.heap.size, 3, none⟩) Hb1.out.size _)⟩

set_option maxRecDepth 100000 in
theorem sis_any (s : Nat) (F : Nat → Prop) (L : List TermD) (n : Int) (w : World) (h : ProgStore w s F L) (hl : L.length ≤ 2000000) :
    Calls Tryz.prog 37 #[.pointer (some ⟨s, 0, none⟩), .int .i64 n] w fun e w' => e = .returned (.bool (thereD L.length n)) ∧ Below w.heap.size w w' := by
  have hget := sget_any s F L n w h hl
  unfold TermD.arr at hget
  generalize getT L n = t at hget
  have Hget := Lib.hid hget; clear hget h
  go_enter Tryz.func37, Tryz.ntmps37
  go_wp2_with fail
  refine Hget.out.mono ?_
  rintro e w1 ⟨rfl, hb1⟩
  have Hb1 := Lib.hid hb1; clear hb1
  go_wp2
  go_ret
  exact ⟨rfl, by first | exact Hb1.out.alloc Hb1.out.size _ | exact (((((Hb1.out.alloc Hb1.out.size _).setCell (p := ⟨w1.heap.size, 0, none⟩) Hb1.out.size _).setCell (p := ⟨w1.heap.size, 1, none⟩) Hb1.out.size _).setCell (p := ⟨w1.heap.size, 2, none⟩) Hb1.out.size _).setCell (p := ⟨w1.heap.size, 3, none⟩) Hb1.out.size _)⟩

end Go.Proofs.YtedpljclnpiggaaGreatDoor

/-
  alive, Len, and Node of both sides.
-/
namespace Go.Proofs.YtedpljclnpiggaaGreatDoor
open Go Go.RowKit

set_option maxRecDepth 100000 in
theorem slist_none (s : Nat) (F : Nat → Prop) (L : List TermD) (w : World) (h : ProgStore w s F L) :
    Calls Tryz.prog 173 #[.pointer (some ⟨s, 0, none⟩), .slice none 0 0] w fun e w' => e = .returned (.tuple #[.int .i64 0, .int .i64 0]) ∧ w' = w := by
  have Hm := Lib.hid (smade_any s F L w h); clear h
  go_enter Tryz.func173, Tryz.ntmps173
  go_wp2_with (go_at_call 170; refine Hm.out.mono ?_; rintro e wx ⟨rfl, rfl⟩)
  refine wp_loop_rounds 1 ?_
  rw [rounds_succ]
  go_wp2
  go_ret2
  exact ⟨rfl, rfl⟩

theorem slist_nil (w : World) :
    Calls Tryz.prog 173 #[.pointer none, .slice none 0 0] w fun e w' => e = .returned (.tuple #[.int .i64 0, .int .i64 2]) ∧ w' = w := by
  have Hm := Lib.hid (smade_nil w)
  go_enter Tryz.func173, Tryz.ntmps173
  go_wp2_with (go_at_call 170; refine Hm.out.mono ?_; rintro e wx ⟨rfl, rfl⟩)
  go_ret2
  exact ⟨rfl, rfl⟩

theorem palive_any (s : Nat) (F : Nat → Prop) (L : List TermD) (w : World) (h : ProgStore w s F L) :
    Calls Tryz.prog 36 #[.pointer (some ⟨s, 0, none⟩)] w fun e w' => e = .returned (.bool true) ∧ w' = w := by
  have Hm := Lib.hid (slist_none s F L w h); clear h
  go_enter Tryz.func36, Tryz.ntmps36
  go_wp2_with (go_at_call 173; refine Hm.out.mono ?_; rintro e wx ⟨rfl, rfl⟩)
  go_ret
  exact ⟨rfl, rfl⟩

theorem palive_nil (w : World) :
    Calls Tryz.prog 36 #[.pointer none] w fun e w' => e = .returned (.bool false) ∧ w' = w := by
  have Hm := Lib.hid (slist_nil w)
  go_enter Tryz.func36, Tryz.ntmps36
  go_wp2_with (go_at_call 173; refine Hm.out.mono ?_; rintro e wx ⟨rfl, rfl⟩)
  go_ret
  exact ⟨rfl, rfl⟩

theorem slen_any (s : Nat) (F : Nat → Prop) (L : List TermD) (w : World) (h : ProgStore w s F L) :
    Calls Tryz.prog 42 #[.pointer (some ⟨s, 0, none⟩)] w fun e w' => e = .returned (.int .i64 L.length) ∧ w' = w := by
  have Hm := Lib.hid (smade_any s F L w h)
  obtain ⟨v, mb, D, hrow, hown, _⟩ := h
  obtain ⟨va, vc, rfl, _⟩ := ownT_len hown
  have c0 : w.cell? ⟨s, 0, none⟩ = some (.slice va L.length vc) := by rw [cell_row hrow]; rfl
  clear hrow hown
  go_enter Tryz.func42, Tryz.ntmps42
  go_wp2_with (go_at_call 170; refine Hm.out.mono ?_; rintro e wx ⟨rfl, rfl⟩)
  go_ret
  exact ⟨rfl, rfl⟩

theorem ret3 {x y z a b c : Int} (h1 : x = a) (h2 : y = b) (h3 : z = c) : Ending.returned (.tuple #[.int .i64 x, .int .i64 y, .int .i64 z]) = .returned (.tuple #[.int .i64 a, .int .i64 b, .int .i64 c]) := by rw [h1, h2, h3]

theorem RefStore.new {w w' : World} {r : Nat} {F : Nat → Prop} {L : List TermD} (h : RefStore w r F L) (hb : Below w.heap.size w w') : RefStore w' r F L := h.kept (Turned.new (fun _ => False) hb) (fun _ _ h => h)
theorem ProgStore.new {w w' : World} {s : Nat} {F : Nat → Prop} {L : List TermD} (h : ProgStore w s F L) (hb : Below w.heap.size w w') : ProgStore w' s F L := h.kept (Turned.new (fun _ => False) hb) (fun _ _ h => h)

/-- Two steps' footprints. -/
theorem foot_trans {F F' F'' : Nat → Prop} {a b c : World} (hx : Ext F F' a b) (hT : Turned F a b) (hx' : Ext F' F'' b c) (hT' : Turned F' b c) : Ext F F'' a c ∧ Turned F a c :=
  ⟨hx.trans hx' hT.size hT'.size, hT.trans hT' (fun k hk h => (hx k h).elim id (fun h2 => absurd h2.1 (Nat.not_le_of_lt hk)))⟩

set_option maxRecDepth 100000 in
set_option maxHeartbeats 800000 in
theorem rnode_any (r : Nat) (F : Nat → Prop) (L : List TermD) (x : Int) (hG : Good L) (hl : L.length ≤ 5000) (w : World) (h : RefStore w r F L) :
    Calls Tryz.prog 10 #[.pointer (some ⟨r, 0, none⟩), .int .i64 x] w (RPost r F (nodeT L x) (.tuple #[.int .i64 (nodeK L x), .int .i64 (nodeP L x), .int .i64 (nodeE L x)]) w) := by
  have his := ris_any r F L x w h (by omega)
  cases hx : thereD L.length x with
  | false =>
    rw [hx] at his
    have His := Lib.hid his; clear his
    have hk : nodeK L x = 0 ∧ nodeP L x = 0 ∧ nodeE L x = 1 ∧ nodeT L x = L := by unfold nodeK nodeP nodeE nodeT; rw [hx]; simp
    have Hk := Lib.hid hk; clear hk hx
    have H := Lib.hid h; clear h
    go_enter Tryz.func10, Tryz.ntmps10
    go_wp2_with fail
    refine His.out.mono ?_
    rintro e w1 ⟨rfl, hb1⟩
    have Hb1 := Lib.hid hb1; clear hb1
    go_wp2
    go_ret3
    exact ⟨ret3 Hk.out.1.symm Hk.out.2.1.symm Hk.out.2.2.1.symm, F, Ext.refl _ _ _, by rw [Hk.out.2.2.2]; exact H.out.new Hb1.out, Turned.new F Hb1.out⟩
  | true =>
    rw [hx] at his
    have His := Lib.hid his; clear his
    have hk : nodeK L x = makeN L (kdfT 2 x) ∧ nodeP L x = makeN (makeL L (kdfT 2 x)) (pubT (makeN L (kdfT 2 x))) ∧ nodeE L x = 0 ∧ nodeT L x = makeL (makeL L (kdfT 2 x)) (pubT (makeN L (kdfT 2 x))) := by unfold nodeK nodeP nodeE nodeT; rw [hx]; simp
    have hm := make_ok (may_kdf (label := 2) (by omega) hx) (by omega : L.length < 1048576)
    have h1 := makeL_len L (kdfT 2 x)
    have hk1 : (kdfT 2 x).ok := kdf_ok (by simp [i64ok]) (there_i64 hx (by omega))
    have hk2 : (pubT (makeN L (kdfT 2 x))).ok := pub_ok (there_i64 hm.2 (by omega))
    have hkdf := fun W hW => rkdf_any r F L 2 x 0 hk1 hG (by omega) W hW
    have hpub := fun F' W hW => rpub_any r F' (makeL L (kdfT 2 x)) (makeN L (kdfT 2 x)) hk2 (hG.make hk1) (by omega) W hW
    have Hk := Lib.hid hk; clear hk hm h1 hk1 hk2
    change ∀ W, RefStore W r F L → Calls _ _ _ _ (RPost r F (makeL L (kdfT 2 x)) (.int .i64 (makeN L (kdfT 2 x))) W) at hkdf
    change ∀ F' W, RefStore W r F' (makeL L (kdfT 2 x)) → Calls _ _ _ _ (RPost r F' (makeL (makeL L (kdfT 2 x)) (pubT (makeN L (kdfT 2 x)))) (.int .i64 (makeN (makeL L (kdfT 2 x)) (pubT (makeN L (kdfT 2 x))))) W) at hpub
    generalize makeN (makeL L (kdfT 2 x)) (pubT (makeN L (kdfT 2 x))) = pv at Hk hpub
    generalize makeN L (kdfT 2 x) = kv at Hk hkdf hpub
    have Hkdf := Lib.hid hkdf; clear hkdf
    have Hpub := Lib.hid hpub; clear hpub hx
    have H := Lib.hid h; clear h
    go_enter Tryz.func10, Tryz.ntmps10
    go_wp2_with fail
    refine His.out.mono ?_
    rintro e w1 ⟨rfl, hb1⟩
    have Hb1 := Lib.hid hb1; clear hb1
    go_wp2_with fail
    refine (Hkdf.out _ (H.out.new Hb1.out)).mono ?_
    rintro e w2 ⟨rfl, F1, hx1, hs1, hT1⟩
    have Hx1 := Lib.hid hx1; clear hx1
    have Hs1 := Lib.hid hs1; clear hs1
    have HT1 := Lib.hid hT1; clear hT1
    go_wp2_with fail
    refine (Hpub.out F1 _ Hs1.out).mono ?_
    rintro e w3 ⟨rfl, F2, hx2, hs2, hT2⟩
    have Hx2 := Lib.hid hx2; clear hx2
    have Hs2 := Lib.hid hs2; clear hs2
    have HT2 := Lib.hid hT2; clear hT2
    go_wp2
    go_ret3
    obtain ⟨a1, a2⟩ := foot_trans (Ext.refl F w w1) (Turned.new F Hb1.out) Hx1.out HT1.out
    obtain ⟨a3, a4⟩ := foot_trans a1 a2 Hx2.out HT2.out
    exact ⟨ret3 Hk.out.1.symm Hk.out.2.1.symm Hk.out.2.2.1.symm, F2, a3, by rw [Hk.out.2.2.2]; exact Hs2.out, a4⟩

set_option maxRecDepth 100000 in
set_option maxHeartbeats 800000 in
theorem snode_any (s : Nat) (F : Nat → Prop) (L : List TermD) (x : Int) (hG : Good L) (hl : L.length ≤ 5000) (w : World) (h : ProgStore w s F L) :
    Calls Tryz.prog 9 #[.pointer (some ⟨s, 0, none⟩), .int .i64 x] w (SPost s F (nodeT L x) (.tuple #[.int .i64 (nodeK L x), .int .i64 (nodeP L x), .int .i64 (nodeE L x)]) w) := by
  have hal := palive_any s F L w h
  have Hal := Lib.hid hal; clear hal
  have his := sis_any s F L x w h (by omega)
  cases hx : thereD L.length x with
  | false =>
    rw [hx] at his
    have His := Lib.hid his; clear his
    have hk : nodeK L x = 0 ∧ nodeP L x = 0 ∧ nodeE L x = 1 ∧ nodeT L x = L := by unfold nodeK nodeP nodeE nodeT; rw [hx]; simp
    have Hk := Lib.hid hk; clear hk hx
    have H := Lib.hid h; clear h
    go_enter Tryz.func9, Tryz.ntmps9
    go_wp2_with fail
    refine Hal.out.mono ?_
    rintro e wx ⟨rfl, hwx⟩; subst wx
    go_wp2_with fail
    refine His.out.mono ?_
    rintro e w1 ⟨rfl, hb1⟩
    have Hb1 := Lib.hid hb1; clear hb1
    go_wp2
    go_ret3
    exact ⟨ret3 Hk.out.1.symm Hk.out.2.1.symm Hk.out.2.2.1.symm, F, Ext.refl _ _ _, by rw [Hk.out.2.2.2]; exact H.out.new Hb1.out, Turned.new F Hb1.out⟩
  | true =>
    rw [hx] at his
    have His := Lib.hid his; clear his
    have hk : nodeK L x = makeN L (kdfT 2 x) ∧ nodeP L x = makeN (makeL L (kdfT 2 x)) (pubT (makeN L (kdfT 2 x))) ∧ nodeE L x = 0 ∧ nodeT L x = makeL (makeL L (kdfT 2 x)) (pubT (makeN L (kdfT 2 x))) := by unfold nodeK nodeP nodeE nodeT; rw [hx]; simp
    have hm := make_ok (may_kdf (label := 2) (by omega) hx) (by omega : L.length < 1048576)
    have h1 := makeL_len L (kdfT 2 x)
    have hk1 : (kdfT 2 x).ok := kdf_ok (by simp [i64ok]) (there_i64 hx (by omega))
    have hk2 : (pubT (makeN L (kdfT 2 x))).ok := pub_ok (there_i64 hm.2 (by omega))
    have hm2 := make_ok (may_pub hm.2) (by omega : (makeL L (kdfT 2 x)).length < 1048576)
    have hkdf := fun W hW => derived_any s F L 2 x hk1 hG (by omega) W hW
    have hpub := fun F' W hW => smake_any s F' (makeL L (kdfT 2 x)) (pubT (makeN L (kdfT 2 x))) hk2 (hG.make hk1) (by omega) W hW
    have Hk := Lib.hid hk; clear hk h1 hk1 hk2
    change ∀ W, ProgStore W s F L → Calls _ _ _ _ (SPost s F (makeL L (kdfT 2 x)) (.tuple #[.int .i64 (makeN L (kdfT 2 x)), .int .i64 (makeE L (kdfT 2 x))]) W) at hkdf
    unfold SMakePost at hpub
    rw [hm.1] at hkdf
    rw [hm2.1] at hpub
    generalize makeN (makeL L (kdfT 2 x)) (pubT (makeN L (kdfT 2 x))) = pv at Hk hpub
    unfold pubT at hpub
    dsimp only at hpub
    have hkeep : nodeT L x = makeL (makeL L (kdfT 2 x)) ⟨5, 0, makeN L (kdfT 2 x), 0⟩ := Hk.out.2.2.2
    have Hkeep := Lib.hid hkeep; clear hkeep
    have Hk1 := Lib.hid Hk.out.1
    have Hk2 := Lib.hid Hk.out.2.1
    have Hk3 := Lib.hid Hk.out.2.2.1
    clear Hk hm hm2
    generalize makeN L (kdfT 2 x) = kv at Hk1 hkdf hpub Hkeep
    have Hkdf := Lib.hid hkdf; clear hkdf
    have Hpub := Lib.hid hpub; clear hpub hx
    have H := Lib.hid h; clear h
    go_enter Tryz.func9, Tryz.ntmps9
    go_wp2_with fail
    refine Hal.out.mono ?_
    rintro e wx ⟨rfl, hwx⟩; subst wx
    go_wp2_with fail
    refine His.out.mono ?_
    rintro e w1 ⟨rfl, hb1⟩
    have Hb1 := Lib.hid hb1; clear hb1
    go_wp2_with fail
    refine (Hkdf.out _ (H.out.new Hb1.out)).mono ?_
    rintro e w2 ⟨rfl, F1, hx1, hs1, hT1⟩
    have Hx1 := Lib.hid hx1; clear hx1
    have Hs1 := Lib.hid hs1; clear hs1
    have HT1 := Lib.hid hT1; clear hT1
    go_wp2_with fail
    refine (Hpub.out F1 _ Hs1.out).mono ?_
    rintro e w3 ⟨rfl, F2, hx2, hs2, hT2⟩
    have Hx2 := Lib.hid hx2; clear hx2
    have Hs2 := Lib.hid hs2; clear hs2
    have HT2 := Lib.hid hT2; clear hT2
    go_wp2
    go_ret3
    obtain ⟨a1, a2⟩ := foot_trans (Ext.refl F w w1) (Turned.new F Hb1.out) Hx1.out HT1.out
    obtain ⟨a3, a4⟩ := foot_trans a1 a2 Hx2.out HT2.out
    exact ⟨ret3 Hk1.out.symm Hk2.out.symm Hk3.out.symm, F2, a3, by rw [Hkeep.out]; exact Hs2.out, a4⟩
end Go.Proofs.YtedpljclnpiggaaGreatDoor
