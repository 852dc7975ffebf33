/-
  Derivations: Kdf, Pub (the document's), derived (the program's); the new stores.
-/
import Derived.Test.YtagccbpjpcnmeaaGreatDoorQSMake
set_option linter.unusedVariables false
set_option linter.unusedSimpArgs false
namespace Go.Proofs.YtagccbpjpcnmeaaGreatDoor
open Go Go.RowKit

/-- What a call leaves that answers numbers and makes terms, of the document's store. -/
def RPost (r : Nat) (F : Nat → Prop) (L' : List TermD) (v : Value) (w : World) (e : Ending) (w' : World) : Prop :=
  e = .returned v ∧ ∃ F', Ext F F' w w' ∧ RefStore w' r F' L' ∧ Turned F w w'
/-- .. of the program's. -/
def SPost (s : Nat) (F : Nat → Prop) (L' : List TermD) (v : Value) (w : World) (e : Ending) (w' : World) : Prop :=
  e = .returned v ∧ ∃ F', Ext F F' w w' ∧ ProgStore w' s F' L' ∧ Turned F w w'

set_option maxRecDepth 100000 in
theorem rkdf_any (r : Nat) (F : Nat → Prop) (L : List TermD) (label x c : Int) (ht : (⟨4, label, x, c⟩ : TermD).ok) (hG : Good L) (hl : L.length < 1048576) (w : World) (h : RefStore w r F L) :
    Calls Tryz.prog 108 #[.pointer (some ⟨r, 0, none⟩), .int .i64 label, .int .i64 x, .int .i64 c] w (RPost r F (makeL L ⟨4, label, x, c⟩) (.int .i64 (makeN L ⟨4, label, x, c⟩)) w) := by
  have hmake := fun W hW => rmake_any r F L ⟨4, label, x, c⟩ ht hG hl W hW
  have Hmake := Lib.hid hmake; clear hmake
  have H := Lib.hid h; clear h
  have Hl := Lib.hid hl; clear hl
  clear hG ht
  go_enter Tryz.func108, Tryz.ntmps108
  go_wp2_with fail
  refine (Hmake.out _ H.out).mono ?_
  rintro e w1 ⟨rfl, F', hx, hs, hT⟩
  have Hx := Lib.hid hx; clear hx
  have Hs := Lib.hid hs; clear hs
  have HT := Lib.hid hT; clear hT
  go_wp2
  go_ret
  exact ⟨rfl, F', Hx.out, Hs.out, HT.out⟩

set_option maxRecDepth 100000 in
theorem rpub_any (r : Nat) (F : Nat → Prop) (L : List TermD) (x : Int) (ht : (⟨5, 0, x, 0⟩ : TermD).ok) (hG : Good L) (hl : L.length < 1048576) (w : World) (h : RefStore w r F L) :
    Calls Tryz.prog 51 #[.pointer (some ⟨r, 0, none⟩), .int .i64 x] w (RPost r F (makeL L ⟨5, 0, x, 0⟩) (.int .i64 (makeN L ⟨5, 0, x, 0⟩)) w) := by
  have hmake := fun W hW => rmake_any r F L ⟨5, 0, x, 0⟩ ht hG hl W hW
  have Hmake := Lib.hid hmake; clear hmake
  have H := Lib.hid h; clear h
  have Hl := Lib.hid hl; clear hl
  clear hG ht
  go_enter Tryz.func51, Tryz.ntmps51
  go_wp2_with fail
  refine (Hmake.out _ H.out).mono ?_
  rintro e w1 ⟨rfl, F', hx, hs, hT⟩
  have Hx := Lib.hid hx; clear hx
  have Hs := Lib.hid hs; clear hs
  have HT := Lib.hid hT; clear hT
  go_wp2
  go_ret
  exact ⟨rfl, F', Hx.out, Hs.out, HT.out⟩

set_option maxRecDepth 100000 in
theorem derived_any (s : Nat) (F : Nat → Prop) (L : List TermD) (label x : Int) (ht : (⟨4, label, x, 0⟩ : TermD).ok) (hG : Good L) (hl : L.length < 1048576) (w : World) (h : ProgStore w s F L) :
    Calls Tryz.prog 151 #[.pointer (some ⟨s, 0, none⟩), .int .i64 label, .int .i64 x] w (SPost s F (makeL L ⟨4, label, x, 0⟩) (.tuple #[.int .i64 (makeN L ⟨4, label, x, 0⟩), .int .i64 (makeE L ⟨4, label, x, 0⟩)]) w) := by
  have hmake := fun W hW => smake_any s F L ⟨4, label, x, 0⟩ ht hG hl W hW
  have Hmake := Lib.hid hmake; clear hmake
  have H := Lib.hid h; clear h
  have Hl := Lib.hid hl; clear hl
  clear hG ht
  go_enter Tryz.func151, Tryz.ntmps151
  go_wp2_with fail
  refine (Hmake.out _ H.out).mono ?_
  rintro e w1 ⟨rfl, F', hx, hs, hT⟩
  have Hx := Lib.hid hx; clear hx
  have Hs := Lib.hid hs; clear hs
  have HT := Lib.hid hT; clear hT
  go_wp2
  go_ret2
  exact ⟨rfl, F', Hx.out, Hs.out, HT.out⟩

theorem ownT_nil (w : World) : OwnT (.slice none 0 0) [] w := ⟨rfl, .inl ⟨rfl, rfl⟩⟩

theorem rnew_any (w : World) : Calls Tryz.prog 25 #[] w fun e w' => e = .returned (.pointer (some ⟨w.heap.size, 0, none⟩)) ∧ w' = w.alloc (.cells #[.slice none 0 0] 134) := by
  go_enter Tryz.func25, Tryz.ntmps25
  go_wp2
  go_ret
  exact ⟨rfl, rfl⟩

theorem rnew_store (w : World) : RefStore (w.alloc (.cells #[.slice none 0 0] 134)) w.heap.size (fun k => k = w.heap.size) [] :=
  ⟨_, row_alloc _ _ _, ownT_nil _, ⟨rfl, fun g hg => by simp [Value.ownBlock] at hg⟩, fun k hk => by subst hk; simp⟩

theorem run_make_terms (w : World) : (Instr.makeMap 102 none).run Tryz.prog w = .ok (.map (some w.heap.size)) (w.alloc (.map #[] 0)) := by kernel_rfl

theorem snew_any (w : World) : Calls Tryz.prog 24 #[] w fun e w' => e = .returned (.pointer (some ⟨w.heap.size + 1, 0, none⟩)) ∧ w' = (w.alloc (.map #[] 0)).alloc (.cells #[.slice none 0 0, .map (some w.heap.size)] 104) := by
  have hmk := run_make_terms w
  go_enter Tryz.func24, Tryz.ntmps24
  go_wp2
  go_ret
  exact ⟨rfl, rfl⟩

theorem snew_store (w : World) : ProgStore ((w.alloc (.map #[] 0)).alloc (.cells #[.slice none 0 0, .map (some w.heap.size)] 104)) (w.heap.size + 1) (fun k => k = w.heap.size ∨ k = w.heap.size + 1) [] := by
  have h := row_alloc (w := w.alloc (.map #[] 0)) #[.slice none 0 0, .map (some w.heap.size)] 104 (0, 0)
  refine ⟨_, w.heap.size, .map [], by simpa using h, ownT_nil _, ?_, tab_nil, ⟨.inr rfl, .inl rfl, by omega, fun g hg => by simp [Value.ownBlock] at hg⟩, fun k hk => by simp; omega⟩
  exact (World.ownsMap_made w Tryz.prog 95 (plainElem (H := Unit) Tryz.prog 3)).alloc _
end Go.Proofs.YtagccbpjpcnmeaaGreatDoor
