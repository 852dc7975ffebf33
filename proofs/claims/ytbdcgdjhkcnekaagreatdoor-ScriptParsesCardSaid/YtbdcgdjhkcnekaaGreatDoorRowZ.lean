/-
  What the row's list gives; a world for the witness.
-/
import Derived.Test.YtbdcgdjhkcnekaaGreatDoorCards
import Derived.Test.YtbdcgdjhkcnekaaGreatDoorTie
import Derived.Test.YtbdcgdjhkcnekaaGreatDoorEnv
import Derived.Test.YtbdcgdjhkcnekaaGreatDoorLaidZ
import Derived.ProofKit
import Derived.Deep.DeepHandedRow
import Derived.Deep.DeepWitnessRowRef
import Derived.Lib.LaidIn
import Derived.Stop.LaidErr
import Derived.KernelRfl
namespace Go.Proofs.YtbdcgdjhkcnekaaGreatDoor
open Go Go.ChangeShapes Go.WideShapes Go.ChangeAt Go.RowKit

theorem own : ownKnob Tryz.prog.godebug = none := by kernel_rfl
theorem laidOut : laidOutB Tryz.prog = true := by kernel_rfl

theorem star : "*" ++ "errors.errorString" = "*errors.errorString" := by decide
theorem rowErr (u : TypeId) (h : Tryz.prog.typeName? 3 u = some "*errors.errorString") : u = 417 :=
  typeName_ptr_named (nm := "errors.errorString") (by rw [star]; kernel_rfl) (by kernel_rfl) (by decide) u (by rw [star]; exact h)

/-- A list with one of its rows in front. -/
theorem laid_pow {W : World} (h : laidMet Tryz.prog laidL W) : Lib.TabIs Tryz.prog W "internal/strconv.uint64pow10" .u64 Lib.pow10Tab := by
  have h2 := h.tail.tail
  rw [show (Rows.laid_internal_strconv_uint64pow10 : DataW Unit) = Lib.tabData .u64 Lib.pow10Tab from by kernel_rfl] at h2
  exact Lib.tabIs_of_head (g := 5) (t := 411) (by kernel_rfl) (by kernel_rfl) Tryz.underlying411 Tryz.underlying376 (by kernel_rfl) (by kernel_rfl) h2
theorem laid_space {W : World} (h : laidMet Tryz.prog laidL W) : Lib.TabIs Tryz.prog W "strings.asciiSpace" .u8 Lib.asciiSpaceTab := by
  have h2 := h.tail.tail.tail.tail.tail.tail.tail
  rw [show (Rows.laid_strings_asciiSpace : DataW Unit) = Lib.tabData .u8 Lib.asciiSpaceTab from by kernel_rfl] at h2
  exact Lib.tabIs_of_head (g := 0) (t := 359) (by kernel_rfl) (by kernel_rfl) Tryz.underlying359 Tryz.underlying5 (by kernel_rfl) (by kernel_rfl) h2
theorem laid_rang {W : World} (h : laidMet Tryz.prog laidL W) : ∃ t p, W.var? Tryz.prog "strconv.ErrRange" = some #[.iface t p] := by
  have h2 := h.tail.tail.tail.tail
  obtain ⟨a, s, h3, _⟩ := laid_sentinel (g := 4) (ti := 86) h2 (by kernel_rfl) (by kernel_rfl) Tryz.underlying86 rowErr Tryz.underlying417 Tryz.underlying419 rfl rfl Tryz.underlying9 (by kernel_rfl) (by kernel_rfl)
  exact ⟨_, _, h3⟩
theorem laid_synt {W : World} (h : laidMet Tryz.prog laidL W) : ∃ t p, W.var? Tryz.prog "strconv.ErrSyntax" = some #[.iface t p] := by
  have h2 := h.tail.tail.tail.tail.tail
  obtain ⟨a, s, h3, _⟩ := laid_sentinel (g := 3) (ti := 86) h2 (by kernel_rfl) (by kernel_rfl) Tryz.underlying86 rowErr Tryz.underlying417 Tryz.underlying419 rfl rfl Tryz.underlying9 (by kernel_rfl) (by kernel_rfl)
  exact ⟨_, _, h3⟩

theorem size_ok {W : World} (h : W.ShapedOpen Tryz.prog) : 9 < W.heap.size := by
  obtain ⟨o, _, h1, _⟩ := h.2 11 (of_decide_eq_true (by kernel_rfl)) (of_decide_eq_true (by kernel_rfl))
  have := (Array.getElem?_eq_some_iff.1 h1).1
  omega

theorem env_of {W : World} (hL : laidMetH Tryz.prog laidL W) (hsh : W.ShapedOpen Tryz.prog) : Env W := by
  have h : laidMet Tryz.prog laidL W := hL
  exact ⟨laid_pow h, laid_space h, Tryz.laysM145.s1_3 W hsh, laid_synt h, laid_rang h, size_ok hsh⟩

end Go.Proofs.YtbdcgdjhkcnekaaGreatDoor
