/-
  What the library's variables hold, and the library's contracts in the words of these texts.
-/
import Derived.Test.YtbdcgdjhkcnekaaGreatDoorShelf
import Derived.Test.YtbdcgdjhkcnekaaGreatDoorBld
import Derived.Test.YtbdcgdjhkcnekaaGreatDoorWords
import Derived.WalkSmall
import Derived.Lib.LaidTab
import Derived.Lib.Space
namespace Go.Proofs.YtbdcgdjhkcnekaaGreatDoor
open Go Go.RowKit

structure Env (W : World) : Prop where
  pow : Lib.TabIs Tryz.prog W "internal/strconv.uint64pow10" .u64 Lib.pow10Tab
  space : Lib.TabIs Tryz.prog W "strings.asciiSpace" .u8 Lib.asciiSpaceTab
  max : ∃ m, W.cell? ⟨2, 0, none⟩ = some (.int .i64 m)
  synt : ∃ t p, W.var? Tryz.prog "strconv.ErrSyntax" = some #[.iface t p]
  rang : ∃ t p, W.var? Tryz.prog "strconv.ErrRange" = some #[.iface t p]
  size : 9 < W.heap.size

theorem Env.below {W W' : World} {B : Nat} (h : Env W) (hb : Below B W W') (hB : 9 < B) : Env W' := by
  obtain ⟨h1, h2, ⟨m, h3⟩, ⟨t, p, h4⟩, ⟨t', p', h5⟩, h6⟩ := h
  have hs := hb.size
  exact ⟨var?_below (g := 5) hb (by kernel_rfl) (by omega) h1, var?_below (g := 0) hb (by kernel_rfl) (by omega) h2,
    ⟨m, (hb.cell (p := ⟨2, 0, none⟩) (by simp only; omega)).trans h3⟩, ⟨t, p, var?_below (g := 3) hb (by kernel_rfl) (by omega) h4⟩, ⟨t', p', var?_below (g := 4) hb (by kernel_rfl) (by omega) h5⟩, by omega⟩

theorem Env.grows {W W' : World} (h : Env W) (hb : Grows W W') : Env W' := h.below hb h.size

theorem fmt_any (n : Int) (h0 : -9223372036854775808 ≤ n) (h1 : n ≤ 9223372036854775807) (w : World) (he : Env w) :
    Calls Tryz.prog 120 #[.int .i64 n, .int .i64 10] w fun e w' => e = .returned (.string ⟨(Lib.itoa n).toArray⟩) ∧ Grows w w' :=
  (Tryz.strconv_FormatInt_10 n h0 h1 w he.pow).mono fun e w' ⟨h2, k, os, h3⟩ => ⟨h2, by
    rw [h3]
    exact ⟨rfl, rfl, rfl, by simp [Sort.grow, World.drewN], fun i hi => by
      show (w.heap ++ os)[i]? = _
      rw [Array.getElem?_append_left hi]⟩⟩

abbrev Bld (b : Nat) (acc : List UInt8) (w : World) : Prop := Lib.IsBuilderF 354 5 b b (Lib.byteCells acc) w
abbrev Kept (b : Nat) (w w' : World) : Prop := Below b w w' ∧ Lib.OthersKept 5 (some b) w w'

theorem Bld.lt {b : Nat} {acc : List UInt8} {w : World} (h : Bld b acc w) : b < w.heap.size := by
  rcases h with h | h <;> exact h.lt

theorem atF_grows {T e : TypeId} {B b : Nat} {p : Value} {bs : List Value} {w w' : World} (h : Lib.BuilderAtF T e B b p bs w) (hb : Grows w w') : Lib.BuilderAtF T e B b p bs w' := by
  obtain ⟨h1, v, h2, h3, h4⟩ := h
  refine ⟨h1, v, row_grows hb h2, ⟨h3.1, ?_⟩, h4⟩
  rcases h3.2 with h | ⟨g, cap, cur, fz, hv, hg, hcur, rest⟩
  · exact .inl h
  · exact .inr ⟨g, cap, cur, fz, hv, hg, row_grows hb hcur, rest⟩
theorem bld_grows {b : Nat} {acc : List UInt8} {w w' : World} (h : Bld b acc w) (hb : Grows w w') : Bld b acc w' := by
  rcases h with h | h
  · exact .inl (atF_grows h hb)
  · exact .inr (atF_grows h hb)

theorem ws_any (b : Nat) (acc : List UInt8) (s : ByteArray) (w : World) (h : Bld b acc w) (hlen : acc.length + s.size ≤ 140737488355328) :
    Calls Tryz.prog 190 #[.pointer (some ⟨b, 0, none⟩), .string s] w fun e w' => e = .returned (.tuple #[.int .i64 s.size, .nilIface]) ∧ Bld b (acc ++ s.data.toList) w' ∧ Kept b w w' :=
  (Any.Builder_WriteString_k bldLays bldExtra b b _ s w h (by rw [Lib.byteCells_length]; exact hlen) (Nat.le_of_lt (Bld.lt h))).mono fun e w' ⟨h1, h2, h3, h4⟩ =>
    ⟨h1, .inr (by rw [Lib.byteCells_append, ← Lib.strCells_eq]; exact h2), h3, h4⟩

theorem len_any (b : Nat) (acc : List UInt8) (w : World) (h : Bld b acc w) :
    Calls Tryz.prog 191 #[.pointer (some ⟨b, 0, none⟩)] w fun e w' => e = .returned (.int .i64 acc.length) ∧ w = w' :=
  (Tryz.Builder_Len_f b b _ w h).mono fun e w' ⟨h1, h2⟩ => ⟨by rw [h1, Lib.byteCells_length], h2.symm⟩

theorem str_any (b : Nat) (acc : List UInt8) (w : World) (h : Bld b acc w) :
    Calls Tryz.prog 192 #[.pointer (some ⟨b, 0, none⟩)] w fun e w' => e = .returned (.string ⟨acc.toArray⟩) ∧ Below b w w' :=
  (Tryz.Builder_String_any_k b b acc w h (Nat.le_of_lt (Bld.lt h))).mono fun e w' ⟨h1, _, h3, _⟩ => ⟨h1, h3⟩

/-- A row that holds no bytes stands. -/
theorem Kept.row {b k : Nat} {c : Array Value} {e : TypeId} {fz : Nat × Nat} {w w' : World} (h : Kept b w w') (hk : w.heap[k]? = some (.cells c e fz)) (he : e ≠ 5) (hb : k ≠ b) : w'.heap[k]? = some (.cells c e fz) :=
  h.2 k _ hk (fun e' => hb (Option.some.inj e')) (fun c' fz' e' => he (by injection e'))

theorem fields_any (w : World) (he : Env w) (s : ByteArray) (hs : s.data.toList = (wordTab.intersperse [32]).flatten) :
    Calls Tryz.prog 116 #[.string s] w fun e w' => e = .returned (.slice (some ⟨w.heap.size, 0, none⟩) 20 20) ∧ w' = w.alloc (.cells wordVals.toArray 9) := by
  have hsz : s.size < 4294967281 := by
    have : s.size = s.data.toList.length := by rw [Array.length_toList]; rfl
    rw [this, hs]
    decide
  have hasc : ∀ (j : Nat) b, s.data.toList[j]? = some b → b.toNat < 128 := by
    rw [hs]
    have h : ∀ b ∈ (wordTab.intersperse [32]).flatten, b.toNat < 128 := by decide +kernel
    exact fun j b hj => h b (List.mem_of_getElem? hj)
  have hf : Lib.fields s.data.toList = wordTab := by rw [hs]; decide +kernel
  refine (Tryz.strings_Fields_laid s w hsz hasc he.space).mono fun e w' ⟨h1, h2⟩ => ?_
  rw [hf] at h1 h2
  exact ⟨h1, h2⟩
end Go.Proofs.YtbdcgdjhkcnekaaGreatDoor
