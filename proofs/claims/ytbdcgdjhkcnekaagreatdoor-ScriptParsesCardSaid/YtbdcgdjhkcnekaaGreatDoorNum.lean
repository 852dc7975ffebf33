/-
  The reference's Number comes to numD.
-/
import Derived.Test.YtbdcgdjhkcnekaaGreatDoorNumL
import Derived.Test.YtbdcgdjhkcnekaaGreatDoorStepsL
import Derived.Test.YtbdcgdjhkcnekaaGreatDoorDig
import Derived.Test.YtbdcgdjhkcnekaaGreatDoorParGo
namespace Go.Proofs.YtbdcgdjhkcnekaaGreatDoor
open Go Go.RowKit

def NumPost (w : World) (l : List UInt8) (e : Ending) (w' : World) : Prop :=
  (∃ n, e = .returned (.tuple #[.int .i64 n, .bool (numD l).isSome]) ∧ ∀ v, numD l = some v → n = v) ∧ Below w.heap.size w w'

theorem num_none {w w' : World} {l : List UInt8} (h : numD l = none) (hb : Below w.heap.size w w') : NumPost w l (.returned (.tuple #[.int .i64 0, .bool false])) w' :=
  ⟨⟨0, by rw [h]; rfl, fun v hv => by rw [h] at hv; cases hv⟩, hb⟩

theorem num_if {w w' : World} {l : List UInt8} {n : Int} (h : numD l = if Lib.itoa n = l then some n else none) (hb : Below w.heap.size w w') : NumPost w l (.returned (.tuple #[.int .i64 n, .bool (Lib.itoa n == l)])) w' := by
  refine ⟨⟨n, ?_, fun v hv => ?_⟩, hb⟩
  · rw [h]
    by_cases e : Lib.itoa n = l
    · rw [if_pos e]; simp [e]
    · rw [if_neg e]; simp [e]
  · rw [h] at hv
    split at hv
    · injection hv
    · cases hv

/-- The bytes of a text. -/
def Bytes (S : ByteArray) (l : List UInt8) : Prop := S = ⟨l.toArray⟩
theorem Bytes.size {S : ByteArray} {l : List UInt8} (h : Bytes S l) : S.size = l.length := by rw [h, ba_size']
theorem Bytes.get {S : ByteArray} {l : List UInt8} (h : Bytes S l) {i : Nat} {c : UInt8} (hc : l[i]? = some c) (hi : i < S.size) : S[i] = c := by
  subst h
  have := (List.getElem?_eq_some_iff.1 hc)
  obtain ⟨h1, h2⟩ := this
  rw [← h2]
  rfl

def NumRel (d : Nat) (ds : List UInt8) (w : World) (nv iv : Value) (wr : World) : Prop :=
  ∃ don rest, ds = don ++ rest ∧ iv = .int .i64 ((d + don.length : Nat) : Int) ∧ nv = .int .i64 (w64 (-(decV don))) ∧ (∀ c ∈ don, 48 ≤ c.toNat ∧ c.toNat ≤ 57) ∧ wr = w

theorem wrap_step (a d : Int) : wrap64 (wrap64 (w64 (-a) * 10) - d) = w64 (-(a * 10 + d)) := by
  have e : ∀ x, wrap64 x = w64 x := fun x => by simp only [wrap64, w64]
  rw [e, e, w64_step]

set_option maxRecDepth 100000 in
set_option maxHeartbeats 1600000 in
theorem number_neg (S : ByteArray) (ds : List UInt8) (hS : Bytes S (45 :: ds)) (h0 : ds ≠ []) (hl : ds.length ≤ 19) (w : World) : Calls Tryz.prog 123 #[.string S] w (NumPost w (45 :: ds)) := by
  have hlen : 0 < ds.length := List.length_pos_iff.2 h0
  have hn := hS.size
  have hn' : ds.length + 1 = S.size := by rw [hn]; simp
  clear hn
  have hz : 0 < S.size := by omega
  have hz' : 0 < (S.size : Int) := by omega
  have hc0 : S[0] = 45 := hS.get rfl hz
  have hne : ((S.size : Int) == 1) = false := beq_eq_false_iff_ne.2 (by omega)
  have hl20 : (S.size : Int) ≤ 20 := by omega
  have HS := Lib.hid hS; clear hS
  go_enter Tryz.func123, Tryz.ntmps123
  go_wp2
  go_loopw [5, 7] (fun nv iv wr => NumRel 1 ds w nv iv wr) (fun _ iv _ => S.size - (intOf iv).toNat)
  case atStart => exact ⟨[], ds, rfl, rfl, rfl, by simp, rfl⟩
  case round =>
    obtain ⟨don, rest, hds, rfl, rfl, hall, rfl⟩ := hrel
    have Hall := Lib.hid hall; clear hall
    cases rest with
    | nil =>
      have hend : don = ds := by rw [hds, List.append_nil]
      subst hend
      clear hds
      have hi : (1 + don.length : Nat) = S.size := by omega
      have hi' : ((1 + don.length : Nat) : Int) = S.size := by omega
      have hnr := w64_rng (-(decV don))
      have hw := w64_rng (-(w64 (-(decV don))))
      have hwr : wrap64 (-(w64 (-(decV don)))) = w64 (-(w64 (-(decV don)))) := by simp only [wrap64, w64]
      go_wp2_with fail
      refine (digits_any (w64 (-(decV don))) hnr.1 hnr.2 _).mono ?_
      rintro e w1 ⟨rfl, hb1⟩
      clear hi hi' hne hl20 hc0 hz hz' hn'
      obtain rfl := HS.out
      go_wp2
      go_ret2
      refine num_if (n := w64 (-(decV don))) (by have h := num_neg don; simpa [refN] using h) hb1
    | cons c r =>
      have hlt : 1 + don.length < S.size := by
        have := congrArg List.length hds
        rw [List.length_append, List.length_cons] at this
        omega
      have hc : S[1 + don.length] = c := HS.out.get (by rw [hds]; simp [Nat.add_comm 1]) hlt
      have Hds := Lib.hid hds; clear hds
      by_cases hd : 48 ≤ c.toNat ∧ c.toNat ≤ 57
      · obtain ⟨hd1, hd2⟩ := hd
        go_wp2
        refine ⟨⟨don ++ [c], r, by first | (rw [Hds.out]; simp; done) | (rw [Hds.out]; done) | simp [Hds.out], by first | (go_num; done) | (go_num; simp; done) | (simp; done) | exact congrArg (Value.int .i64) (by simp; omega), by rw [wrap_step, decV_snoc], ?_, rfl⟩, by (try simp [intOf]) <;> omega⟩
        intro x hx
        rcases List.mem_append.1 hx with hx | hx
        · exact Hall.out x hx
        · obtain rfl := List.mem_singleton.1 hx
          exact ⟨hd1, hd2⟩
      · have hno : numD (45 :: ds) = none := num_no (.inr (.inr (.inr ⟨c, by simp [Hds.out], hd⟩)))
        have Hno := Lib.hid hno; clear hno
        go_wp2
        all_goals go_ret2
        all_goals exact num_none Hno.out (Below.refl _ _)

set_option maxRecDepth 100000 in
set_option maxHeartbeats 1600000 in
theorem number_pos (S : ByteArray) (ds : List UInt8) (hS : Bytes S ds) (h45 : ∀ r, ds ≠ 45 :: r) (h0 : ds ≠ []) (hl : ds.length ≤ 20) (w : World) : Calls Tryz.prog 123 #[.string S] w (NumPost w ds) := by
  have hlen : 0 < ds.length := List.length_pos_iff.2 h0
  have hn := hS.size
  have hn' : ds.length = S.size := by rw [hn]; skip
  clear hn
  have hz : 0 < S.size := by omega
  have hz' : 0 < (S.size : Int) := by omega
  obtain ⟨x0, r0, hx0⟩ : ∃ x r, ds = x :: r := by cases ds with | nil => exact absurd rfl h0 | cons x r => exact ⟨x, r, rfl⟩
  have hx45 : x0 ≠ 45 := fun e => h45 r0 (by rw [hx0, e])
  have hxn : ((x0.toNat : Int) == 45) = false := by
    simp only [beq_eq_false_iff_ne, ne_eq]
    intro e
    have e45 : (45 : UInt8).toNat = 45 := rfl
    exact hx45 (UInt8.toNat_inj.1 (by omega))
  have hc0 : S[0] = x0 := hS.get (by rw [hx0]; rfl) hz
  have Hx0 := Lib.hid hx0; clear hx0
  have hne : ((S.size : Int) == 0) = false := beq_eq_false_iff_ne.2 (by omega)
  have hl20 : (S.size : Int) ≤ 20 := by omega
  have HS := Lib.hid hS; clear hS
  go_enter Tryz.func123, Tryz.ntmps123
  go_wp2
  go_loopw [5, 7] (fun nv iv wr => NumRel 0 ds w nv iv wr) (fun _ iv _ => S.size - (intOf iv).toNat)
  case atStart => exact ⟨[], ds, rfl, rfl, rfl, by simp, rfl⟩
  case round =>
    obtain ⟨don, rest, hds, rfl, rfl, hall, rfl⟩ := hrel
    have Hall := Lib.hid hall; clear hall
    cases rest with
    | nil =>
      have hend : don = ds := by rw [hds, List.append_nil]
      subst hend
      clear hds
      have hi : don.length = S.size := by omega
      have hi' : (don.length : Int) = S.size := by omega
      have hnr := w64_rng (-(decV don))
      have hw := w64_rng (-(w64 (-(decV don))))
      have hwr : wrap64 (-(w64 (-(decV don)))) = w64 (-(w64 (-(decV don)))) := by simp only [wrap64, w64]
      go_wp2_with fail
      refine (digits_any (w64 (-(w64 (-(decV don))))) hw.1 hw.2 _).mono ?_
      rintro e w1 ⟨rfl, hb1⟩
      clear hi hi' hne hl20 hc0 hz hz' hn'
      obtain rfl := HS.out
      go_wp2
      go_ret2
      refine num_if (n := w64 (-(w64 (-(decV don))))) (by have h := num_pos don h45; simpa [refN] using h) hb1
    | cons c r =>
      have hlt : don.length < S.size := by
        have := congrArg List.length hds
        rw [List.length_append, List.length_cons] at this
        omega
      have hc : S[don.length] = c := HS.out.get (by rw [hds]; simp) hlt
      have Hds := Lib.hid hds; clear hds
      by_cases hd : 48 ≤ c.toNat ∧ c.toNat ≤ 57
      · obtain ⟨hd1, hd2⟩ := hd
        go_wp2
        refine ⟨⟨don ++ [c], r, by first | (rw [Hds.out]; simp; done) | (rw [Hds.out]; done) | simp [Hds.out], by first | (go_num; done) | (go_num; simp; done) | (simp; done) | exact congrArg (Value.int .i64) (by simp; omega), by rw [wrap_step, decV_snoc], ?_, rfl⟩, by (try simp [intOf]) <;> omega⟩
        intro x hx
        rcases List.mem_append.1 hx with hx | hx
        · exact Hall.out x hx
        · obtain rfl := List.mem_singleton.1 hx
          exact ⟨hd1, hd2⟩
      · have hno : numD ds = none := num_no (.inr (.inr (.inr ⟨c, by rw [if_neg (by intro e; cases ds with | nil => simp at e | cons x r => simp at e; exact h45 r (by rw [e]))]; simp [Hds.out], hd⟩)))
        have Hno := Lib.hid hno; clear hno
        go_wp2
        all_goals go_ret2
        all_goals exact num_none Hno.out (Below.refl _ _)
end Go.Proofs.YtbdcgdjhkcnekaaGreatDoor
