/-
  The reference's Digits: it hands back the decimal numeral.
-/
import Derived.Test.YtbdcgdjhkcnekaaGreatDoorPure
import Derived.Test.YtbdcgdjhkcnekaaGreatDoorRows
import Derived.WalkKit
import Derived.WalkSpells
import Derived.WalkLawsBesides
import Derived.Lib.Hide
import Derived.Laws.AppendOwnNone
import Derived.Laws.IdiomStrings
import Derived.Laws.BytesArg
namespace Go.Proofs.YtbdcgdjhkcnekaaGreatDoor
open Go.RowKit

theorem info5 : (Tryz.prog.info? 5).map (fun i => (i.zero, i.size, i.bytes)) = some (some (.int .u8 0), 1, 1) := by kernel_rfl

set_option maxHeartbeats 400000 in
theorem digits_zero (w : World) :
    Calls Tryz.prog 200 #[.int .i64 0] w fun e w' => e = .returned (.string ⟨#[48]⟩) ∧ w = w' := by
  go_enter Tryz.func200, Tryz.ntmps200
  go_wp2
  go_ret
  exact ⟨rfl, rfl⟩


def byteVals (ds : List UInt8) : List Value := ds.map fun b => Value.int .u8 b.toNat

/-- 'append([]E{c}, xs...)', xs the call's own or nil. -/
theorem wpList_prepend {P : Program} {ops : Array Oper} {rest : List Oper} {o : Oper} {a : Act} {Q : Exit → Act → World → Prop} (wr : World) (hgd : o.guard = none) (s x : Operand) (t : TypeId)
    (ho : o.op = .call { callee := .builtin .append, args := #[s, x], argTypes := #[t, t] })
    (B : Nat) (e : TypeId) (i : TypeInfo) (z : Value) (bytes : Nat) (ht : P.underlying t = some (.slice e)) (hi : P.info? e = some i) (hz : i.zero = some z)
    (hsize : i.size = 1) (hby : i.bytes = bytes) (hzs : z.cells.size = 1) (c b : Value) (n : Nat) (xs : List Value)
    (hs : a.eval s = .slice (some ⟨wr.heap.size, 0, none⟩) 1 1) (hx : a.eval x = b) (hown : wr.ownsRow B e 1 b n xs) (hB : B ≤ wr.heap.size)
    (h1 : ∀ u ∈ xs, u.oneCell' = true) (h63 : 1 + n ≤ maxLen) (hbytes : (1 + n) * bytes ≤ 140737488355328)
    (h : ∀ v' w', w'.ownsRow B e 1 v' (1 + n) (c :: xs) → (wr.alloc (.cells #[c] e)).grownBy w' (some wr.heap.size) → wpList P ops Q rest (a.put o.dst v') w') :
    wpList P ops Q (o :: rest) a (wr.alloc (.cells #[c] e)) := by
  have hlit : (wr.alloc (.cells #[c] e)).ownsRow B e 1 (.slice (some ⟨wr.heap.size, 0, none⟩) 1 1) 1 [c] := World.ownsRow_lit wr #[c] 1 hB (by unfold maxLen; omega) rfl
  rcases hown.2 with ⟨rfl, rfl⟩ | ⟨g, cap, cur, rfl, hb, hg, hn, hcap, hcur, htake⟩
  · have hxs : xs = [] := by simpa using hown.1
    subst hxs
    exact wpList_append_own_none hgd s x t ho B e i 1 ht hi _ 1 [c] hs hlit hx (h _ _ hlit ⟨rfl, rfl, rfl, Nat.le_refl _, fun _ _ _ => rfl⟩)
  · have hown' := hown.alloc (.cells #[c] e)
    have hl : xs.length = n := by simpa using hown.1
    exact wpList_append_own _ hgd s x t ho B e i z 1 bytes ht hi hz hsize hby hzs (by decide) _ 1 [c] hs hlit ⟨g, 0, none⟩ n cap xs hx (by omega) (fun j u hj => hown'.cells rfl j u hj) h1 h63 hbytes (by simp; omega)
      (fun v' w' h2 h3 _ => h v' w' h2 h3)

theorem byteVals_one (ds : List UInt8) : ∀ u ∈ byteVals ds, u.oneCell' = true := by
  intro u hu
  obtain ⟨b, _, rfl⟩ := List.mem_map.1 hu
  rfl

/-- What holds at the head of each round: the digits of what is left, and those that are there, are n's. -/
def DigRel (n : Int) (W : World) (b m : Value) (wr : World) : Prop :=
  ∃ (k : Int) (ds : List UInt8), m = .int .i64 k ∧ -9223372036854775808 ≤ k ∧ k ≤ 9223372036854775807 ∧ dg0 k.natAbs ++ ds = dg0 n.natAbs ∧
    wr.ownsRow W.heap.size 5 1 b ds.length (byteVals ds) ∧ Below W.heap.size W wr

theorem digRel_step {n k : Int} {W wr w' : World} {ds : List UInt8} {v' : Value} {c : Int} (hn : n.natAbs ≤ 9223372036854775808) (k0 : -9223372036854775808 ≤ k) (k1 : k ≤ 9223372036854775807) (hk : k ≠ 0)
    (hds : dg0 k.natAbs ++ ds = dg0 n.natAbs) (hb : Below W.heap.size W wr) (hc' : (k.tmod 10 < 0 → c = 48 - k.tmod 10) ∧ (0 ≤ k.tmod 10 → c = 48 + k.tmod 10))
    (hown : w'.ownsRow W.heap.size 5 1 v' (1 + ds.length) (Value.int .u8 c :: byteVals ds)) (hg : (wr.alloc (.cells #[.int .u8 c] 5)).grownBy w' (some wr.heap.size)) :
    DigRel n W v' (.int .i64 (k.tdiv 10)) w' := by
  have hc : c = ((48 + (k.tmod 10).natAbs : Nat) : Int) := by omega
  have hm : (k.tmod 10).natAbs = k.natAbs % 10 := by rw [Int.natAbs_tmod]; rfl
  have hd : (k.tdiv 10).natAbs = k.natAbs / 10 := by rw [Int.natAbs_tdiv]; rfl
  have hlt : (k.tmod 10).natAbs < 10 := by rw [hm]; omega
  have hs := hb.size
  refine ⟨k.tdiv 10, UInt8.ofNat c.toNat :: ds, rfl, by omega, by omega, ?_, ?_, ?_⟩
  · rw [hd]
    exact dg0_round (m := k) (d := k.tmod 10) (by omega) rfl hm (by rw [hc]; simp) hds
  · have hcc : ((UInt8.ofNat c.toNat).toNat : Int) = c := by
      rw [hc, Int.toNat_natCast, UInt8.toNat_ofNat']
      omega
    have e : byteVals (UInt8.ofNat c.toNat :: ds) = Value.int .u8 c :: byteVals ds := by
      unfold byteVals
      rw [List.map_cons, hcc]
    rw [e, List.length_cons, Nat.add_comm]
    exact hown
  · exact (hb.alloc hs _).grown hg (by simp; omega) (fun k hk => by cases hk; exact hs)

theorem conv_own {P : Program} {W : World} {B : Nat} {src dst e : TypeId} {b : Value} {ds : List UInt8} (hs : P.underlying src = some (.slice e)) (he : P.underlying e = some (.int .u8)) (hd : P.underlying dst = some .string)
    (h : W.ownsRow B e 1 b ds.length (byteVals ds)) : (convert src dst b).run P W = .ok (.string ⟨ds.toArray⟩) W := by
  rcases h.2 with ⟨rfl, h0⟩ | ⟨g, cap, cur, rfl, _⟩
  · obtain rfl : ds = [] := List.length_eq_zero_iff.1 h0
    rw [run_convert_bytes_string W src dst e none 0 0 hs he hd]
    rfl
  · exact run_convert_bytes_back W src dst e ⟨g, 0, none⟩ cap ds hs he hd (fun j hj => h.cells rfl j _ (by simp [byteVals, hj]))

theorem tmod_bd (k : Int) : -10 < k.tmod 10 ∧ k.tmod 10 < 10 := by
  have h : (k.tmod 10).natAbs = k.natAbs % 10 := by rw [Int.natAbs_tmod]; rfl
  omega
theorem tdiv_lt {k : Int} (hk : k ≠ 0) : (intOf (.int .i64 (k.tdiv 10))).natAbs < (intOf (.int .i64 k)).natAbs := by
  have h : (k.tdiv 10).natAbs = k.natAbs / 10 := by rw [Int.natAbs_tdiv]; rfl
  show (k.tdiv 10).natAbs < k.natAbs
  omega

set_option maxRecDepth 100000 in
set_option maxHeartbeats 400000 in
theorem digits_nz (n : Int) (h0 : -9223372036854775808 ≤ n) (h1 : n ≤ 9223372036854775807) (hn : n ≠ 0) (w : World) :
    Calls Tryz.prog 200 #[.int .i64 n] w fun e w' => e = .returned (.string ⟨(Lib.itoa n).toArray⟩) ∧ Below w.heap.size w w' := by
  obtain ⟨i0, hi, hz0, hz1, hz2⟩ := info_parts info5
  have hz : (n == 0) = false := by simpa using hn
  have hlen := dg0_length_le (u := n.natAbs) (by omega)
  have Hlen := Lib.hid hlen; clear hlen
  have Hfin := Lib.hid (itoa_dg0 hn)
  go_enter Tryz.func200, Tryz.ntmps200
  go_wp2
  go_loopw [3, 4] (fun b m wr => DigRel n w b m wr) (fun _ m _ => (intOf m).natAbs)
  case atStart => exact ⟨n, [], rfl, h0, h1, by simp, World.ownsRow_nil _ _ _ _, Below.refl _ _⟩
  case round =>
    obtain ⟨k, ds, rfl, k0, k1, hds, hown, hb⟩ := hrel
    have hl20 : ds.length ≤ 19 := by have := congrArg List.length hds; rw [List.length_append] at this; have := Hlen.out; omega
    have Hds := Lib.hid hds; clear hds
    have Hown := Lib.hid hown; clear hown
    have Hb := Lib.hid hb; clear hb
    by_cases hk : k = 0
    · subst hk
      have hcv := conv_own (P := Tryz.prog) (dst := 9) Tryz.underlying352 Tryz.underlying5 Tryz.underlying9 Hown.out
      have Hds0 : Hid (ds = dg0 n.natAbs) := by have h := Hds.out; rw [show (0 : Int).natAbs = 0 from rfl, dg0_zero] at h; exact Lib.hid (by simpa using h)
      by_cases hneg : n < 0
      · go_wp2
        go_ret
        refine ⟨?_, Hb.out⟩
        rw [Hfin.out, if_pos hneg, ← Hds0.out]
        rfl
      · go_wp2
        go_ret
        refine ⟨?_, Hb.out⟩
        rw [Hfin.out, if_neg (by omega), ← Hds0.out]; rfl
    · have hk' : (k != 0) = true := by simpa using hk
      have ⟨ht1, ht2⟩ := tmod_bd k
      by_cases hp : k.tmod 10 < 0
      all_goals
        go_wp2_with (at_builtin; refine wpList_prepend wr rfl (.tmp 22) (.tmp 23) 352 rfl w.heap.size 5 i0 (.int .u8 0) 1 Tryz.underlying352 hi hz0 hz1 hz2 rfl _ _ ds.length (byteVals ds) rfl rfl Hown.out Hb.out.size (byteVals_one _) (by unfold maxLen; omega) (by omega) ?_; intro v' w1 hown1 hgrow1; have Hown1 := Lib.hid hown1; clear hown1)
        go_roundw
        case rel => exact digRel_step (by omega) k0 k1 hk Hds.out Hb.out ⟨fun _ => by omega, fun _ => by omega⟩ Hown1.out hgrow1
        case measure => exact tdiv_lt hk

theorem itoa_zero : Lib.itoa 0 = [48] := by unfold Lib.itoa; rw [if_neg (by omega), Int.toNat_zero, Lib.decDigits]; simp

theorem digits_any (n : Int) (h0 : -9223372036854775808 ≤ n) (h1 : n ≤ 9223372036854775807) (w : World) :
    Calls Tryz.prog 200 #[.int .i64 n] w fun e w' => e = .returned (.string ⟨(Lib.itoa n).toArray⟩) ∧ Below w.heap.size w w' := by
  by_cases hn : n = 0
  · subst hn
    refine (digits_zero w).mono fun e w' ⟨he, hw⟩ => ?_
    subst hw
    exact ⟨by rw [he, itoa_zero], Below.refl _ _⟩
  · exact digits_nz n h0 h1 hn w
end Go.Proofs.YtbdcgdjhkcnekaaGreatDoor
