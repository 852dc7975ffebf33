/-
  script.Parse comes to parseD.
-/
import Derived.Test.YtbdcgdjhkcnekaaGreatDoorStep
import Derived.Test.YtbdcgdjhkcnekaaGreatDoorParGo
import Derived.Test.YtbdcgdjhkcnekaaGreatDoorTwa
import Derived.Test.YtbdcgdjhkcnekaaGreatDoorStepsL
import Derived.Laws.AppendOwn
import Derived.Maps.AppendAt
namespace Go.Proofs.YtbdcgdjhkcnekaaGreatDoor
open Go Go.RowKit Go.WideMaps Go.Maps

theorem five_new (w : World) (s : StepD) (t : TypeId) : ∀ j u, s.vals[j]? = some u → ((w.alloc (.cells s.arr 72)).alloc (.cells s.arr t)).cell? ((⟨w.heap.size + 1, 0, none⟩ : Addr).add j) = some u := by
  intro j u hj
  have h := row_alloc (w := w.alloc (.cells s.arr 72)) s.arr t (0, 0)
  rw [add_plain, Nat.zero_add, cell_row (by simpa using h)]
  have e : s.arr = s.vals.toArray := rfl
  rw [e, List.getElem?_toArray]
  exact hj
theorem five_one (s : StepD) : ∀ u ∈ s.vals, u.oneCell' = true := by
  intro u hu
  simp only [StepD.vals, List.mem_cons, List.not_mem_nil, or_false] at hu
  rcases hu with rfl | rfl | rfl | rfl | rfl <;> rfl

theorem drewN_below (w : World) (n : Nat) : Below w.heap.size w (w.drewN n) := ⟨rfl, rfl, rfl, Nat.le_refl _, fun _ _ => rfl⟩

abbrev OwnSteps (B : Nat) (v : Value) (acc : List StepD) (w : World) : Prop := w.ownsRow B 72 5 v acc.length (acc.flatMap StepD.vals)

theorem OwnSteps.keep {B : Nat} {v : Value} {acc : List StepD} {w w' : World} (h : OwnSteps B v acc w) (hb : Grows w w') : OwnSteps B v acc w' := by
  refine ⟨h.1, ?_⟩
  rcases h.2 with h | ⟨g, cap, cur, h1, h2, h3, h4⟩
  · exact .inl h
  · exact .inr ⟨g, cap, cur, h1, h2, row_grows hb h3, h4⟩

theorem own_block {B : Nat} {v : Value} {acc : List StepD} {w : World} (h : OwnSteps B v acc w) : ∀ k, v.ownBlock = some k → B ≤ k := by
  intro k hk
  rcases h.2 with ⟨rfl, _⟩ | ⟨g, cap, cur, rfl, h2, _⟩
  · cases hk
  · obtain rfl : g = k := by simpa [Value.ownBlock] using hk
    exact h2

theorem own_steps {B : Nat} {v : Value} {acc : List StepD} {w : World} {d : StepD} (h : OwnSteps B v acc w) {a : Option Addr} {n c : Nat} (hv : v = .slice a n c) : n = acc.length ∧ Steps w a acc.length (fun i => acc.getD i d) ∧ (a = none → acc.length = 0) := by
  obtain ⟨hl, h⟩ := h
  rcases h with ⟨h1, h2⟩ | ⟨g, cap, cur, h1, h2, h3, h4, h5, h6, h7⟩
  · rw [hv] at h1
    obtain ⟨rfl, rfl, rfl⟩ : a = none ∧ n = 0 ∧ c = 0 := by simpa using h1
    exact ⟨h2.symm, fun i hi => by omega, fun _ => h2⟩
  · rw [hv] at h1
    obtain ⟨rfl, rfl, rfl⟩ : a = some ⟨g, 0, none⟩ ∧ n = acc.length ∧ c = cap := by simpa using h1
    refine ⟨rfl, fun i hi => ⟨g, 0, rfl, ?_⟩, fun h => by cases h⟩
    have hfl : ∀ (l : List StepD) (i j : Nat), i < l.length → j < 5 → (l.flatMap StepD.vals)[i * 5 + j]? = (l.getD i d).vals[j]? := by
      intro l
      induction l with
      | nil => intro i j hi; simp at hi
      | cons x r ih =>
        intro i j hi hj
        cases i with
        | zero => rw [List.flatMap_cons, List.getElem?_append_left (by simp [StepD.vals]; omega)]; simp
        | succ i =>
          rw [List.flatMap_cons, List.getElem?_append_right (by simp [StepD.vals]; omega), show (i + 1) * 5 + j - x.vals.length = i * 5 + j by simp [StepD.vals]; omega, ih i j (by simpa using hi) hj]
          simp
    have hc : ∀ j, j < 5 → w.cell? ⟨g, 0 + i * 5 + j, none⟩ = (acc.getD i d).vals[j]? := by
      intro j hj
      have hm : (i + 1) * 5 ≤ acc.length * 5 := Nat.mul_le_mul_right 5 hi
      rw [cell_row h3, Nat.zero_add, ← hfl acc i j hi hj, ← h7, List.getElem?_take, if_pos (by omega), Array.getElem?_toList]
    exact ⟨hc 0 (by omega), hc 1 (by omega), hc 2 (by omega), hc 3 (by omega), hc 4 (by omega)⟩

def strLen : Value → Nat
  | .string s => s.size
  | _ => 0

structure ParRel (l : List UInt8) (w : World) (s v : Value) (wr : World) : Prop where
  ex : ∃ (t : List UInt8) (acc : List StepD), s = .string ⟨t.toArray⟩ ∧ t.length ≤ 65536 ∧ acc.length ≤ 2048 ∧ parseGo (l.length + 1) [] l = parseGo (t.length + 1) acc t ∧
    OwnSteps (w.heap.size + 1) v acc wr ∧ (v = .slice none 0 0 ↔ acc = []) ∧ KindsAt w.heap.size 20 wr ∧ Below w.heap.size w wr

def ParsePost (w : World) (l : List UInt8) (e : Ending) (w' : World) : Prop :=
  (∃ v, e = .returned (.tuple #[v, .int .i64 (parseD l).2.1, .int .i64 (parseD l).2.2]) ∧ OwnSteps w.heap.size v (parseD l).1 w' ∧ (v = .slice none 0 0 ↔ (parseD l).1 = [])) ∧ Below w.heap.size w w'

theorem own_nil (B : Nat) (w : World) : OwnSteps B (.slice none 0 0) [] w := ⟨rfl, .inl ⟨rfl, rfl⟩⟩

theorem own_len {B : Nat} {v : Value} {acc : List StepD} {w : World} (h : OwnSteps B v acc w) : ∃ a c, v = .slice a acc.length c ∧ acc.length ≤ c := by
  rcases h.2 with ⟨h1, h2⟩ | ⟨g, cap, cur, h1, _, _, h4, _⟩
  · exact ⟨none, 0, by rw [h1, h2], by omega⟩
  · exact ⟨_, cap, h1, h4⟩

theorem parse_post {w w' : World} {l : List UInt8} {v : Value} {acc : List StepD} {ln er : Int} (h : parseD l = (acc, ln, er)) (hv : OwnSteps w.heap.size v acc w') (hn : v = .slice none 0 0 ↔ acc = []) (hb : Below w.heap.size w w') :
    ParsePost w l (.returned (.tuple #[v, .int .i64 ln, .int .i64 er])) w' := by
  refine ⟨⟨v, by rw [h], by rw [h]; exact hv, by rw [h]; exact hn⟩, hb⟩

set_option maxRecDepth 100000 in
set_option maxHeartbeats 800000 in
theorem parse_long (l : List UInt8) (hl : l.length ≤ 9223372036854775807) (h : 65536 < l.length) (w : World) : Calls Tryz.prog 4 #[.string ⟨l.toArray⟩] w (ParsePost w l) := by
  have hfin : parseD l = ([], 0, 3) := if_pos h
  have Hfin := Lib.hid hfin; clear hfin
  have hs : ((⟨l.toArray⟩ : ByteArray).size : Int) = l.length := by rw [ba_size']
  have hlen : 65536 < ((⟨l.toArray⟩ : ByteArray).size : Int) := by rw [hs]; omega
  go_enter Tryz.func4, Tryz.ntmps4
  go_wp2
  go_ret3
  exact parse_post Hfin.out (own_nil _ _) (by simp) (Below.refl _ _)

set_option maxRecDepth 100000 in
set_option maxHeartbeats 1600000 in
theorem parse_short (l : List UInt8) (h : l.length ≤ 65536) (w : World) (he : Env w) : Calls Tryz.prog 4 #[.string ⟨l.toArray⟩] w (ParsePost w l) := by
  have hfin : parseD l = parseGo (l.length + 1) [] l := if_neg (by omega)
  have Hfin := Lib.hid hfin; clear hfin
  have hs : ((⟨l.toArray⟩ : ByteArray).size : Int) = l.length := by rw [ba_size']
  have hlen : ((⟨l.toArray⟩ : ByteArray).size : Int) ≤ 65536 := by rw [hs]; omega
  obtain ⟨i0, hi, hz0, hz1, hz2⟩ := info_parts info38
  have Henv := Lib.hid he; clear he
  go_enter Tryz.func4, Tryz.ntmps4
  go_wp2_with (go_at_call 10; refine (kinds_any _ Henv.out).mono ?_; rintro e w1 ⟨rfl, hk1, hb1⟩)
  go_loopw [0, 2] (fun s v wr => ParRel l w s v wr) (fun s _ _ => strLen s)
  case atStart => exact ⟨l, [], rfl, h, by simp, rfl, own_nil _ _, by simp, hk1, hb1⟩
  case round =>
    obtain ⟨t, acc, rfl, ht, hal, hgo, hown, hnil, hk, hb⟩ := hrel
    have Hgo := Lib.hid hgo; clear hgo
    have Hown := Lib.hid hown; clear hown
    have Hnil := Lib.hid hnil; clear hnil
    have Hk := Lib.hid hk; clear hk
    have Hb := Lib.hid hb; clear hb
    obtain ⟨a, c, rfl, hac⟩ := own_len Hown.out
    by_cases h0 : t = []
    · subst h0
      go_wp2
      go_ret3
      refine parse_post (acc := acc) (by rw [Hfin.out, Hgo.out]; rfl) ?_ Hnil.out Hb.out
      exact ⟨Hown.out.1, Hown.out.2.imp id fun ⟨g, cap, cur, h1, h2, h3⟩ => ⟨g, cap, cur, h1, by omega, h3⟩⟩
    · have hE := Henv.out.below Hb.out Henv.out.size
      obtain ⟨mx, hmx⟩ := hE.max
      have HE := Lib.hid hE; clear hE
      have Hmx := Lib.hid hmx; clear hmx
      have hts : (⟨t.toArray⟩ : ByteArray).size < 4294967281 := by rw [ba_size']; omega
      have hte : (!t.isEmpty) = true := by simp [h0]
      have hcl := cut_len t h0
      have hcut := Tryz.strings_Cut ⟨t.toArray⟩ ⟨#[10]⟩ mx wr hts Hmx.out
      rw [show (⟨t.toArray⟩ : ByteArray).data.toList = t by simp, show (⟨#[10]⟩ : ByteArray).data.toList = [10] from rfl] at hcut
      obtain ⟨c1, c2, c3, hceq⟩ : ∃ c1 c2 c3, Lib.cut t [10] = (c1, c2, c3) := ⟨_, _, _, rfl⟩
      rw [hceq] at hcut hcl
      simp only at hcut hcl
      have hnext := parse_next acc h0 hceq
      rw [← Hgo.out, ← Hfin.out] at hnext
      have Hnext := Lib.hid hnext; clear hnext hceq
      have Hcut := Lib.hid hcut; clear hcut
      go_wp2_with fail
      refine Hcut.out.mono ?_
      rintro e w2 ⟨rfl, n2, rfl⟩
      have HE2 := Lib.hid (HE.out.below (drewN_below wr n2) HE.out.size)
      go_wp2_with fail
      refine (step_any ⟨c1.toArray⟩ (by rw [ba_size']; omega) w.heap.size _ HE2.out (Hk.out.below (drewN_below wr n2) (World.ownsMap.lt Hk.out))).mono ?_
      rintro e w3 ⟨⟨st, rfl, hst⟩, hb3⟩
      rw [show (⟨c1.toArray⟩ : ByteArray).data.toList = c1 by simp] at hst ⊢
      have hg3 : Grows wr w3 := ((drewN_below wr n2).trans hb3)
      clear hb3
      have hwm : w.heap.size < wr.heap.size := World.ownsMap.lt Hk.out
      have Hb3 := Lib.hid (Hb.out.trans (hg3.mono (by omega)))
      have Hk3 := Lib.hid (Hk.out.below hg3 hwm)
      have Hown3 := Lib.hid (Hown.out.keep hg3)
      have hwm3 : w.heap.size < w3.heap.size := World.ownsMap.lt Hk3.out
      clear hg3
      obtain ⟨kd, nd, sa, sb, sl⟩ := st
      simp only [StepD.arr]
      have hno : ∀ b, b = (stepD c1).isSome → (b = false ∨ c3 = false) → parseD l = ([], (acc.length : Int), 4) := fun b hb h => by
        rw [Hnext.out]
        cases hs : stepD c1 with
        | none => rfl
        | some x => 
          rcases h with h | h
          · rw [hb, hs] at h; cases h
          · simp only; rw [if_pos h]
      have Hno := Lib.hid hno; clear hno
      have Hst := Lib.hid hst; clear hst
      generalize hok : (stepD c1).isSome = ok
      have Hok := Lib.hid hok; clear hok
      cases ok with
      | false =>
        go_wp2
        go_ret3
        exact parse_post (Hno.out _ Hok.out.symm (.inl rfl)) (own_nil _ _) (by simp) (Hb3.out.alloc (by omega) _)
      | true =>
        cases c3 with
        | false =>
          go_wp2
          go_ret3
          exact parse_post (Hno.out _ Hok.out.symm (.inr (by simp))) (own_nil _ _) (by simp) (Hb3.out.alloc (by omega) _)
        | true =>
          obtain ⟨x, hx⟩ := Option.isSome_iff_exists.1 Hok.out
          have hxe := Hst.out x hx
          subst hxe
          have hn := Hnext.out
          rw [hx] at hn
          simp only [Bool.true_eq_false, if_false] at hn
          have Hn := Lib.hid hn; clear hn hx
          by_cases hfull : acc.length = 2048
          · have hfull' : ((acc.length : Int)) = 2048 := by omega
            have Hn2 := Lib.hid (Hn.out.trans (if_pos hfull)); clear hfull
            go_wp2
            go_ret3
            exact parse_post (by rw [Hn2.out, hfull']) (own_nil _ _) (by simp) (Hb3.out.alloc (by omega) _)
          · have hfull' : ¬ ((acc.length : Int)) = 2048 := by omega
            have Hn2 := Lib.hid (Hn.out.trans (if_neg hfull))
            go_wp2_with (at_builtin; refine wpList_append_own_at _ rfl _ _ 22 rfl (w.heap.size + 1) 72 i0 (.agg #[.int .u8 0, .int .i64 0, .int .i64 0, .int .i64 0, .int .i64 0]) 5 40 Tryz.underlying22 hi hz0 hz1 hz2 rfl (by decide) _ acc.length (acc.flatMap StepD.vals) rfl ((Hown3.out.alloc _).alloc _) ⟨w3.heap.size + 1, 0, none⟩ 1 1 (StepD.vals ⟨kd, nd, sa, sb, sl⟩) rfl rfl (five_new _ _ _) (five_one _) (by unfold maxLen; omega) (by omega) (by simp; omega) ?_; intro v' w5 hown' hgrow hniff hblk)
            have hblock : ∀ k, (Value.slice a acc.length c).ownBlock = some k → w.heap.size + 1 ≤ k := own_block Hown3.out
            have hB5 : Below w.heap.size w w5 := ((Hb3.out.alloc (by omega) _).alloc (by simp; omega) _).grown hgrow (by simp; omega) (fun k hk => by have := hblock k hk; omega)
            have hK5 : KindsAt w.heap.size 20 w5 := ((Hk3.out.alloc _).alloc _).kept hgrow (fun e => by have := hblock _ e.symm; omega)
            refine ⟨⟨c2, acc ++ [⟨kd, nd, sa, sb, sl⟩], rfl, by omega, by simp; omega, by rw [← Hfin.out]; exact Hn2.out, ?_, ?_, hK5, hB5⟩, ?_⟩
            · unfold OwnSteps
              simpa using hown'
            · rw [hniff]; simp
            · simp only [strLen, ba_size']; omega

theorem parse_any (l : List UInt8) (hl : l.length ≤ 9223372036854775807) (w : World) (he : Env w) : Calls Tryz.prog 4 #[.string ⟨l.toArray⟩] w (ParsePost w l) := by
  by_cases h : 65536 < l.length
  · exact parse_long l hl h w
  · exact parse_short l (by omega) w he
end Go.Proofs.YtbdcgdjhkcnekaaGreatDoor
