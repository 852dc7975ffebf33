/-
  phratrylaw03.Build: both stores, with the same terms.
-/
import Derived.Test.YtagccbpjpcnmeaaGreatDoorQNode
set_option linter.unusedVariables false
set_option linter.unusedSimpArgs false
namespace Go.Proofs.YtagccbpjpcnmeaaGreatDoor
open Go Go.RowKit

theorem Terms.below {B : Nat} {w w' : World} {a : Option Addr} {n : Nat} {f : Nat → TermD} (h : Terms w a n f) (hb : Below B w w') (hB : w.heap.size ≤ B) : Terms w' a n f := fun i hi => by
  obtain ⟨b, o, rfl, c0, c1, c2, c3⟩ := h i hi
  have hlt : b < B := Nat.lt_of_lt_of_le (World.block_lt_of_cell? w _ c0) hB
  exact ⟨b, o, rfl, (hb.cell (p := ⟨b, o + i * 4, none⟩) hlt).trans c0, (hb.cell (p := ⟨b, o + i * 4 + 1, none⟩) hlt).trans c1, (hb.cell (p := ⟨b, o + i * 4 + 2, none⟩) hlt).trans c2, (hb.cell (p := ⟨b, o + i * 4 + 3, none⟩) hlt).trans c3⟩

/-- Both stores. -/
structure Pair (B : Nat) (w : World) (s r : Nat) (L M : List TermD) (F G : Nat → Prop) : Prop where
  ps : ProgStore w s F L
  rs : RefStore w r G M
  ap : ∀ k, F k → ¬ G k
  lf : ∀ k, F k → B ≤ k
  lg : ∀ k, G k → B ≤ k

theorem RefStore.lt {w : World} {r : Nat} {F : Nat → Prop} {L : List TermD} (h : RefStore w r F L) : ∀ k, F k → k < w.heap.size := by
  obtain ⟨_, _, _, _, h4⟩ := h
  exact h4
theorem ProgStore.lt {w : World} {s : Nat} {F : Nat → Prop} {L : List TermD} (h : ProgStore w s F L) : ∀ k, F k → k < w.heap.size := by
  obtain ⟨_, _, _, _, _, _, _, _, h6⟩ := h
  exact h6

theorem Pair.left {B : Nat} {w w' : World} {s r : Nat} {L L' M : List TermD} {F F' G : Nat → Prop} (h : Pair B w s r L M F G) (hB : B ≤ w.heap.size) (hx : Ext F F' w w') (hs : ProgStore w' s F' L') (hT : Turned F w w') : Pair B w' s r L' M F' G ∧ Below B w w' :=
  ⟨⟨hs, h.rs.kept hT (fun k hk hf => h.ap k hf hk), fun k hk hg => (hx k hk).elim (fun hf => h.ap k hf hg) (fun h2 => absurd h2.1 (Nat.not_le_of_lt (h.rs.lt k hg))), fun k hk => (hx k hk).elim (h.lf k) (fun h2 => Nat.le_trans hB h2.1), h.lg⟩, hT.below hB h.lf⟩
theorem Pair.right {B : Nat} {w w' : World} {s r : Nat} {L M M' : List TermD} {F G G' : Nat → Prop} (h : Pair B w s r L M F G) (hB : B ≤ w.heap.size) (hx : Ext G G' w w') (hs : RefStore w' r G' M') (hT : Turned G w w') : Pair B w' s r L M' F G' ∧ Below B w w' :=
  ⟨⟨h.ps.kept hT (fun k hk hf => h.ap k hk hf), hs, fun k hf hk => (hx k hk).elim (fun hg => h.ap k hf hg) (fun h2 => absurd h2.1 (Nat.not_le_of_lt (h.ps.lt k hf))), h.lf, fun k hk => (hx k hk).elim (h.lg k) (fun h2 => Nat.le_trans hB h2.1)⟩, hT.below hB h.lg⟩
theorem Pair.new {B : Nat} {w w' : World} {s r : Nat} {L M : List TermD} {F G : Nat → Prop} (h : Pair B w s r L M F G) (hb : Below w.heap.size w w') : Pair B w' s r L M F G := ⟨h.ps.new hb, h.rs.new hb, h.ap, h.lf, h.lg⟩

def termsL (n : Nat) (f : Nat → TermD) : List TermD := (List.range n).map f
theorem termsL_succ (n : Nat) (f : Nat → TermD) : termsL (n + 1) f = termsL n f ++ [f n] := by unfold termsL; rw [List.range_succ, List.map_append]; rfl
theorem termsL_len (n : Nat) (f : Nat → TermD) : (termsL n f).length = n := by simp [termsL]
theorem termsL_ok {n : Nat} {f : Nat → TermD} (h : ∀ i, i < n → (f i).ok) : ∀ t ∈ termsL n f, t.ok := by
  intro t ht
  obtain ⟨i, hi, rfl⟩ := List.mem_map.1 ht
  exact h i (by simpa using hi)

def BuildRel (n : Nat) (f : Nat → TermD) (w : World) (i : Value) (wr : World) : Prop :=
  ∃ k : Nat, k ≤ n ∧ i = .int .i64 k ∧ (∃ F G, Pair w.heap.size wr (w.heap.size + 1) (w.heap.size + 2) (buildL (termsL k f)) (buildL (termsL k f)) F G) ∧ Below w.heap.size w wr

def BuildPost (n : Nat) (f : Nat → TermD) (w : World) (e : Ending) (w' : World) : Prop :=
  e = .returned (.tuple #[.pointer (some ⟨w.heap.size + 1, 0, none⟩), .pointer (some ⟨w.heap.size + 2, 0, none⟩), .bool true]) ∧
    (∃ F G, Pair w.heap.size w' (w.heap.size + 1) (w.heap.size + 2) (buildL (termsL n f)) (buildL (termsL n f)) F G) ∧ Below w.heap.size w w'

set_option maxRecDepth 100000 in
set_option maxHeartbeats 1600000 in
theorem build_any (a : Option Addr) (n c : Nat) (f : Nat → TermD) (hn : n ≤ 2000) (hok : ∀ i, i < n → (f i).ok) (w : World) (h : Terms w a n f) :
    Calls Tryz.prog 8 #[.slice a n c] w (BuildPost n f w) := by
  have H := Lib.hid h; clear h
  have Hok := Lib.hid hok; clear hok
  have hps := snew_store w
  have hb2 := ((Below.refl w.heap.size w).alloc (Nat.le_refl _) (.map #[] 0)).alloc (by simp) (.cells #[.slice none 0 0, .map (some w.heap.size)] 104)
  have hrs := rnew_store ((w.alloc (.map #[] 0)).alloc (.cells #[.slice none 0 0, .map (some w.heap.size)] 104))
  have hb3 := hb2.alloc (by simp; omega) (.cells #[.slice none 0 0] 134)
  have hps3 := hps.new ((Below.refl _ _).alloc (Nat.le_refl _) (.cells #[.slice none 0 0] 134))
  have hsz : ((w.alloc (.map #[] 0)).alloc (.cells #[.slice none 0 0, .map (some w.heap.size)] 104)).heap.size = w.heap.size + 2 := by simp
  rw [hsz] at hrs
  have hst : BuildRel n f w (.int .i64 0) (((w.alloc (.map #[] 0)).alloc (.cells #[.slice none 0 0, .map (some w.heap.size)] 104)).alloc (.cells #[.slice none 0 0] 134)) :=
    ⟨0, Nat.zero_le _, rfl, ⟨_, _, hps3, hrs, fun k hk hk' => by omega, fun k hk => by omega, fun k hk => by omega⟩, hb3⟩
  have Hst := Lib.hid hst; clear hst hps hrs hb2 hb3 hps3 hsz
  go_enter Tryz.func8, Tryz.ntmps8
  go_wp2_with (first
    | (go_at_call 24; refine (snew_any _).mono ?_; rintro e w1 ⟨rfl, rfl⟩)
    | (go_at_call 25; refine (rnew_any _).mono ?_; rintro e w1 ⟨rfl, rfl⟩))
  go_loopw [7] (fun i wr => BuildRel n f w i wr) (fun i _ => n - (intOf i).toNat)
  case atStart => exact Hst.out
  case round =>
    obtain ⟨k, hk, rfl, ⟨F, G, hp⟩, hb⟩ := hrel
    have hB := hb.size
    have HB := Lib.hid hB; clear hB
    have Hb := Lib.hid hb; clear hb
    have Hp := Lib.hid hp; clear hp
    by_cases hlt : k < n
    · obtain ⟨tb, to, rfl, q0, q1, q2, q3⟩ := H.out k hlt
      have hlt0 := World.block_lt_of_cell? w _ q0
      simp only at hlt0
      have hq : ∀ W, Below w.heap.size w W → W.cell? ⟨tb, to + k * 4, none⟩ = some (.int .u8 (f k).kind) ∧ W.cell? ⟨tb, to + k * 4 + 1, none⟩ = some (.int .i64 (f k).n) ∧ W.cell? ⟨tb, to + k * 4 + 2, none⟩ = some (.int .i64 (f k).a) ∧ W.cell? ⟨tb, to + k * 4 + 3, none⟩ = some (.int .i64 (f k).b) :=
        fun W hW => ⟨(hW.cell (p := ⟨tb, to + k * 4, none⟩) hlt0).trans q0, (hW.cell (p := ⟨tb, to + k * 4 + 1, none⟩) hlt0).trans q1, (hW.cell (p := ⟨tb, to + k * 4 + 2, none⟩) hlt0).trans q2, (hW.cell (p := ⟨tb, to + k * 4 + 3, none⟩) hlt0).trans q3⟩
      obtain ⟨t0, t1, t2, t3⟩ := hq wr Hb.out
      have Hq := Lib.hid hq; clear hq q0 q1 q2 q3
      have hgood := buildL_facts (termsL k f) (termsL_ok (fun i hi => Hok.out i (by omega)))
      have hlen : (buildL (termsL k f)).length < 1048576 := by
        have := hgood.2
        rw [termsL_len] at this
        omega
      have hsucc : buildL (termsL (k + 1) f) = makeL (buildL (termsL k f)) (f k) := by rw [termsL_succ, buildL_snoc]
      have hft := Hok.out k hlt
      have hm1 := fun W hW => smake_any (w.heap.size + 1) F (buildL (termsL k f)) (f k) hft hgood.1 hlen W hW
      have hm2 := fun W hW => rmake_any (w.heap.size + 2) G (buildL (termsL k f)) (f k) hft hgood.1 hlen W hW
      unfold SMakePost at hm1
      unfold RMakePost at hm2
      have Hm1 := Lib.hid hm1; clear hm1
      have Hm2 := Lib.hid hm2; clear hm2
      have Hsucc := Lib.hid hsucc; clear hsucc hgood hlen hft
      have hkn : (k : Int) < n := by omega
      go_wp2_with fail
      refine (Hm1.out _ Hp.out.ps).mono ?_
      rintro e w1 ⟨rfl, F1, hx1, hs1, hT1⟩
      obtain ⟨hp1, hb1⟩ := Hp.out.left HB.out hx1 hs1 hT1
      have Hb1 := Lib.hid (Hb.out.trans hb1)
      have Hp1 := Lib.hid hp1
      have HB1 := Lib.hid (Nat.le_trans HB.out hb1.size)
      clear hx1 hs1 hT1 hp1 hb1 t0 t1 t2 t3
      obtain ⟨t0, t1, t2, t3⟩ := Hq.out w1 Hb1.out
      go_wp2_with fail
      refine (Hm2.out _ Hp1.out.rs).mono ?_
      rintro e w2 ⟨rfl, G1, hx2, hs2, hT2⟩
      obtain ⟨hp2, hb2⟩ := Hp1.out.right HB1.out hx2 hs2 hT2
      have Hb2 := Lib.hid (Hb1.out.trans hb2)
      have Hp2 := Lib.hid hp2
      clear hx2 hs2 hT2 hp2 hb2 t0 t1 t2 t3
      go_wp2
      exact ⟨⟨k + 1, by omega, by go_num, ⟨F1, G1, by rw [Hsucc.out]; exact Hp2.out⟩, Hb2.out⟩, by simp [intOf]; omega⟩
    · obtain rfl : k = n := by omega
      go_wp2
      go_ret3
      exact ⟨rfl, ⟨F, G, Hp.out⟩, Hb.out⟩
end Go.Proofs.YtagccbpjpcnmeaaGreatDoor
