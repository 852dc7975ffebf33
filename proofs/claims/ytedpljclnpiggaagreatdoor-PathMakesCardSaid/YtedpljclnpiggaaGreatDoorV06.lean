/- index at a tree of two leaves: up, Direct. -/
import Derived.Test.YtedpljclnpiggaaGreatDoorV05
set_option linter.unusedVariables false
set_option linter.unusedSimpArgs false
set_option maxRecDepth 100000
set_option maxHeartbeats 12800000
namespace Go.Proofs.YtedpljclnpiggaaGreatDoor
section
open Go Go.RowKit
theorem slist_none (s : Nat) (F : Nat → Prop) (L : List TermD) (w : World) (h : ProgStore w s F L) :
    Calls Tryz.prog 173 #[.pointer (some ⟨s, 0, none⟩), .slice none 0 0] w fun e w' => e = .returned (.tuple #[.int .i64 0, .int .i64 0]) ∧ w' = w := by
 have Hm := hQ (smade_any s F L w h); clear h
 go_enter Tryz.func173, Tryz.ntmps173
 go_wp2_with (go_at_call 170; refine Hm.out.mono ?_; rintro e wx ⟨rfl, rfl⟩)
 refine wp_loop_rounds 1 ?_
 rw [rounds_succ]
 go_wp2
 go_ret2
 exact ⟨rfl, rfl⟩
theorem slist_nil (w : World) :
    Calls Tryz.prog 173 #[.pointer none, .slice none 0 0] w fun e w' => e = .returned (.tuple #[.int .i64 0, .int .i64 2]) ∧ w' = w := by
 have Hm := hQ (smade_nil w)
 go_enter Tryz.func173, Tryz.ntmps173
 go_wp2_with (go_at_call 170; refine Hm.out.mono ?_; rintro e wx ⟨rfl, rfl⟩)
 go_ret2
 exact ⟨rfl, rfl⟩
theorem palive_any (s : Nat) (F : Nat → Prop) (L : List TermD) (w : World) (h : ProgStore w s F L) :
    Calls Tryz.prog 36 #[.pointer (some ⟨s, 0, none⟩)] w fun e w' => e = .returned (.bool true) ∧ w' = w := by
 have Hm := hQ (slist_none s F L w h); clear h
 go_enter Tryz.func36, Tryz.ntmps36
 go_wp2_with (go_at_call 173; refine Hm.out.mono ?_; rintro e wx ⟨rfl, rfl⟩)
 go_ret
 exact ⟨rfl, rfl⟩
theorem palive_nil (w : World) :
    Calls Tryz.prog 36 #[.pointer none] w fun e w' => e = .returned (.bool false) ∧ w' = w := by
 have Hm := hQ (slist_nil w)
 go_enter Tryz.func36, Tryz.ntmps36
 go_wp2_with (go_at_call 173; refine Hm.out.mono ?_; rintro e wx ⟨rfl, rfl⟩)
 go_ret
 exact ⟨rfl, rfl⟩
theorem slen_any (s : Nat) (F : Nat → Prop) (L : List TermD) (w : World) (h : ProgStore w s F L) :
    Calls Tryz.prog 42 #[.pointer (some ⟨s, 0, none⟩)] w fun e w' => e = .returned (.int .i64 L.length) ∧ w' = w := by
 have Hm := hQ (smade_any s F L w h)
 obtain ⟨v, mb, D, hrow, hown, _⟩ := h
 obtain ⟨va, vc, rfl, _⟩ := ownT_len hown
 have c0 : w.cell? ⟨s, 0, none⟩ = some (.slice va L.length vc) := by rw [cRw hrow]; rfl
 clear hrow hown
 go_enter Tryz.func42, Tryz.ntmps42
 go_wp2_with (go_at_call 170; refine Hm.out.mono ?_; rintro e wx ⟨rfl, rfl⟩)
 go_ret
 exact ⟨rfl, rfl⟩
theorem ret3 {x y z a b c : Int} (h1 : x = a) (h2 : y = b) (h3 : z = c) : Ending.returned (.tuple #[.int .i64 x, .int .i64 y, .int .i64 z]) = .returned (.tuple #[.int .i64 a, .int .i64 b, .int .i64 c]) := by rw [h1, h2, h3]
theorem RefStore.new {w w' : World} {r : Nat} {F : Nat → Prop} {L : List TermD} (h : RefStore w r F L) (hb : Below w.heap.size w w') : RefStore w' r F L := h.kept (Turned.new (fun _ => False) hb) (fun _ _ h => h)
theorem ProgStore.new {w w' : World} {s : Nat} {F : Nat → Prop} {L : List TermD} (h : ProgStore w s F L) (hb : Below w.heap.size w w') : ProgStore w' s F L := h.kept (Turned.new (fun _ => False) hb) (fun _ _ h => h)
theorem foot_trans {F F' F'' : Nat → Prop} {a b c : World} (hx : Ext F F' a b) (hT : Turned F a b) (hx' : Ext F' F'' b c) (hT' : Turned F' b c) : Ext F F'' a c ∧ Turned F a c :=
 ⟨hx.trans hx' hT.size hT'.size, hT.trans hT' (fun k hk h => (hx k h).elim id (fun h2 => absurd h2.1 (Nat.not_le_of_lt hk)))⟩
theorem rnode_any (r : Nat) (F : Nat → Prop) (L : List TermD) (x : Int) (hG : Good L) (hl : L.length ≤ 5000) (w : World) (h : RefStore w r F L) :
    Calls Tryz.prog 10 #[.pointer (some ⟨r, 0, none⟩), .int .i64 x] w (RPost r F (nodeT L x) (.tuple #[.int .i64 (nodeK L x), .int .i64 (nodeP L x), .int .i64 (nodeE L x)]) w) := by
 have his := ris_any r F L x w h (by omega)
 cases hx : thereD L.length x with
 | false =>
  rw [hx] at his
  have His := hQ his; clear his
  have hk : nodeK L x = 0 ∧ nodeP L x = 0 ∧ nodeE L x = 1 ∧ nodeT L x = L := by unfold nodeK nodeP nodeE nodeT; rw [hx]; simp
  have Hk := hQ hk; clear hk hx
  have H := hQ h; clear h
  go_enter Tryz.func10, Tryz.ntmps10
  go_wp2_with fail
  refine His.out.mono ?_
  rintro e w1 ⟨rfl, hb1⟩
  have Hb1 := hQ hb1; clear hb1
  go_wp2
  go_ret3
  exact ⟨ret3 Hk.out.1.symm Hk.out.2.1.symm Hk.out.2.2.1.symm, F, Ext.refl _ _ _, by rw [Hk.out.2.2.2]; exact H.out.new Hb1.out, Turned.new F Hb1.out⟩
 | true =>
  rw [hx] at his
  have His := hQ his; clear his
  have hk : nodeK L x = makeN L (kdfT 2 x) ∧ nodeP L x = makeN (makeL L (kdfT 2 x)) (pubT (makeN L (kdfT 2 x))) ∧ nodeE L x = 0 ∧ nodeT L x = makeL (makeL L (kdfT 2 x)) (pubT (makeN L (kdfT 2 x))) := by unfold nodeK nodeP nodeE nodeT; rw [hx]; simp
  have hm := make_ok (may_kdf (label := 2) (by omega) hx) (by omega : L.length < 1048576)
  have h1 := makeL_len L (kdfT 2 x)
  have hk1 : (kdfT 2 x).ok := kdf_ok (by simp [i64ok]) (there_i64 hx (by omega))
  have hk2 : (pubT (makeN L (kdfT 2 x))).ok := pub_ok (there_i64 hm.2 (by omega))
  have hkdf := fun W hW => rkdf_any r F L 2 x 0 hk1 hG (by omega) W hW
  have hpub := fun F' W hW => rpub_any r F' (makeL L (kdfT 2 x)) (makeN L (kdfT 2 x)) hk2 (hG.make hk1) (by omega) W hW
  have Hk := hQ hk; clear hk hm h1 hk1 hk2
  change ∀ W, RefStore W r F L → Calls _ _ _ _ (RPost r F (makeL L (kdfT 2 x)) (.int .i64 (makeN L (kdfT 2 x))) W) at hkdf
  change ∀ F' W, RefStore W r F' (makeL L (kdfT 2 x)) → Calls _ _ _ _ (RPost r F' (makeL (makeL L (kdfT 2 x)) (pubT (makeN L (kdfT 2 x)))) (.int .i64 (makeN (makeL L (kdfT 2 x)) (pubT (makeN L (kdfT 2 x))))) W) at hpub
  generalize makeN (makeL L (kdfT 2 x)) (pubT (makeN L (kdfT 2 x))) = pv at Hk hpub
  generalize makeN L (kdfT 2 x) = kv at Hk hkdf hpub
  have Hkdf := hQ hkdf; clear hkdf
  have Hpub := hQ hpub; clear hpub hx
  have H := hQ h; clear h
  go_enter Tryz.func10, Tryz.ntmps10
  go_wp2_with fail
  refine His.out.mono ?_
  rintro e w1 ⟨rfl, hb1⟩
  have Hb1 := hQ hb1; clear hb1
  go_wp2_with fail
  refine (Hkdf.out _ (H.out.new Hb1.out)).mono ?_
  rintro e w2 ⟨rfl, F1, hx1, hs1, hT1⟩
  have Hx1 := hQ hx1; clear hx1
  have Hs1 := hQ hs1; clear hs1
  have HT1 := hQ hT1; clear hT1
  go_wp2_with fail
  refine (Hpub.out F1 _ Hs1.out).mono ?_
  rintro e w3 ⟨rfl, F2, hx2, hs2, hT2⟩
  have Hx2 := hQ hx2; clear hx2
  have Hs2 := hQ hs2; clear hs2
  have HT2 := hQ hT2; clear hT2
  go_wp2
  go_ret3
  obtain ⟨a1, a2⟩ := foot_trans (Ext.refl F w w1) (Turned.new F Hb1.out) Hx1.out HT1.out
  obtain ⟨a3, a4⟩ := foot_trans a1 a2 Hx2.out HT2.out
  exact ⟨ret3 Hk.out.1.symm Hk.out.2.1.symm Hk.out.2.2.1.symm, F2, a3, by rw [Hk.out.2.2.2]; exact Hs2.out, a4⟩
theorem snode_any (s : Nat) (F : Nat → Prop) (L : List TermD) (x : Int) (hG : Good L) (hl : L.length ≤ 5000) (w : World) (h : ProgStore w s F L) :
    Calls Tryz.prog 9 #[.pointer (some ⟨s, 0, none⟩), .int .i64 x] w (SPost s F (nodeT L x) (.tuple #[.int .i64 (nodeK L x), .int .i64 (nodeP L x), .int .i64 (nodeE L x)]) w) := by
 have hal := palive_any s F L w h
 have Hal := hQ hal; clear hal
 have his := sis_any s F L x w h (by omega)
 cases hx : thereD L.length x with
 | false =>
  rw [hx] at his
  have His := hQ his; clear his
  have hk : nodeK L x = 0 ∧ nodeP L x = 0 ∧ nodeE L x = 1 ∧ nodeT L x = L := by unfold nodeK nodeP nodeE nodeT; rw [hx]; simp
  have Hk := hQ hk; clear hk hx
  have H := hQ h; clear h
  go_enter Tryz.func9, Tryz.ntmps9
  go_wp2_with fail
  refine Hal.out.mono ?_
  rintro e wx ⟨rfl, hwx⟩; subst wx
  go_wp2_with fail
  refine His.out.mono ?_
  rintro e w1 ⟨rfl, hb1⟩
  have Hb1 := hQ hb1; clear hb1
  go_wp2
  go_ret3
  exact ⟨ret3 Hk.out.1.symm Hk.out.2.1.symm Hk.out.2.2.1.symm, F, Ext.refl _ _ _, by rw [Hk.out.2.2.2]; exact H.out.new Hb1.out, Turned.new F Hb1.out⟩
 | true =>
  rw [hx] at his
  have His := hQ his; clear his
  have hk : nodeK L x = makeN L (kdfT 2 x) ∧ nodeP L x = makeN (makeL L (kdfT 2 x)) (pubT (makeN L (kdfT 2 x))) ∧ nodeE L x = 0 ∧ nodeT L x = makeL (makeL L (kdfT 2 x)) (pubT (makeN L (kdfT 2 x))) := by unfold nodeK nodeP nodeE nodeT; rw [hx]; simp
  have hm := make_ok (may_kdf (label := 2) (by omega) hx) (by omega : L.length < 1048576)
  have h1 := makeL_len L (kdfT 2 x)
  have hk1 : (kdfT 2 x).ok := kdf_ok (by simp [i64ok]) (there_i64 hx (by omega))
  have hk2 : (pubT (makeN L (kdfT 2 x))).ok := pub_ok (there_i64 hm.2 (by omega))
  have hm2 := make_ok (may_pub hm.2) (by omega : (makeL L (kdfT 2 x)).length < 1048576)
  have hkdf := fun W hW => derived_any s F L 2 x hk1 hG (by omega) W hW
  have hpub := fun F' W hW => smake_any s F' (makeL L (kdfT 2 x)) (pubT (makeN L (kdfT 2 x))) hk2 (hG.make hk1) (by omega) W hW
  have Hk := hQ hk; clear hk h1 hk1 hk2
  change ∀ W, ProgStore W s F L → Calls _ _ _ _ (SPost s F (makeL L (kdfT 2 x)) (.tuple #[.int .i64 (makeN L (kdfT 2 x)), .int .i64 (makeE L (kdfT 2 x))]) W) at hkdf
  unfold SMakePost at hpub
  rw [hm.1] at hkdf
  rw [hm2.1] at hpub
  generalize makeN (makeL L (kdfT 2 x)) (pubT (makeN L (kdfT 2 x))) = pv at Hk hpub
  unfold pubT at hpub
  dsimp only at hpub
  have hkeep : nodeT L x = makeL (makeL L (kdfT 2 x)) ⟨5, 0, makeN L (kdfT 2 x), 0⟩ := Hk.out.2.2.2
  have Hkeep := hQ hkeep; clear hkeep
  have Hk1 := hQ Hk.out.1
  have Hk2 := hQ Hk.out.2.1
  have Hk3 := hQ Hk.out.2.2.1
  clear Hk hm hm2
  generalize makeN L (kdfT 2 x) = kv at Hk1 hkdf hpub Hkeep
  have Hkdf := hQ hkdf; clear hkdf
  have Hpub := hQ hpub; clear hpub hx
  have H := hQ h; clear h
  go_enter Tryz.func9, Tryz.ntmps9
  go_wp2_with fail
  refine Hal.out.mono ?_
  rintro e wx ⟨rfl, hwx⟩; subst wx
  go_wp2_with fail
  refine His.out.mono ?_
  rintro e w1 ⟨rfl, hb1⟩
  have Hb1 := hQ hb1; clear hb1
  go_wp2_with fail
  refine (Hkdf.out _ (H.out.new Hb1.out)).mono ?_
  rintro e w2 ⟨rfl, F1, hx1, hs1, hT1⟩
  have Hx1 := hQ hx1; clear hx1
  have Hs1 := hQ hs1; clear hs1
  have HT1 := hQ hT1; clear hT1
  go_wp2_with fail
  refine (Hpub.out F1 _ Hs1.out).mono ?_
  rintro e w3 ⟨rfl, F2, hx2, hs2, hT2⟩
  have Hx2 := hQ hx2; clear hx2
  have Hs2 := hQ hs2; clear hs2
  have HT2 := hQ hT2; clear hT2
  go_wp2
  go_ret3
  obtain ⟨a1, a2⟩ := foot_trans (Ext.refl F w w1) (Turned.new F Hb1.out) Hx1.out HT1.out
  obtain ⟨a3, a4⟩ := foot_trans a1 a2 Hx2.out HT2.out
  exact ⟨ret3 Hk1.out.symm Hk2.out.symm Hk3.out.symm, F2, a3, by rw [Hkeep.out]; exact Hs2.out, a4⟩
end
section
open Go Go.RowKit
theorem Terms.below {B : Nat} {w w' : World} {a : Option Addr} {n : Nat} {f : Nat → TermD} (h : Terms w a n f) (hb : Below B w w') (hB : w.heap.size ≤ B) : Terms w' a n f := fun i hi => by
 obtain ⟨b, o, rfl, c0, c1, c2, c3⟩ := h i hi
 have hlt : b < B := Nat.lt_of_lt_of_le (World.block_lt_of_cell? w _ c0) hB
 exact ⟨b, o, rfl, (hb.cell (p := ⟨b, o + i * 4, none⟩) hlt).trans c0, (hb.cell (p := ⟨b, o + i * 4 + 1, none⟩) hlt).trans c1, (hb.cell (p := ⟨b, o + i * 4 + 2, none⟩) hlt).trans c2, (hb.cell (p := ⟨b, o + i * 4 + 3, none⟩) hlt).trans c3⟩
structure Pair (B : Nat) (w : World) (s r : Nat) (L M : List TermD) (F G : Nat → Prop) : Prop where
 ps : ProgStore w s F L
 rs : RefStore w r G M
 ap : ∀ k, F k → ¬ G k
 lf : ∀ k, F k → B ≤ k
 lg : ∀ k, G k → B ≤ k
theorem RefStore.lt {w : World} {r : Nat} {F : Nat → Prop} {L : List TermD} (h : RefStore w r F L) : ∀ k, F k → k < w.heap.size := by
 obtain ⟨_, _, _, _, h4⟩ := h
 exact h4
theorem ProgStore.lt {w : World} {s : Nat} {F : Nat → Prop} {L : List TermD} (h : ProgStore w s F L) : ∀ k, F k → k < w.heap.size := by
 obtain ⟨_, _, _, _, _, _, _, _, h6⟩ := h
 exact h6
theorem Pair.left {B : Nat} {w w' : World} {s r : Nat} {L L' M : List TermD} {F F' G : Nat → Prop} (h : Pair B w s r L M F G) (hB : B ≤ w.heap.size) (hx : Ext F F' w w') (hs : ProgStore w' s F' L') (hT : Turned F w w') : Pair B w' s r L' M F' G ∧ Below B w w' :=
 ⟨⟨hs, h.rs.kept hT (fun k hk hf => h.ap k hf hk), fun k hk hg => (hx k hk).elim (fun hf => h.ap k hf hg) (fun h2 => absurd h2.1 (Nat.not_le_of_lt (h.rs.lt k hg))), fun k hk => (hx k hk).elim (h.lf k) (fun h2 => Nat.le_trans hB h2.1), h.lg⟩, hT.below hB h.lf⟩
theorem Pair.right {B : Nat} {w w' : World} {s r : Nat} {L M M' : List TermD} {F G G' : Nat → Prop} (h : Pair B w s r L M F G) (hB : B ≤ w.heap.size) (hx : Ext G G' w w') (hs : RefStore w' r G' M') (hT : Turned G w w') : Pair B w' s r L M' F G' ∧ Below B w w' :=
 ⟨⟨h.ps.kept hT (fun k hk hf => h.ap k hk hf), hs, fun k hf hk => (hx k hk).elim (fun hg => h.ap k hf hg) (fun h2 => absurd h2.1 (Nat.not_le_of_lt (h.ps.lt k hf))), h.lf, fun k hk => (hx k hk).elim (h.lg k) (fun h2 => Nat.le_trans hB h2.1)⟩, hT.below hB h.lg⟩
theorem Pair.new {B : Nat} {w w' : World} {s r : Nat} {L M : List TermD} {F G : Nat → Prop} (h : Pair B w s r L M F G) (hb : Below w.heap.size w w') : Pair B w' s r L M F G := ⟨h.ps.new hb, h.rs.new hb, h.ap, h.lf, h.lg⟩
def termsL (n : Nat) (f : Nat → TermD) : List TermD := (List.range n).map f
theorem termsL_succ (n : Nat) (f : Nat → TermD) : termsL (n + 1) f = termsL n f ++ [f n] := by unfold termsL; rw [List.range_succ, List.map_append]; rfl
theorem termsL_len (n : Nat) (f : Nat → TermD) : (termsL n f).length = n := by simp [termsL]
theorem termsL_ok {n : Nat} {f : Nat → TermD} (h : ∀ i, i < n → (f i).ok) : ∀ t ∈ termsL n f, t.ok := by
 intro t ht
 obtain ⟨i, hi, rfl⟩ := List.mem_map.1 ht
 exact h i (by simpa using hi)
def BuildRel (n : Nat) (f : Nat → TermD) (w : World) (i : Value) (wr : World) : Prop :=
 ∃ k : Nat, k ≤ n ∧ i = .int .i64 k ∧ (∃ F G, Pair w.heap.size wr (w.heap.size + 1) (w.heap.size + 2) (buildL (termsL k f)) (buildL (termsL k f)) F G) ∧ Below w.heap.size w wr
def BuildPost (n : Nat) (f : Nat → TermD) (w : World) (e : Ending) (w' : World) : Prop :=
 e = .returned (.tuple #[.pointer (some ⟨w.heap.size + 1, 0, none⟩), .pointer (some ⟨w.heap.size + 2, 0, none⟩), .bool true]) ∧
  (∃ F G, Pair w.heap.size w' (w.heap.size + 1) (w.heap.size + 2) (buildL (termsL n f)) (buildL (termsL n f)) F G) ∧ Below w.heap.size w w'
theorem build_any (a : Option Addr) (n c : Nat) (f : Nat → TermD) (hn : n ≤ 2000) (hok : ∀ i, i < n → (f i).ok) (w : World) (h : Terms w a n f) :
    Calls Tryz.prog 6 #[.slice a n c] w (BuildPost n f w) := by
 have H := hQ h; clear h
 have Hok := hQ hok; clear hok
 have hps := snew_store w
 have hb2 := ((Below.refl w.heap.size w).alloc (Nat.le_refl _) (.map #[] 0)).alloc (by simp) (.cells #[.slice none 0 0, .map (some w.heap.size)] 154)
 have hrs := rnew_store ((w.alloc (.map #[] 0)).alloc (.cells #[.slice none 0 0, .map (some w.heap.size)] 154))
 have hb3 := hb2.alloc (by simp; omega) (.cells #[.slice none 0 0] 156)
 have hps3 := hps.new ((Below.refl _ _).alloc (Nat.le_refl _) (.cells #[.slice none 0 0] 156))
 have hsz : ((w.alloc (.map #[] 0)).alloc (.cells #[.slice none 0 0, .map (some w.heap.size)] 154)).heap.size = w.heap.size + 2 := by simp
 rw [hsz] at hrs
 have hst : BuildRel n f w (.int .i64 0) (((w.alloc (.map #[] 0)).alloc (.cells #[.slice none 0 0, .map (some w.heap.size)] 154)).alloc (.cells #[.slice none 0 0] 156)) :=
  ⟨0, Nat.zero_le _, rfl, ⟨_, _, hps3, hrs, fun k hk hk' => by omega, fun k hk => by omega, fun k hk => by omega⟩, hb3⟩
 have Hst := hQ hst; clear hst hps hrs hb2 hb3 hps3 hsz
 go_enter Tryz.func6, Tryz.ntmps6
 go_wp2_with (first
  | (go_at_call 32; refine (snew_any _).mono ?_; rintro e w1 ⟨rfl, rfl⟩)
  | (go_at_call 33; refine (rnew_any _).mono ?_; rintro e w1 ⟨rfl, rfl⟩))
 go_loopw [7] (fun i wr => BuildRel n f w i wr) (fun i _ => n - (intOf i).toNat)
 case atStart => exact Hst.out
 case round =>
  obtain ⟨k, hk, rfl, ⟨F, G, hp⟩, hb⟩ := hrel
  have hB := hb.size
  have HB := hQ hB; clear hB
  have Hb := hQ hb; clear hb
  have Hp := hQ hp; clear hp
  by_cases hlt : k < n
  · obtain ⟨tb, to, rfl, q0, q1, q2, q3⟩ := H.out k hlt
    have hlt0 := World.block_lt_of_cell? w _ q0
    simp only at hlt0
    have hq : ∀ W, Below w.heap.size w W → W.cell? ⟨tb, to + k * 4, none⟩ = some (.int .u8 (f k).kind) ∧ W.cell? ⟨tb, to + k * 4 + 1, none⟩ = some (.int .i64 (f k).n) ∧ W.cell? ⟨tb, to + k * 4 + 2, none⟩ = some (.int .i64 (f k).a) ∧ W.cell? ⟨tb, to + k * 4 + 3, none⟩ = some (.int .i64 (f k).b) :=
     fun W hW => ⟨(hW.cell (p := ⟨tb, to + k * 4, none⟩) hlt0).trans q0, (hW.cell (p := ⟨tb, to + k * 4 + 1, none⟩) hlt0).trans q1, (hW.cell (p := ⟨tb, to + k * 4 + 2, none⟩) hlt0).trans q2, (hW.cell (p := ⟨tb, to + k * 4 + 3, none⟩) hlt0).trans q3⟩
    obtain ⟨t0, t1, t2, t3⟩ := hq wr Hb.out
    have Hq := hQ hq; clear hq q0 q1 q2 q3
    have hgood := buildL_facts (termsL k f) (termsL_ok (fun i hi => Hok.out i (by omega)))
    have hlen : (buildL (termsL k f)).length < 1048576 := by
     have := hgood.2
     rw [termsL_len] at this
     omega
    have hsucc : buildL (termsL (k + 1) f) = makeL (buildL (termsL k f)) (f k) := by rw [termsL_succ, buildL_snoc]
    have hft := Hok.out k hlt
    have hm1 := fun W hW => smake_any (w.heap.size + 1) F (buildL (termsL k f)) (f k) hft hgood.1 hlen W hW
    have hm2 := fun W hW => rmake_any (w.heap.size + 2) G (buildL (termsL k f)) (f k) hft hgood.1 hlen W hW
    unfold SMakePost at hm1
    unfold RMakePost at hm2
    have Hm1 := hQ hm1; clear hm1
    have Hm2 := hQ hm2; clear hm2
    have Hsucc := hQ hsucc; clear hsucc hgood hlen hft
    have hkn : (k : Int) < n := by omega
    go_wp2_with fail
    refine (Hm1.out _ Hp.out.ps).mono ?_
    rintro e w1 ⟨rfl, F1, hx1, hs1, hT1⟩
    obtain ⟨hp1, hb1⟩ := Hp.out.left HB.out hx1 hs1 hT1
    have Hb1 := hQ (Hb.out.trans hb1)
    have Hp1 := hQ hp1
    have HB1 := hQ (Nat.le_trans HB.out hb1.size)
    clear hx1 hs1 hT1 hp1 hb1 t0 t1 t2 t3
    obtain ⟨t0, t1, t2, t3⟩ := Hq.out w1 Hb1.out
    go_wp2_with fail
    refine (Hm2.out _ Hp1.out.rs).mono ?_
    rintro e w2 ⟨rfl, G1, hx2, hs2, hT2⟩
    obtain ⟨hp2, hb2⟩ := Hp1.out.right HB1.out hx2 hs2 hT2
    have Hb2 := hQ (Hb1.out.trans hb2)
    have Hp2 := hQ hp2
    clear hx2 hs2 hT2 hp2 hb2 t0 t1 t2 t3
    go_wp2
    exact ⟨⟨k + 1, by omega, by go_num, ⟨F1, G1, by rw [Hsucc.out]; exact Hp2.out⟩, Hb2.out⟩, by simp [intOf]; omega⟩
  · obtain rfl : k = n := by omega
    go_wp2
    go_ret3
    exact ⟨rfl, ⟨F, G, Hp.out⟩, Hb.out⟩
end
section
open Go Go.RowKit
structure TzEnv (w : World) : Prop where
 t0 : w.cell? ⟨0, 0, none⟩ = some (.int .u8 0)
 t1 : w.cell? ⟨0, 1, none⟩ = some (.int .u8 1)
theorem tz_0 (w : World) (h : TzEnv w) :
    Calls Tryz.prog 326 #[.int .u64 18446744073709551615] w fun e w' => e = .returned (.int .i64 0) ∧ w' = w := by
 have h0 := h.t0
 have e1 : IntKind.u64.wrap (-18446744073709551615) = 1 := by decide +kernel
 have e2 : bits BinOp.and IntKind.u64 18446744073709551615 1 = 1 := by decide +kernel
 have e3 : IntKind.u64.wrap 285870213051353865 = 285870213051353865 := by decide +kernel
 go_enter Tryz.func326, Tryz.ntmps326
 go_wp2
 go_ret
 exact ⟨rfl, rfl⟩
theorem tz_1 (w : World) (h : TzEnv w) :
    Calls Tryz.prog 326 #[.int .u64 18446744073709551614] w fun e w' => e = .returned (.int .i64 1) ∧ w' = w := by
 have h0 := h.t1
 have e1 : IntKind.u64.wrap (-18446744073709551614) = 2 := by decide +kernel
 have e2 : bits BinOp.and IntKind.u64 18446744073709551614 2 = 2 := by decide +kernel
 have e3 : IntKind.u64.wrap 571740426102707730 = 571740426102707730 := by decide +kernel
 go_enter Tryz.func326, Tryz.ntmps326
 go_wp2
 go_ret
 exact ⟨rfl, rfl⟩
theorem tz_2 (w : World) (h : TzEnv w) :
    Calls Tryz.prog 326 #[.int .u64 18446744073709551613] w fun e w' => e = .returned (.int .i64 0) ∧ w' = w := by
 have h0 := h.t0
 have e1 : IntKind.u64.wrap (-18446744073709551613) = 3 := by decide +kernel
 have e2 : bits BinOp.and IntKind.u64 18446744073709551613 3 = 1 := by decide +kernel
 have e3 : IntKind.u64.wrap 285870213051353865 = 285870213051353865 := by decide +kernel
 go_enter Tryz.func326, Tryz.ntmps326
 go_wp2
 go_ret
 exact ⟨rfl, rfl⟩
theorem level_0 (w : World) (h : TzEnv w) : Calls Tryz.prog 304 #[.int .i64 0] w fun e w' => e = .returned (.int .i64 0) ∧ w' = w := by
 have H := hQ (tz_0 w h); clear h
 go_enter Tryz.func304, Tryz.ntmps304
 go_wp2_with fail
 refine H.out.mono ?_
 rintro e wx ⟨rfl, hwx⟩
 subst wx
 go_wp2
 go_ret
 exact ⟨rfl, rfl⟩
theorem level_1 (w : World) (h : TzEnv w) : Calls Tryz.prog 304 #[.int .i64 1] w fun e w' => e = .returned (.int .i64 1) ∧ w' = w := by
 have H := hQ (tz_1 w h); clear h
 go_enter Tryz.func304, Tryz.ntmps304
 go_wp2_with fail
 refine H.out.mono ?_
 rintro e wx ⟨rfl, hwx⟩
 subst wx
 go_wp2
 go_ret
 exact ⟨rfl, rfl⟩
theorem level_2 (w : World) (h : TzEnv w) : Calls Tryz.prog 304 #[.int .i64 2] w fun e w' => e = .returned (.int .i64 0) ∧ w' = w := by
 have H := hQ (tz_2 w h); clear h
 go_enter Tryz.func304, Tryz.ntmps304
 go_wp2_with fail
 refine H.out.mono ?_
 rintro e wx ⟨rfl, hwx⟩
 subst wx
 go_wp2
 go_ret
 exact ⟨rfl, rfl⟩
theorem itree_2 (w : World) : Calls Tryz.prog 323 #[.int .i64 2] w fun e w' => e = .returned (.bool true) ∧ w' = w := by
 go_enter Tryz.func323, Tryz.ntmps323
 go_wp2
 go_ret
 exact ⟨rfl, rfl⟩
end
section
open Go Go.RowKit
theorem iwidth_2 (w : World) : Calls Tryz.prog 298 #[.int .i64 2] w fun e w' => e = .returned (.int .i64 3) ∧ w' = w := by
 have H := hQ (itree_2 w)
 go_enter Tryz.func298, Tryz.ntmps298
 go_wp2_with (go_at_call 323; refine H.out.mono ?_; rintro e wx ⟨rfl, hwx⟩; subst wx)
 go_ret
 exact ⟨rfl, rfl⟩
theorem iin_0 (w : World) : Calls Tryz.prog 306 #[.int .i64 0, .int .i64 2] w fun e w' => e = .returned (.bool true) ∧ w' = w := by
 have H := hQ (itree_2 w)
 go_enter Tryz.func306, Tryz.ntmps306
 go_wp2_with (go_at_call 323; refine H.out.mono ?_; rintro e wx ⟨rfl, hwx⟩; subst wx)
 go_ret
 exact ⟨rfl, rfl⟩
theorem iin_1 (w : World) : Calls Tryz.prog 306 #[.int .i64 1, .int .i64 2] w fun e w' => e = .returned (.bool true) ∧ w' = w := by
 have H := hQ (itree_2 w)
 go_enter Tryz.func306, Tryz.ntmps306
 go_wp2_with (go_at_call 323; refine H.out.mono ?_; rintro e wx ⟨rfl, hwx⟩; subst wx)
 go_ret
 exact ⟨rfl, rfl⟩
theorem iin_2 (w : World) : Calls Tryz.prog 306 #[.int .i64 2, .int .i64 2] w fun e w' => e = .returned (.bool true) ∧ w' = w := by
 have H := hQ (itree_2 w)
 go_enter Tryz.func306, Tryz.ntmps306
 go_wp2_with (go_at_call 323; refine H.out.mono ?_; rintro e wx ⟨rfl, hwx⟩; subst wx)
 go_ret
 exact ⟨rfl, rfl⟩
theorem iparent_0 (w : World) (h : TzEnv w) : Calls Tryz.prog 307 #[.int .i64 0, .int .i64 2] w fun e w' => e = .returned (.tuple #[.int .i64 1, .bool true]) ∧ w' = w := by
 have H := hQ (iin_0 w)
 have HL := hQ (level_0 w h)
 clear h
 have q1 : bits BinOp.or IntKind.i64 0 1 = 1 := by decide +kernel
 have q2 : bits BinOp.andNot IntKind.i64 1 2 = 1 := by decide +kernel
 go_enter Tryz.func307, Tryz.ntmps307
 go_wp2_with (first
  | (go_at_call 306; refine H.out.mono ?_; rintro e wx ⟨rfl, hwx⟩; subst wx)
  | (go_at_call 304; refine HL.out.mono ?_; rintro e wx ⟨rfl, hwx⟩; subst wx))
 go_ret2
 exact ⟨rfl, rfl⟩
theorem iparent_1 (w : World) (h : TzEnv w) : Calls Tryz.prog 307 #[.int .i64 1, .int .i64 2] w fun e w' => e = .returned (.tuple #[.int .i64 0, .bool false]) ∧ w' = w := by
 have H := hQ (iin_1 w)
 have HL := hQ (level_1 w h)
 clear h
 go_enter Tryz.func307, Tryz.ntmps307
 go_wp2_with (first
  | (go_at_call 306; refine H.out.mono ?_; rintro e wx ⟨rfl, hwx⟩; subst wx)
  | (go_at_call 304; refine HL.out.mono ?_; rintro e wx ⟨rfl, hwx⟩; subst wx))
 go_ret2
 exact ⟨rfl, rfl⟩
theorem iparent_2 (w : World) (h : TzEnv w) : Calls Tryz.prog 307 #[.int .i64 2, .int .i64 2] w fun e w' => e = .returned (.tuple #[.int .i64 1, .bool true]) ∧ w' = w := by
 have H := hQ (iin_2 w)
 have HL := hQ (level_2 w h)
 clear h
 have q1 : bits BinOp.or IntKind.i64 2 1 = 3 := by decide +kernel
 have q2 : bits BinOp.andNot IntKind.i64 3 2 = 1 := by decide +kernel
 go_enter Tryz.func307, Tryz.ntmps307
 go_wp2_with (first
  | (go_at_call 306; refine H.out.mono ?_; rintro e wx ⟨rfl, hwx⟩; subst wx)
  | (go_at_call 304; refine HL.out.mono ?_; rintro e wx ⟨rfl, hwx⟩; subst wx))
 go_ret2
 exact ⟨rfl, rfl⟩
theorem isibling_0 (w : World) (h : TzEnv w) : Calls Tryz.prog 320 #[.int .i64 0, .int .i64 2] w fun e w' => e = .returned (.tuple #[.int .i64 2, .bool true]) ∧ w' = w := by
 have H := hQ (iparent_0 w h)
 clear h
 go_enter Tryz.func320, Tryz.ntmps320
 go_wp2_with (go_at_call 307; refine H.out.mono ?_; rintro e wx ⟨rfl, hwx⟩; subst wx)
 go_ret2
 exact ⟨rfl, rfl⟩
theorem isibling_1 (w : World) (h : TzEnv w) : Calls Tryz.prog 320 #[.int .i64 1, .int .i64 2] w fun e w' => e = .returned (.tuple #[.int .i64 0, .bool false]) ∧ w' = w := by
 have H := hQ (iparent_1 w h)
 clear h
 go_enter Tryz.func320, Tryz.ntmps320
 go_wp2_with (go_at_call 307; refine H.out.mono ?_; rintro e wx ⟨rfl, hwx⟩; subst wx)
 go_ret2
 exact ⟨rfl, rfl⟩
end
section
open Go Go.RowKit
theorem infoI : (Tryz.prog.info? 3).map (fun i => (i.zero, i.size, i.bytes)) = some (some (.int .i64 0), 1, 8) := by kernel_rfl
def intV (x : Int) : Value := .int .i64 x
abbrev OwnI (v : Value) (l : List Int) (w : World) : Prop := w.ownsRow 0 3 1 v l.length (l.map intV)
theorem ownI_len {v : Value} {l : List Int} {w : World} (h : OwnI v l w) : ∃ a c, v = .slice a l.length c ∧ l.length ≤ c := by
 rcases h.2 with ⟨h1, h2⟩ | ⟨g, cap, cur, h1, _, _, h4, _⟩
 · exact ⟨none, 0, by rw [h1, h2], by omega⟩
 · exact ⟨_, cap, h1, h4⟩
theorem ownI_at {a : Option Addr} {n c : Nat} {l : List Int} {w : World} (h : OwnI (.slice a n c) l w) : ∀ i, i < l.length → ∃ b o, a = some ⟨b, o, none⟩ ∧ w.cell? ⟨b, o + i, none⟩ = some (.int .i64 (l.getD i 0)) := by
 intro i hi
 rcases h.2 with ⟨_, h2⟩ | ⟨g, cap, cur, h1, _, hg, h4, _, hs, ht⟩
 · omega
 · obtain ⟨rfl, _, _⟩ : a = some ⟨g, 0, none⟩ ∧ n = l.length ∧ c = cap := by simpa using h1
   refine ⟨g, 0, rfl, ?_⟩
   have e : (l.map intV)[i]? = some (.int .i64 (l.getD i 0)) := by simp [intV, List.getD_eq_getElem?_getD, hi]
   rw [cRw hg, Nat.zero_add, ← e, ← ht, List.getElem?_take]
   rw [if_pos (by omega), Array.getElem?_toList]
theorem ownI_lt {v : Value} {l : List Int} {w : World} (h : OwnI v l w) {k : Nat} (hk : v.ownBlock = some k) : k < w.heap.size := by
 rcases h.2 with ⟨e, _⟩ | ⟨r, cap', cur, e, _, hr, _⟩
 · rw [e] at hk; simp [Value.ownBlock] at hk
 · rw [e] at hk
   have : r = k := by simpa [Value.ownBlock] using hk
   subst this
   exact (Array.getElem?_eq_some_iff.1 hr).1
theorem oIk {v : Value} {l : List Int} {w w' : World} {F : Nat → Prop} (h : OwnI v l w) (hT : Turned F w w') (hn : ∀ k, v.ownBlock = some k → ¬ F k) : OwnI v l w' := by
 refine ⟨h.1, ?_⟩
 rcases h.2 with h0 | ⟨g, cap, cur, e, hB, hg, rest⟩
 · exact .inl h0
 · exact .inr ⟨g, cap, cur, e, hB, (hT.block g (Array.getElem?_eq_some_iff.1 hg).1 (hn g (by rw [e]; rfl))).trans hg, rest⟩
theorem ownI_nil (w : World) : OwnI (.slice none 0 0) [] w := ⟨rfl, .inl ⟨rfl, rfl⟩⟩
theorem ownI_one (w : World) (x : Int) : OwnI (.slice (some ⟨w.heap.size, 0, none⟩) 1 1) [x] (w.alloc (.cells #[.int .i64 x] 3)) :=
 ⟨rfl, .inr ⟨w.heap.size, 1, #[.int .i64 x], rfl, Nat.zero_le _, rAl _ _ _, Nat.le_refl _, by unfold maxLen; omega, rfl, rfl⟩⟩
structure StoreLaw (St : World → (Nat → Prop) → List TermD → Prop) : Prop where
 kept : ∀ {w w' : World} {F G : Nat → Prop} {L : List TermD}, St w F L → Turned G w w' → (∀ k, F k → ¬ G k) → St w' F L
 lt : ∀ {w : World} {F : Nat → Prop} {L : List TermD}, St w F L → ∀ k, F k → k < w.heap.size
theorem refLaw (r : Nat) : StoreLaw (fun w F L => RefStore w r F L) := ⟨fun h hT hd => RefStore.kept h hT hd, fun h => RefStore.lt h⟩
theorem progLaw (s : Nat) : StoreLaw (fun w F L => ProgStore w s F L) := ⟨fun h hT hd => ProgStore.kept h hT hd, fun h => ProgStore.lt h⟩
structure SecIn (St : World → (Nat → Prop) → List TermD → Prop) (F : Nat → Prop) (L : List TermD) (seed : Int) (m : Nat) (w : World) (k : Nat) (v : Value) (wr : World) (pre : List Int) (last : Int) (Lk : List TermD) (F' : Nat → Prop) : Prop where
 own : OwnI v (pre ++ [last]) wr
 len : pre.length = k
 go : (pre ++ [last]) ++ secGo (m - k) Lk last = seed :: secGo m L seed
 fin : secEnd (m - k) Lk last = secEnd m L seed
 good : Good Lk
 there : thereD Lk.length last = true
 size : Lk.length + (m - k) ≤ L.length + m
 ext : Ext F F' w wr
 st : St wr F' Lk
 turned : Turned F w wr
 far : ∀ g, v.ownBlock = some g → w.heap.size ≤ g ∧ ¬ F' g
def SecAt (St : World → (Nat → Prop) → List TermD → Prop) (F : Nat → Prop) (L : List TermD) (seed : Int) (m : Nat) (w : World) (k : Nat) (v : Value) (wr : World) : Prop := ∃ pre last Lk F', SecIn St F L seed m w k v wr pre last Lk F'
theorem Ext.wide {F F' : Nat → Prop} {w w' w'' : World} (h : Ext F F' w w') (hs : w'.heap.size ≤ w''.heap.size) : Ext F F' w w'' := fun k hk => (h k hk).imp id fun h2 => ⟨h2.1, Nat.lt_of_lt_of_le h2.2 hs⟩
theorem sec_start {St : World → (Nat → Prop) → List TermD → Prop} (law : StoreLaw St) {F : Nat → Prop} {L : List TermD} {seed : Int} (m : Nat) {w w1 : World} (hb : Below w.heap.size w w1) (hs : St w F L) (hG : Good L) (ht : thereD L.length seed = true) :
    SecAt St F L seed m w 0 (.slice (some ⟨w1.heap.size, 0, none⟩) 1 1) (w1.alloc (.cells #[.int .i64 seed] 3)) := by
 refine ⟨[], seed, L, F, ownI_one w1 seed, rfl, rfl, rfl, hG, ht, by omega, Ext.refl _ _ _, ?_, (Turned.new F hb).alloc _, fun g hg => ?_⟩
 · exact law.kept hs ((Turned.new (fun _ => False) hb).alloc _) (fun _ _ h => h)
 · obtain rfl : w1.heap.size = g := by simpa [Value.ownBlock] using hg
   exact ⟨hb.size, fun hf => by have := law.lt hs _ hf; have := hb.size; omega⟩
theorem sec_step {St : World → (Nat → Prop) → List TermD → Prop} (law : StoreLaw St) {F : Nat → Prop} {L : List TermD} {seed : Int} {m k : Nat} {w wr w1 w5 : World} {v v' : Value} {pre : List Int} {last : Int} {Lk : List TermD} {F' F'' : Nat → Prop} {o : Obj}
    (h : SecIn St F L seed m w k v wr pre last Lk F') (hk : k < m) (hm : L.length + m < 1048576) (hx : Ext F' F'' wr w1) (hs : St w1 F'' (makeL Lk (kdfT 1 last))) (hT : Turned F' wr w1)
    (hown : OwnI v' ((pre ++ [last]) ++ [makeN Lk (kdfT 1 last)]) w5) (hgrow : (w1.alloc o).grownBy w5 v.ownBlock) (hblk : v'.ownBlock = v.ownBlock ∨ v'.ownBlock = some (w1.heap.size + 1)) : SecAt St F L seed m w (k + 1) v' w5 := by
 have hmk := make_ok (may_kdf (label := 1) (by omega) h.there) (by have := h.size; omega : Lk.length < 1048576)
 have hlen := makeL_len Lk (kdfT 1 last)
 have hk1 : m - k = (m - (k + 1)) + 1 := by omega
 have hgo := h.go
 have hfin := h.fin
 rw [hk1] at hgo hfin
 have hold : ∀ g, v.ownBlock = some g → ¬ F'' g := fun g hg hf => by
  rcases hx g hf with h1 | h1
  · exact (h.far g hg).2 h1
  · have := ownI_lt h.own hg
    omega
 have hT5 : Turned (fun g => v.ownBlock = some g) w1 w5 := ((Turned.refl _ w1).alloc o).grown hgrow (fun _ _ e => e)
 obtain ⟨e1, e2⟩ := foot_trans h.ext h.turned hx hT
 refine ⟨pre ++ [last], makeN Lk (kdfT 1 last), makeL Lk (kdfT 1 last), F'', hown, by simp [h.len], ?_, ?_, h.good.make (kdf_ok (by simp [i64ok]) (there_i64 h.there (by have := h.size; omega))), hmk.2, by have := h.size; omega, e1.wide hT5.size, law.kept hs hT5 (fun g hf hg => hold g hg hf), ?_, fun g hg => ?_⟩
 · rw [← hgo]
   show _ = _ ++ (makeN Lk (kdfT 1 last) :: secGo (m - (k + 1)) (makeL Lk (kdfT 1 last)) (makeN Lk (kdfT 1 last)))
   simp
 · rw [← hfin]; rfl
 · exact e2.trans hT5 (fun g hgl hg => absurd (h.far g hg).1 (Nat.not_le_of_lt hgl))
 · rcases hblk with hb | hb
   · rw [hb] at hg
     exact ⟨(h.far g hg).1, hold g hg⟩
   · rw [hb] at hg
     obtain rfl : w1.heap.size + 1 = g := by injection hg
     exact ⟨by have := e2.size; omega, fun hf => by have := law.lt hs _ hf; omega⟩
def SecPost (St : World → (Nat → Prop) → List TermD → Prop) (F : Nat → Prop) (L : List TermD) (seed many : Int) (w : World) (e : Ending) (w' : World) : Prop :=
 ∃ v F', e = .returned (.tuple #[v, .int .i64 (secretsE L seed many)]) ∧ OwnI v (secretsL L seed many) w' ∧ Ext F F' w w' ∧ St w' F' (secretsT L seed many) ∧ Turned F w w' ∧ ∀ g, v.ownBlock = some g → w.heap.size ≤ g ∧ ¬ F' g
theorem sec_bad {St : World → (Nat → Prop) → List TermD → Prop} (law : StoreLaw St) {F : Nat → Prop} {L : List TermD} {seed many : Int} {w w' : World} (hb : sBd L seed many = true) (hs : St w F L) (hw : Below w.heap.size w w') :
    SecPost St F L seed many w (.returned (.tuple #[.slice none 0 0, .int .i64 1])) w' := by
 have he : secretsE L seed many = 1 := by unfold secretsE; rw [hb]; rfl
 have hl : secretsL L seed many = [] := by unfold secretsL; rw [hb]; rfl
 have ht : secretsT L seed many = L := by unfold secretsT; rw [hb]; rfl
 refine ⟨_, F, by rw [he], by rw [hl]; exact ownI_nil _, Ext.refl _ _ _, by rw [ht]; exact law.kept hs (Turned.new (fun _ => False) hw) (fun _ _ h => h), Turned.new F hw, fun g hg => by simp [Value.ownBlock] at hg⟩
theorem sec_end {St : World → (Nat → Prop) → List TermD → Prop} {F : Nat → Prop} {L : List TermD} {seed : Int} {m : Nat} {w wr : World} {v : Value} (hb : sBd L seed m = false) (h : SecAt St F L seed m w m v wr) :
    SecPost St F L seed m w (.returned (.tuple #[v, .int .i64 0])) wr := by
 obtain ⟨pre, last, Lk, F', h⟩ := h
 have he : secretsE L seed m = 0 := by unfold secretsE; rw [hb]; rfl
 have hl : secretsL L seed m = seed :: secGo m L seed := by unfold secretsL; rw [hb]; rfl
 have ht : secretsT L seed m = secEnd m L seed := by unfold secretsT; rw [hb]; rfl
 have hgo := h.go
 have hfin := h.fin
 rw [Nat.sub_self, show secGo 0 Lk last = [] from rfl, List.append_nil] at hgo
 rw [Nat.sub_self, show secEnd 0 Lk last = Lk from rfl] at hfin
 refine ⟨v, F', by rw [he], ?_, h.ext, ?_, h.turned, h.far⟩
 · rw [hl, ← hgo]; exact h.own
 · rw [ht, ← hfin]; exact h.st
end
section
open Go Go.RowKit
theorem TzEnv.below {B : Nat} {w w' : World} (h : TzEnv w) (hb : Below B w w') (hB : 3 ≤ B) : TzEnv w' :=
 ⟨(hb.cell (p := ⟨0, 0, none⟩) (by simp only; omega)).trans h.t0, (hb.cell (p := ⟨0, 1, none⟩) (by simp only; omega)).trans h.t1⟩
def NewI (l : List Int) (w : World) (e : Ending) (w' : World) : Prop := ∃ v, e = .returned v ∧ OwnI v l w' ∧ (∀ g, v.ownBlock = some g → w.heap.size ≤ g) ∧ Below w.heap.size w w'
theorem newI_mk {l : List Int} {w w' : World} {g n c : Nat} (hown : OwnI (.slice (some ⟨g, 0, none⟩) n c) l w') (hg : w.heap.size ≤ g) (hb : Below w.heap.size w w') : NewI l w (.returned (.slice (some ⟨g, 0, none⟩) n c)) w' :=
 ⟨_, rfl, hown, fun g' hg' => by obtain rfl : g = g' := by simpa [Value.ownBlock] using hg'
                                 exact hg, hb⟩
theorem iup_0 (w : World) (h : TzEnv w) (hsz : 3 ≤ w.heap.size) : Calls Tryz.prog 286 #[.int .i64 0, .int .i64 2] w (NewI [0, 1] w) := by
 obtain ⟨i0, hi0, hz0, hz1, hz2⟩ := info_parts infoI
 have H := hQ h; clear h
 go_enter Tryz.func286, Tryz.ntmps286
 go_wp2_with (go_at_call 306; refine (iin_0 _).mono ?_; rintro e wx ⟨rfl, hwx⟩; subst wx)
 refine wp_loop_rounds 3 ?_
 rw [rounds_succ]
 have hn1 : ∀ W : World, OwnI (.slice none 0 0) [] W := ownI_nil
 have Hn1 := hQ hn1; clear hn1
 go_wp2_with (at_builtin; refine wpList_append_lies _ rfl (.tmp 17) (.tmp 19) 27 rfl 0 3 i0 (.int .i64 0) 1 8 Tryz.underlying27 hi0 hz0 hz1 hz2 rfl (by decide) (.slice none 0 0) 0 [] rfl (Hn1.out _) ⟨w.heap.size, 0, none⟩ 1 1 [intV 0] rfl rfl (cell_one_new _ _ _) (by intro u hu; simp [intV] at hu; rw [hu]; rfl) (by omega) (by unfold maxLen; omega) (by omega) (Nat.zero_le _) (w.heap.size + 1) (by simp) ?_; intro g1 c1 w1 hown1 hgrow1 hat1 hlt1; have Hown1 := hQ hown1; clear hown1; have hg1 : g1 = w.heap.size + 1 := hat1.elim (fun e => by simp [Value.ownBlock] at e) id; have Hb1 := hQ (((Below.refl w.heap.size w).alloc (Nat.le_refl _) (.cells #[.int .i64 0] 3)).grown hgrow1 (by simp) (fun k hk => by simp [Value.ownBlock] at hk)); clear hgrow1 hat1; have Hlt1 := hQ hlt1; clear hlt1; have Hg1 := hQ hg1; clear hg1)
 refine (iparent_0 _ (H.out.below Hb1.out hsz)).mono ?_
 rintro e wx ⟨rfl, hwx⟩
 subst wx
 go_wp2
 rw [rounds_succ]
 go_wp2_with (at_builtin; refine wpList_append_lies _ rfl (.tmp 17) (.tmp 19) 27 rfl 0 3 i0 (.int .i64 0) 1 8 Tryz.underlying27 hi0 hz0 hz1 hz2 rfl (by decide) (.slice (some ⟨g1, 0, none⟩) 1 c1) 1 [intV 0] rfl (World.ownsRow.alloc Hown1.out _) ⟨w1.heap.size, 0, none⟩ 1 1 [intV 1] rfl rfl (cell_one_new _ _ _) (by intro u hu; simp [intV] at hu; rw [hu]; rfl) (by omega) (by unfold maxLen; omega) (by omega) (Nat.zero_le _) (w1.heap.size + 1) (by simp) ?_; intro g2 c2 w2 hown2 hgrow2 hat2 hlt2; have Hown2 := hQ hown2; clear hown2; have hg2 : w.heap.size ≤ g2 := hat2.elim (fun e => by have := Hg1.out; simp [Value.ownBlock] at e; omega) (fun e => by have := Hb1.out.size; omega); have Hb2 := hQ ((Hb1.out.alloc Hb1.out.size (.cells #[.int .i64 1] 3)).grown hgrow2 (by have := Hb1.out.size; simp; omega) (fun k hk => by have := Hg1.out; simp [Value.ownBlock] at hk; omega)); clear hgrow2 hat2 hlt2; have Hg2 := hQ hg2; clear hg2)
 refine (iparent_1 _ (H.out.below Hb2.out hsz)).mono ?_
 rintro e wx ⟨rfl, hwx⟩
 subst wx
 go_wp2
 rw [rounds_succ]
 go_wp2
 go_ret
 exact newI_mk Hown2.out Hg2.out Hb2.out
theorem iup_2 (w : World) (h : TzEnv w) (hsz : 3 ≤ w.heap.size) : Calls Tryz.prog 286 #[.int .i64 2, .int .i64 2] w (NewI [2, 1] w) := by
 obtain ⟨i0, hi0, hz0, hz1, hz2⟩ := info_parts infoI
 have H := hQ h; clear h
 go_enter Tryz.func286, Tryz.ntmps286
 go_wp2_with (go_at_call 306; refine (iin_2 _).mono ?_; rintro e wx ⟨rfl, hwx⟩; subst wx)
 refine wp_loop_rounds 3 ?_
 rw [rounds_succ]
 have hn1 : ∀ W : World, OwnI (.slice none 0 0) [] W := ownI_nil
 have Hn1 := hQ hn1; clear hn1
 go_wp2_with (at_builtin; refine wpList_append_lies _ rfl (.tmp 17) (.tmp 19) 27 rfl 0 3 i0 (.int .i64 0) 1 8 Tryz.underlying27 hi0 hz0 hz1 hz2 rfl (by decide) (.slice none 0 0) 0 [] rfl (Hn1.out _) ⟨w.heap.size, 0, none⟩ 1 1 [intV 2] rfl rfl (cell_one_new _ _ _) (by intro u hu; simp [intV] at hu; rw [hu]; rfl) (by omega) (by unfold maxLen; omega) (by omega) (Nat.zero_le _) (w.heap.size + 1) (by simp) ?_; intro g1 c1 w1 hown1 hgrow1 hat1 hlt1; have Hown1 := hQ hown1; clear hown1; have hg1 : g1 = w.heap.size + 1 := hat1.elim (fun e => by simp [Value.ownBlock] at e) id; have Hb1 := hQ (((Below.refl w.heap.size w).alloc (Nat.le_refl _) (.cells #[.int .i64 2] 3)).grown hgrow1 (by simp) (fun k hk => by simp [Value.ownBlock] at hk)); clear hgrow1 hat1; have Hlt1 := hQ hlt1; clear hlt1; have Hg1 := hQ hg1; clear hg1)
 refine (iparent_2 _ (H.out.below Hb1.out hsz)).mono ?_
 rintro e wx ⟨rfl, hwx⟩
 subst wx
 go_wp2
 rw [rounds_succ]
 go_wp2_with (at_builtin; refine wpList_append_lies _ rfl (.tmp 17) (.tmp 19) 27 rfl 0 3 i0 (.int .i64 0) 1 8 Tryz.underlying27 hi0 hz0 hz1 hz2 rfl (by decide) (.slice (some ⟨g1, 0, none⟩) 1 c1) 1 [intV 2] rfl (World.ownsRow.alloc Hown1.out _) ⟨w1.heap.size, 0, none⟩ 1 1 [intV 1] rfl rfl (cell_one_new _ _ _) (by intro u hu; simp [intV] at hu; rw [hu]; rfl) (by omega) (by unfold maxLen; omega) (by omega) (Nat.zero_le _) (w1.heap.size + 1) (by simp) ?_; intro g2 c2 w2 hown2 hgrow2 hat2 hlt2; have Hown2 := hQ hown2; clear hown2; have hg2 : w.heap.size ≤ g2 := hat2.elim (fun e => by have := Hg1.out; simp [Value.ownBlock] at e; omega) (fun e => by have := Hb1.out.size; omega); have Hb2 := hQ ((Hb1.out.alloc Hb1.out.size (.cells #[.int .i64 1] 3)).grown hgrow2 (by have := Hb1.out.size; simp; omega) (fun k hk => by have := Hg1.out; simp [Value.ownBlock] at hk; omega)); clear hgrow2 hat2 hlt2; have Hg2 := hQ hg2; clear hg2)
 refine (iparent_1 _ (H.out.below Hb2.out hsz)).mono ?_
 rintro e wx ⟨rfl, hwx⟩
 subst wx
 go_wp2
 rw [rounds_succ]
 go_wp2
 go_ret
 exact newI_mk Hown2.out Hg2.out Hb2.out
end
end Go.Proofs.YtedpljclnpiggaaGreatDoor
