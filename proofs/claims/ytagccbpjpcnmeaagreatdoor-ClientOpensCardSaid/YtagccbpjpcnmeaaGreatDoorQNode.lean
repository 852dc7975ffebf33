/-
  alive, Len, and Node of both sides.
-/
import Derived.Test.YtagccbpjpcnmeaaGreatDoorQGet
set_option linter.unusedVariables false
set_option linter.unusedSimpArgs false
namespace Go.Proofs.YtagccbpjpcnmeaaGreatDoor
open Go Go.RowKit

set_option maxRecDepth 100000 in
theorem slist_none (s : Nat) (F : Nat → Prop) (L : List TermD) (w : World) (h : ProgStore w s F L) :
    Calls Tryz.prog 59 #[.pointer (some ⟨s, 0, none⟩), .slice none 0 0] w fun e w' => e = .returned (.tuple #[.int .i64 0, .int .i64 0]) ∧ w' = w := by
  have Hm := Lib.hid (smade_any s F L w h); clear h
  go_enter Tryz.func59, Tryz.ntmps59
  go_wp2_with (go_at_call 32; refine Hm.out.mono ?_; rintro e wx ⟨rfl, rfl⟩)
  refine wp_loop_rounds 1 ?_
  rw [rounds_succ]
  go_wp2
  go_ret2
  exact ⟨rfl, rfl⟩

theorem slist_nil (w : World) :
    Calls Tryz.prog 59 #[.pointer none, .slice none 0 0] w fun e w' => e = .returned (.tuple #[.int .i64 0, .int .i64 2]) ∧ w' = w := by
  have Hm := Lib.hid (smade_nil w)
  go_enter Tryz.func59, Tryz.ntmps59
  go_wp2_with (go_at_call 32; refine Hm.out.mono ?_; rintro e wx ⟨rfl, rfl⟩)
  go_ret2
  exact ⟨rfl, rfl⟩

theorem palive_any (s : Nat) (F : Nat → Prop) (L : List TermD) (w : World) (h : ProgStore w s F L) :
    Calls Tryz.prog 149 #[.pointer (some ⟨s, 0, none⟩)] w fun e w' => e = .returned (.bool true) ∧ w' = w := by
  have Hm := Lib.hid (slist_none s F L w h); clear h
  go_enter Tryz.func149, Tryz.ntmps149
  go_wp2_with (go_at_call 59; refine Hm.out.mono ?_; rintro e wx ⟨rfl, rfl⟩)
  go_ret
  exact ⟨rfl, rfl⟩

theorem palive_nil (w : World) :
    Calls Tryz.prog 149 #[.pointer none] w fun e w' => e = .returned (.bool false) ∧ w' = w := by
  have Hm := Lib.hid (slist_nil w)
  go_enter Tryz.func149, Tryz.ntmps149
  go_wp2_with (go_at_call 59; refine Hm.out.mono ?_; rintro e wx ⟨rfl, rfl⟩)
  go_ret
  exact ⟨rfl, rfl⟩

theorem slen_any (s : Nat) (F : Nat → Prop) (L : List TermD) (w : World) (h : ProgStore w s F L) :
    Calls Tryz.prog 10 #[.pointer (some ⟨s, 0, none⟩)] w fun e w' => e = .returned (.int .i64 L.length) ∧ w' = w := by
  have Hm := Lib.hid (smade_any s F L w h)
  obtain ⟨v, mb, D, hrow, hown, _⟩ := h
  obtain ⟨va, vc, rfl, _⟩ := ownT_len hown
  have c0 : w.cell? ⟨s, 0, none⟩ = some (.slice va L.length vc) := by rw [cell_row hrow]; rfl
  clear hrow hown
  go_enter Tryz.func10, Tryz.ntmps10
  go_wp2_with (go_at_call 32; refine Hm.out.mono ?_; rintro e wx ⟨rfl, rfl⟩)
  go_ret
  exact ⟨rfl, rfl⟩

theorem ret3 {x y z a b c : Int} (h1 : x = a) (h2 : y = b) (h3 : z = c) : Ending.returned (.tuple #[.int .i64 x, .int .i64 y, .int .i64 z]) = .returned (.tuple #[.int .i64 a, .int .i64 b, .int .i64 c]) := by rw [h1, h2, h3]

theorem RefStore.new {w w' : World} {r : Nat} {F : Nat → Prop} {L : List TermD} (h : RefStore w r F L) (hb : Below w.heap.size w w') : RefStore w' r F L := h.kept (Turned.new (fun _ => False) hb) (fun _ _ h => h)
theorem ProgStore.new {w w' : World} {s : Nat} {F : Nat → Prop} {L : List TermD} (h : ProgStore w s F L) (hb : Below w.heap.size w w') : ProgStore w' s F L := h.kept (Turned.new (fun _ => False) hb) (fun _ _ h => h)

/-- Two steps' footprints. -/
theorem foot_trans {F F' F'' : Nat → Prop} {a b c : World} (hx : Ext F F' a b) (hT : Turned F a b) (hx' : Ext F' F'' b c) (hT' : Turned F' b c) : Ext F F'' a c ∧ Turned F a c :=
  ⟨hx.trans hx' hT.size hT'.size, hT.trans hT' (fun k hk h => (hx k h).elim id (fun h2 => absurd h2.1 (Nat.not_le_of_lt hk)))⟩

set_option maxRecDepth 100000 in
set_option maxHeartbeats 800000 in
theorem rnode_any (r : Nat) (F : Nat → Prop) (L : List TermD) (x : Int) (hG : Good L) (hl : L.length ≤ 5000) (w : World) (h : RefStore w r F L) :
    Calls Tryz.prog 105 #[.pointer (some ⟨r, 0, none⟩), .int .i64 x] w (RPost r F (nodeT L x) (.tuple #[.int .i64 (nodeK L x), .int .i64 (nodeP L x), .int .i64 (nodeE L x)]) w) := by
  have his := ris_any r F L x w h (by omega)
  cases hx : thereD L.length x with
  | false =>
    rw [hx] at his
    have His := Lib.hid his; clear his
    have hk : nodeK L x = 0 ∧ nodeP L x = 0 ∧ nodeE L x = 1 ∧ nodeT L x = L := by unfold nodeK nodeP nodeE nodeT; rw [hx]; simp
    have Hk := Lib.hid hk; clear hk hx
    have H := Lib.hid h; clear h
    go_enter Tryz.func105, Tryz.ntmps105
    go_wp2_with fail
    refine His.out.mono ?_
    rintro e w1 ⟨rfl, hb1⟩
    have Hb1 := Lib.hid hb1; clear hb1
    go_wp2
    go_ret3
    exact ⟨ret3 Hk.out.1.symm Hk.out.2.1.symm Hk.out.2.2.1.symm, F, Ext.refl _ _ _, by rw [Hk.out.2.2.2]; exact H.out.new Hb1.out, Turned.new F Hb1.out⟩
  | true =>
    rw [hx] at his
    have His := Lib.hid his; clear his
    have hk : nodeK L x = makeN L (kdfT 2 x) ∧ nodeP L x = makeN (makeL L (kdfT 2 x)) (pubT (makeN L (kdfT 2 x))) ∧ nodeE L x = 0 ∧ nodeT L x = makeL (makeL L (kdfT 2 x)) (pubT (makeN L (kdfT 2 x))) := by unfold nodeK nodeP nodeE nodeT; rw [hx]; simp
    have hm := make_ok (may_kdf (label := 2) (by omega) hx) (by omega : L.length < 1048576)
    have h1 := makeL_len L (kdfT 2 x)
    have hk1 : (kdfT 2 x).ok := kdf_ok (by simp [i64ok]) (there_i64 hx (by omega))
    have hk2 : (pubT (makeN L (kdfT 2 x))).ok := pub_ok (there_i64 hm.2 (by omega))
    have hkdf := fun W hW => rkdf_any r F L 2 x 0 hk1 hG (by omega) W hW
    have hpub := fun F' W hW => rpub_any r F' (makeL L (kdfT 2 x)) (makeN L (kdfT 2 x)) hk2 (hG.make hk1) (by omega) W hW
    have Hk := Lib.hid hk; clear hk hm h1 hk1 hk2
    change ∀ W, RefStore W r F L → Calls _ _ _ _ (RPost r F (makeL L (kdfT 2 x)) (.int .i64 (makeN L (kdfT 2 x))) W) at hkdf
    change ∀ F' W, RefStore W r F' (makeL L (kdfT 2 x)) → Calls _ _ _ _ (RPost r F' (makeL (makeL L (kdfT 2 x)) (pubT (makeN L (kdfT 2 x)))) (.int .i64 (makeN (makeL L (kdfT 2 x)) (pubT (makeN L (kdfT 2 x))))) W) at hpub
    generalize makeN (makeL L (kdfT 2 x)) (pubT (makeN L (kdfT 2 x))) = pv at Hk hpub
    generalize makeN L (kdfT 2 x) = kv at Hk hkdf hpub
    have Hkdf := Lib.hid hkdf; clear hkdf
    have Hpub := Lib.hid hpub; clear hpub hx
    have H := Lib.hid h; clear h
    go_enter Tryz.func105, Tryz.ntmps105
    go_wp2_with fail
    refine His.out.mono ?_
    rintro e w1 ⟨rfl, hb1⟩
    have Hb1 := Lib.hid hb1; clear hb1
    go_wp2_with fail
    refine (Hkdf.out _ (H.out.new Hb1.out)).mono ?_
    rintro e w2 ⟨rfl, F1, hx1, hs1, hT1⟩
    have Hx1 := Lib.hid hx1; clear hx1
    have Hs1 := Lib.hid hs1; clear hs1
    have HT1 := Lib.hid hT1; clear hT1
    go_wp2_with fail
    refine (Hpub.out F1 _ Hs1.out).mono ?_
    rintro e w3 ⟨rfl, F2, hx2, hs2, hT2⟩
    have Hx2 := Lib.hid hx2; clear hx2
    have Hs2 := Lib.hid hs2; clear hs2
    have HT2 := Lib.hid hT2; clear hT2
    go_wp2
    go_ret3
    obtain ⟨a1, a2⟩ := foot_trans (Ext.refl F w w1) (Turned.new F Hb1.out) Hx1.out HT1.out
    obtain ⟨a3, a4⟩ := foot_trans a1 a2 Hx2.out HT2.out
    exact ⟨ret3 Hk.out.1.symm Hk.out.2.1.symm Hk.out.2.2.1.symm, F2, a3, by rw [Hk.out.2.2.2]; exact Hs2.out, a4⟩

set_option maxRecDepth 100000 in
set_option maxHeartbeats 800000 in
theorem snode_any (s : Nat) (F : Nat → Prop) (L : List TermD) (x : Int) (hG : Good L) (hl : L.length ≤ 5000) (w : World) (h : ProgStore w s F L) :
    Calls Tryz.prog 147 #[.pointer (some ⟨s, 0, none⟩), .int .i64 x] w (SPost s F (nodeT L x) (.tuple #[.int .i64 (nodeK L x), .int .i64 (nodeP L x), .int .i64 (nodeE L x)]) w) := by
  have hal := palive_any s F L w h
  have Hal := Lib.hid hal; clear hal
  have his := sis_any s F L x w h (by omega)
  cases hx : thereD L.length x with
  | false =>
    rw [hx] at his
    have His := Lib.hid his; clear his
    have hk : nodeK L x = 0 ∧ nodeP L x = 0 ∧ nodeE L x = 1 ∧ nodeT L x = L := by unfold nodeK nodeP nodeE nodeT; rw [hx]; simp
    have Hk := Lib.hid hk; clear hk hx
    have H := Lib.hid h; clear h
    go_enter Tryz.func147, Tryz.ntmps147
    go_wp2_with fail
    refine Hal.out.mono ?_
    rintro e wx ⟨rfl, hwx⟩; subst wx
    go_wp2_with fail
    refine His.out.mono ?_
    rintro e w1 ⟨rfl, hb1⟩
    have Hb1 := Lib.hid hb1; clear hb1
    go_wp2
    go_ret3
    exact ⟨ret3 Hk.out.1.symm Hk.out.2.1.symm Hk.out.2.2.1.symm, F, Ext.refl _ _ _, by rw [Hk.out.2.2.2]; exact H.out.new Hb1.out, Turned.new F Hb1.out⟩
  | true =>
    rw [hx] at his
    have His := Lib.hid his; clear his
    have hk : nodeK L x = makeN L (kdfT 2 x) ∧ nodeP L x = makeN (makeL L (kdfT 2 x)) (pubT (makeN L (kdfT 2 x))) ∧ nodeE L x = 0 ∧ nodeT L x = makeL (makeL L (kdfT 2 x)) (pubT (makeN L (kdfT 2 x))) := by unfold nodeK nodeP nodeE nodeT; rw [hx]; simp
    have hm := make_ok (may_kdf (label := 2) (by omega) hx) (by omega : L.length < 1048576)
    have h1 := makeL_len L (kdfT 2 x)
    have hk1 : (kdfT 2 x).ok := kdf_ok (by simp [i64ok]) (there_i64 hx (by omega))
    have hk2 : (pubT (makeN L (kdfT 2 x))).ok := pub_ok (there_i64 hm.2 (by omega))
    have hm2 := make_ok (may_pub hm.2) (by omega : (makeL L (kdfT 2 x)).length < 1048576)
    have hkdf := fun W hW => derived_any s F L 2 x hk1 hG (by omega) W hW
    have hpub := fun F' W hW => smake_any s F' (makeL L (kdfT 2 x)) (pubT (makeN L (kdfT 2 x))) hk2 (hG.make hk1) (by omega) W hW
    have Hk := Lib.hid hk; clear hk h1 hk1 hk2
    change ∀ W, ProgStore W s F L → Calls _ _ _ _ (SPost s F (makeL L (kdfT 2 x)) (.tuple #[.int .i64 (makeN L (kdfT 2 x)), .int .i64 (makeE L (kdfT 2 x))]) W) at hkdf
    unfold SMakePost at hpub
    rw [hm.1] at hkdf
    rw [hm2.1] at hpub
    generalize makeN (makeL L (kdfT 2 x)) (pubT (makeN L (kdfT 2 x))) = pv at Hk hpub
    unfold pubT at hpub
    dsimp only at hpub
    have hkeep : nodeT L x = makeL (makeL L (kdfT 2 x)) ⟨5, 0, makeN L (kdfT 2 x), 0⟩ := Hk.out.2.2.2
    have Hkeep := Lib.hid hkeep; clear hkeep
    have Hk1 := Lib.hid Hk.out.1
    have Hk2 := Lib.hid Hk.out.2.1
    have Hk3 := Lib.hid Hk.out.2.2.1
    clear Hk hm hm2
    generalize makeN L (kdfT 2 x) = kv at Hk1 hkdf hpub Hkeep
    have Hkdf := Lib.hid hkdf; clear hkdf
    have Hpub := Lib.hid hpub; clear hpub hx
    have H := Lib.hid h; clear h
    go_enter Tryz.func147, Tryz.ntmps147
    go_wp2_with fail
    refine Hal.out.mono ?_
    rintro e wx ⟨rfl, hwx⟩; subst wx
    go_wp2_with fail
    refine His.out.mono ?_
    rintro e w1 ⟨rfl, hb1⟩
    have Hb1 := Lib.hid hb1; clear hb1
    go_wp2_with fail
    refine (Hkdf.out _ (H.out.new Hb1.out)).mono ?_
    rintro e w2 ⟨rfl, F1, hx1, hs1, hT1⟩
    have Hx1 := Lib.hid hx1; clear hx1
    have Hs1 := Lib.hid hs1; clear hs1
    have HT1 := Lib.hid hT1; clear hT1
    go_wp2_with fail
    refine (Hpub.out F1 _ Hs1.out).mono ?_
    rintro e w3 ⟨rfl, F2, hx2, hs2, hT2⟩
    have Hx2 := Lib.hid hx2; clear hx2
    have Hs2 := Lib.hid hs2; clear hs2
    have HT2 := Lib.hid hT2; clear hT2
    go_wp2
    go_ret3
    obtain ⟨a1, a2⟩ := foot_trans (Ext.refl F w w1) (Turned.new F Hb1.out) Hx1.out HT1.out
    obtain ⟨a3, a4⟩ := foot_trans a1 a2 Hx2.out HT2.out
    exact ⟨ret3 Hk1.out.symm Hk2.out.symm Hk3.out.symm, F2, a3, by rw [Hkeep.out]; exact Hs2.out, a4⟩
end Go.Proofs.YtagccbpjpcnmeaaGreatDoor
