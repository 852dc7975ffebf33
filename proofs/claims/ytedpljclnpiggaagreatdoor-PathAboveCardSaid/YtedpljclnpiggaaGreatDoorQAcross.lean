/-
  phratrylaw03.Across over two stores with the same terms: the map is the identity; Same and Numbers.
-/
import Derived.Test.YtedpljclnpiggaaGreatDoorQSecW
import Derived.Test.YtedpljclnpiggaaGreatDoorQTerm
set_option linter.unusedVariables false
set_option linter.unusedSimpArgs false
namespace Go.Proofs.YtedpljclnpiggaaGreatDoor
open Go Go.RowKit

def idL (n : Nat) : List Int := (List.range n).map (fun (i : Nat) => (i : Int))
theorem idL_len (n : Nat) : (idL n).length = n := by simp [idL]
theorem idL_get {n i : Nat} (h : i < n) : (idL n).getD i 0 = i := by simp [idL, List.getD_eq_getElem?_getD, h]
theorem idL_succ (n : Nat) : idL (n + 1) = idL n ++ [(n : Int)] := by unfold idL; rw [List.range_succ, List.map_append]; rfl

/-- The map of Across. -/
def MapAt (w : World) (mp n : Nat) : Prop := ∃ v, w.heap[mp]? = some (.cells #[v] 115 (0, 0)) ∧ OwnI v (idL n) w ∧ ∀ g, v.ownBlock = some g → g ≠ mp

set_option maxRecDepth 100000 in
theorem same_any (mp n x : Nat) (hx : x < n) (hn : n ≤ 100000) (w : World) (h : MapAt w mp n) :
    Calls Tryz.prog 13 #[.pointer (some ⟨mp, 0, none⟩), .int .i64 x, .int .i64 x] w fun e w' => e = .returned (.bool true) ∧ w' = w := by
  obtain ⟨v, hrow, hown, _⟩ := h
  obtain ⟨va, vc, rfl, _⟩ := ownI_len hown
  obtain ⟨gb, go, rfl, hc⟩ := ownI_at hown x (by rw [idL_len]; exact hx)
  rw [idL_get hx] at hc
  have c0 : w.cell? ⟨mp, 0, none⟩ = some (.slice (some ⟨gb, go, none⟩) n vc) := by rw [cell_row hrow, idL_len]; rfl
  clear hown hrow
  have hxn : (x : Int) < n := by omega
  go_enter Tryz.func13, Tryz.ntmps13
  go_wp2
  go_ret
  exact ⟨rfl, rfl⟩

def NumRel (n : Nat) (w : World) (i : Value) (wr : World) : Prop := ∃ k d : Nat, k ≤ n ∧ i = .int .i64 k ∧ wr = w.drewN d

set_option maxRecDepth 100000 in
set_option maxHeartbeats 800000 in
theorem numbers_any (mp n : Nat) (l : List Int) (va vb : Value) (hn : n ≤ 100000) (hl : ∀ y ∈ l, 0 ≤ y ∧ y < n) (hll : l.length ≤ 100) (w : World) (h : MapAt w mp n) (ha : OwnI va l w) (hb : OwnI vb l w) :
    Calls Tryz.prog 12 #[.pointer (some ⟨mp, 0, none⟩), va, vb] w fun e w' => e = .returned (.bool true) ∧ ∃ d, w' = w.drewN d := by
  obtain ⟨pa, ca, rfl, _⟩ := ownI_len ha
  obtain ⟨pb, cb, rfl, _⟩ := ownI_len hb
  have hA := ownI_at ha
  have hB := ownI_at hb
  have HA := Lib.hid hA; clear hA
  have HB := Lib.hid hB; clear hB
  have H := Lib.hid h; clear h ha hb
  have Hl := Lib.hid hl; clear hl
  go_enter Tryz.func12, Tryz.ntmps12
  go_wp2
  go_loopw [7] (fun i wr => NumRel l.length w i wr) (fun i _ => l.length - (intOf i).toNat)
  case atStart => exact ⟨0, 0, Nat.zero_le _, rfl, rfl⟩
  case round =>
    obtain ⟨k, d, hk, rfl, hwr⟩ := hrel
    have hcell : ∀ p, wr.cell? p = w.cell? p := fun p => by rw [hwr]; rfl
    have hmap : MapAt wr mp n := by rw [hwr]; exact H.out
    have Hwr := Lib.hid hwr; clear hwr
    by_cases hlt : k < l.length
    · obtain ⟨ga, oa, rfl, xa⟩ := HA.out k hlt
      obtain ⟨gb, ob, rfl, xb⟩ := HB.out k hlt
      rw [← hcell] at xa xb
      clear hcell
      have hy := Hl.out (l.getD k 0) (by rw [List.getD_eq_getElem?_getD, List.getElem?_eq_getElem hlt]; exact List.getElem_mem _)
      generalize l.getD k 0 = y at xa xb hy
      obtain ⟨x, rfl⟩ : ∃ x : Nat, y = x := ⟨y.toNat, by omega⟩
      have hs := fun d' => same_any mp n x (by omega) hn (wr.drewN d') hmap
      have Hs := Lib.hid hs; clear hs hy hmap
      have hkl : (k : Int) < l.length := by omega
      go_wp2_with fail
      go_quiet ((go_at_call 13; exact Calls.quiet_of_same (Hs.out _)))
      go_wp2
      exact ⟨⟨k + 1, d + nq, by omega, by go_num, by rw [Hwr.out, World.drewN_drewN]⟩, by simp [intOf]; omega⟩
    · obtain rfl : k = l.length := by omega
      clear hcell hmap
      go_wp2
      go_ret
      exact ⟨rfl, d, Hwr.out⟩
end Go.Proofs.YtedpljclnpiggaaGreatDoor

/-
  phratrylaw03.Across over two stores with the same terms.
-/
namespace Go.Proofs.YtedpljclnpiggaaGreatDoor
open Go Go.RowKit

/-- Under way: the map of the terms up to number k. -/
structure AcIn (s r : Nat) (L : List TermD) (F G : Nat → Prop) (w : World) (mp k : Nat) (wr : World) (v : Value) (G' : Nat → Prop) : Prop where
  row : wr.heap[mp]? = some (.cells #[v] 115 (0, 0))
  own : OwnI v (idL (k + 1)) wr
  ps : ProgStore wr s F L
  rs : RefStore wr r G' L
  ext : Ext G G' w wr
  turned : Turned G w wr
  new : w.heap.size ≤ mp ∧ ¬ F mp ∧ ¬ G' mp
  far : ∀ g, v.ownBlock = some g → w.heap.size ≤ g ∧ g ≠ mp ∧ ¬ G' g
  ap : ∀ x, F x → ¬ G' x

def AcRel (s r : Nat) (L : List TermD) (F G : Nat → Prop) (w : World) (mp : Nat) (i : Value) (wr : World) : Prop :=
  ∃ k v G', k ≤ L.length ∧ i = .int .i64 ((k : Int) + 1) ∧ AcIn s r L F G w mp k wr v G'

def AcPost (L : List TermD) (G : Nat → Prop) (w : World) (e : Ending) (w' : World) : Prop :=
  ∃ mp, e = .returned (.tuple #[.pointer (some ⟨mp, 0, none⟩), .bool true]) ∧ MapAt w' mp (L.length + 1) ∧ Turned G w w'

/-- What a round reads of the map. -/
theorem ac_read {s r : Nat} {L : List TermD} {F G : Nat → Prop} {w wr : World} {mp k : Nat} {v : Value} {G' : Nat → Prop} (h : AcIn s r L F G w mp k wr v G') :
    ∃ g c, v = .slice (some ⟨g, 0, none⟩) (k + 1) c ∧ g < wr.heap.size ∧ wr.cell? ⟨mp, 0, none⟩ = some v ∧ ∀ i : Nat, i < k + 1 → wr.cell? ⟨g, i, none⟩ = some (.int .i64 i) := by
  rcases h.own.2 with ⟨_, h2⟩ | ⟨g, cap, cur, h1, _, hg, h4, _⟩
  · rw [idL_len] at h2; omega
  · rw [idL_len] at h1
    refine ⟨g, cap, h1, (Array.getElem?_eq_some_iff.1 hg).1, (cell_row h.row 0).trans rfl, fun i hi => ?_⟩
    have hown := h.own
    rw [h1] at hown
    obtain ⟨b, o, e, hc⟩ := ownI_at hown i (by rw [idL_len]; exact hi)
    obtain ⟨rfl, rfl⟩ : g = b ∧ 0 = o := by simpa using e
    rw [idL_get hi, Nat.zero_add] at hc
    exact hc

theorem AcIn.new' {s r : Nat} {L : List TermD} {F G : Nat → Prop} {w wr w1 : World} {mp k : Nat} {v : Value} {G' : Nat → Prop} (h : AcIn s r L F G w mp k wr v G') (hb : Below wr.heap.size wr w1) : AcIn s r L F G w mp k w1 v G' := by
  have hT : Turned (fun _ => False) wr w1 := Turned.new _ hb
  obtain ⟨e1, e2⟩ := foot_trans h.ext h.turned (Ext.refl G' wr w1) (Turned.new G' hb)
  exact ⟨(hb.block mp (Array.getElem?_eq_some_iff.1 h.row).1).trans h.row, ownI_kept h.own hT (fun _ _ h => h), h.ps.new hb, h.rs.new hb, e1, e2, h.new, h.far, h.ap⟩

theorem AcIn.ref {s r : Nat} {L : List TermD} {F G : Nat → Prop} {w wr w1 : World} {mp k : Nat} {v : Value} {G' G'' : Nat → Prop} (h : AcIn s r L F G w mp k wr v G') (hx : Ext G' G'' wr w1) (hs : RefStore w1 r G'' L) (hT : Turned G' wr w1) : AcIn s r L F G w mp k w1 v G'' := by
  obtain ⟨e1, e2⟩ := foot_trans h.ext h.turned hx hT
  have hmp := (Array.getElem?_eq_some_iff.1 h.row).1
  have hnot : ∀ x, x < wr.heap.size → ¬ G' x → ¬ G'' x := fun x hlt hn hg => by
    rcases hx x hg with h1 | h1
    · exact hn h1
    · omega
  exact ⟨(hT.block mp hmp h.new.2.2).trans h.row, ownI_kept h.own hT (fun g hg => (h.far g hg).2.2), h.ps.kept hT (fun k hk hg => h.ap k hk hg), hs, e1, e2, ⟨h.new.1, h.new.2.1, hnot mp hmp h.new.2.2⟩,
    fun g hg => ⟨(h.far g hg).1, (h.far g hg).2.1, hnot g (ownI_lt h.own hg) (h.far g hg).2.2⟩, fun x hx' => hnot x (h.ps.lt x hx') (h.ap x hx')⟩

/-- One number more. -/
theorem ac_step {s r : Nat} {L : List TermD} {F G : Nat → Prop} {w wr w3 w5 : World} {mp k g c : Nat} {v : Value} {G' : Nat → Prop} (h : AcIn s r L F G w mp k wr v G') (hFw : ∀ x, F x → x < w.heap.size) (hb : Below wr.heap.size wr w3)
    (hown : OwnI (.slice (some ⟨g, 0, none⟩) (k + 1 + 1) c) (idL (k + 1 + 1)) w5) (hgrow : w3.grownBy w5 v.ownBlock) (hat : v.ownBlock = some g ∨ g = w3.heap.size) :
    AcIn s r L F G w mp (k + 1) (w5.setCell ⟨mp, 0, none⟩ (.slice (some ⟨g, 0, none⟩) (k + 1 + 1) c)) (.slice (some ⟨g, 0, none⟩) (k + 1 + 1) c) G' := by
  have h3 := h.new' hb
  have hmp := (Array.getElem?_eq_some_iff.1 h3.row).1
  have hvl : ∀ x, v.ownBlock = some x → x < w3.heap.size := fun x hx => ownI_lt h3.own hx
  have hgmp : g ≠ mp := by
    rcases hat with e | e
    · exact (h.far g e).2.1
    · omega
  have hgw : w.heap.size ≤ g := by
    rcases hat with e | e
    · exact (h.far g e).1
    · have := h3.turned.size; omega
  have hgG : ¬ G' g := by
    rcases hat with e | e
    · exact (h.far g e).2.2
    · intro hg; have := h3.rs.lt g hg; omega
  have hT : Turned (fun x => v.ownBlock = some x ∨ x = mp) w3 (w5.setCell ⟨mp, 0, none⟩ (.slice (some ⟨g, 0, none⟩) (k + 1 + 1) c)) :=
    (((Turned.refl _ w3).grown hgrow (fun _ _ e => .inl e)).setCell (fun _ => .inr rfl) _)
  have hr5 := (hgrow.block mp hmp (fun e => (h.far mp e.symm).2.1 rfl)).trans h3.row
  refine ⟨row_setCell hr5 0 _, ownsRow_setCell_other hown (by simp [Value.ownBlock, hgmp]) _, h3.ps.kept hT (fun x hx e => ?_), h3.rs.kept hT (fun x hx e => ?_), h3.ext.wide hT.size, h3.turned.trans hT (fun x hlt e => ?_), h.new, fun g' hg' => ?_, h.ap⟩
  · rcases e with e | e
    · have := (h.far x e).1; have := hFw x hx; omega
    · subst e; exact h.new.2.1 hx
  · rcases e with e | e
    · exact (h.far x e).2.2 hx
    · subst e; exact h.new.2.2 hx
  · rcases e with e | e
    · have := (h.far x e).1; omega
    · subst e; have := h.new.1; omega
  · obtain rfl : g = g' := by simpa [Value.ownBlock] using hg'
    exact ⟨hgw, hgmp, hgG⟩
end Go.Proofs.YtedpljclnpiggaaGreatDoor

/-
  All terms of a store may be.
-/
namespace Go.Proofs.YtedpljclnpiggaaGreatDoor

def AllMay (L : List TermD) : Prop := ∀ t ∈ L, mayD L.length t = true

theorem may_mono {m m' : Nat} {t : TermD} (h : mayD m t = true) (hm : m ≤ m') : mayD m' t = true := by
  have hb : ∀ x, thereD m x = true → thereD m' x = true := fun x hx => there_mono hx hm
  unfold mayD at h ⊢
  split at h
  · rename_i e; rw [if_pos e]; exact h
  · rename_i e1; rw [if_neg e1]
    split at h
    · rename_i e; rw [if_pos e]; exact h
    · rename_i e2; rw [if_neg e2]
      split at h
      · rename_i e; rw [if_pos e]
        simp only [Bool.and_eq_true] at h ⊢
        exact ⟨⟨h.1.1, hb _ h.1.2⟩, hb _ h.2⟩
      · rename_i e3; rw [if_neg e3]
        split at h
        · rename_i e; rw [if_pos e]
          simp only [Bool.and_eq_true, Bool.or_eq_true] at h ⊢
          exact ⟨⟨h.1.1, hb _ h.1.2⟩, h.2.imp (hb _) id⟩
        · rename_i e4; rw [if_neg e4]
          split at h
          · rename_i e; rw [if_pos e]
            simp only [Bool.and_eq_true] at h ⊢
            exact ⟨⟨h.1.1, hb _ h.1.2⟩, h.2⟩
          · cases h

theorem AllMay.make {L : List TermD} (h : AllMay L) (t : TermD) : AllMay (makeL L t) := by
  rcases makeL_cases L t with e | ⟨hm, _, _, e⟩
  · rw [e]; exact h
  · rw [e]
    intro s hs
    rw [List.length_append]
    rcases List.mem_append.1 hs with hs | hs
    · exact may_mono (h s hs) (by omega)
    · have : s = t := by simpa using hs
      rw [this]; exact may_mono hm (by omega)

theorem fold_may : ∀ (l L : List TermD), AllMay L → AllMay (l.foldl makeL L)
  | [], _, h => h
  | t :: l, L, h => by rw [List.foldl_cons]; exact fold_may l _ (h.make t)
theorem buildL_may (l : List TermD) : AllMay (buildL l) := fold_may l [] (fun _ h => by simp at h)
theorem secEnd_may : ∀ (k : Nat) (L : List TermD) (x : Int), AllMay L → AllMay (secEnd k L x)
  | 0, _, _, h => h
  | k + 1, L, x, h => by unfold secEnd; exact secEnd_may k _ _ (h.make _)
theorem secretsT_may {L : List TermD} (seed many : Int) (h : AllMay L) : AllMay (secretsT L seed many) := by
  unfold secretsT
  split
  · exact h
  · exact secEnd_may _ _ _ h
theorem nodeT_may {L : List TermD} (x : Int) (h : AllMay L) : AllMay (nodeT L x) := by
  unfold nodeT
  split
  · exact (h.make _).make _
  · exact h
end Go.Proofs.YtedpljclnpiggaaGreatDoor
