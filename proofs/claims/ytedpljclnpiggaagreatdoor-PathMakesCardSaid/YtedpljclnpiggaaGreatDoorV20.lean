/- SetPath as data. -/
import Derived.Test.YtedpljclnpiggaaGreatDoorV19
import Derived.Lib.SliceRun
import Derived.Test.YtedpljclnpiggaaGreatDoorV16
set_option linter.unusedVariables false
set_option linter.unusedSimpArgs false
set_option maxRecDepth 100000
set_option maxHeartbeats 12800000
namespace Go.Proofs.YtedpljclnpiggaaGreatDoor
section
open Go Go.RowKit
def delD (fresh : List Int) (x : Nat) : Bool := decide (x % 2 = 0) && decide (((x / 2 : Nat) : Int) ∈ fresh)
theorem mtarg1_any (B : Nat) (fresh : List Int) (hl : fresh.length ≤ 1000000000) (fa : Option Addr) (fc q x : Nat) (hx : x ≤ 1000) (w : World) (hq : w.cell? ⟨q, 0, none⟩ = some (.slice fa fresh.length fc)) (hN : NumsAt B w fa fresh) :
    Calls Tryz.prog 202 #[.int .i64 x, .pointer (some ⟨q, 0, none⟩)] w fun e w' => e = .returned (.bool (delD fresh x)) ∧ w' = w := by
 have H := hQ (mcontains_any B ((x / 2 : Nat) : Int) fresh hl fa fc w hN)
 have hxI : (x : Int) ≤ 1000 := by omega
 have e2 : ((x / 2 : Nat) : Int) = (x : Int) / 2 := by omega
 rw [e2] at H
 have hlI : (fresh.length : Int) ≤ 1000000000 := by omega
 by_cases he : x % 2 = 0
 · have heI : (x : Int) % 2 = 0 := by omega
   have hd : delD fresh x = decide ((x : Int) / 2 ∈ fresh) := by unfold delD; rw [e2]; simp [he]
   have Hd := hQ hd
   clear hd hN he e2 hl hx
   go_enter Tryz.func202, Tryz.ntmps202
   go_wp2_with fail
   refine H.out.mono ?_
   rintro e wx ⟨rfl, hwx⟩
   subst wx
   rw [← Hd.out]
   generalize hbb : delD fresh x = b
   have Hbb := hQ hbb
   clear hbb
   go_wp2
   go_ret
   exact ⟨by rw [Hbb.out]; rfl, rfl⟩
 · have heI : (x : Int) % 2 = 1 := by omega
   have hd : delD fresh x = false := by unfold delD; simp [he]
   rw [hd]
   clear hd hN he e2 hl hx H
   go_enter Tryz.func202, Tryz.ntmps202
   go_wp2
   go_ret
   exact ⟨rfl, rfl⟩
theorem setCells_row (g : Nat) {e : TypeId} {fz : Nat × Nat} : ∀ (vs : List Value) (o : Nat) (w : World) (cur : Array Value), w.heap[g]? = some (.cells cur e fz) →
    ∃ cur', (w.setCells g o vs).heap[g]? = some (.cells cur' e fz) ∧ cur'.size = cur.size ∧ (∀ j, j < o → cur'[j]? = cur[j]?) ∧ Turned (fun k => k = g) w (w.setCells g o vs)
 | [], _, w, cur, h => ⟨cur, h, rfl, fun _ _ => rfl, Turned.refl _ _⟩
 | v :: r, o, w, cur, h => by
  obtain ⟨c, h1, h2, h3, h4⟩ := setCells_row g r (o + 1) (w.setCell ⟨g, o, none⟩ v) _ (rSc h o v)
  refine ⟨c, h1, by rw [h2]; simp, fun j hj => ?_, ((Turned.refl (fun k => k = g) w).setCell (p := ⟨g, o, none⟩) (fun _ => rfl) v).trans h4 (fun _ _ h => h)⟩
  rw [h3 j (by omega), Array.getElem?_setIfInBounds]
  split
  · omega
  · rfl
theorem keep_step {d : Nat → Bool} {l : List Nat} {j : Nat} (h : j < l.length) : (l.take (j + 1)).filter d = (l.take j).filter d ++ (if d (l.getD j 0) = true then [l.getD j 0] else []) := by
 have e : l.take (j + 1) = l.take j ++ [l.getD j 0] := by rw [List.take_add_one, List.getD_eq_getElem?_getD, List.getElem?_eq_getElem h]; rfl
 generalize l.getD j 0 = y at e ⊢
 rw [e, List.filter_append]
 congr 1
 by_cases hd : d y = true
 · rw [if_pos hd]; simp [hd]
 · rw [if_neg hd]; simp [hd]
structure DelAt (g : Nat) (w0 : World) (cur : Array Value) (l : List Nat) (d : Nat → Bool) (i j : Nat) (wr : World) : Prop where
 row : ∃ c, wr.heap[g]? = some (.cells c 3 (0, 0)) ∧ c.size = cur.size ∧ (∀ t, t < i → c[t]? = some (.int .i64 (((l.take j).filter d).getD t 0 : Nat))) ∧ (∀ t, j ≤ t → t < l.length → c[t]? = some (.int .i64 (l.getD t 0 : Nat)))
 len : ((l.take j).filter d).length = i
 tur : Turned (fun k => k = g) w0 wr
theorem DelAt.keep {g : Nat} {w0 wr : World} {cur : Array Value} {l : List Nat} {d : Nat → Bool} {i j : Nat} (h : DelAt g w0 cur l d i j wr) (hj : j < l.length) (hij : i < j) (hs : l.length ≤ cur.size) (hd : d (l.getD j 0) = true) :
    DelAt g w0 cur l d (i + 1) (j + 1) (wr.setCell ⟨g, i, none⟩ (.int .i64 (l.getD j 0 : Nat))) := by
 obtain ⟨c, h1, h2, h3, h4⟩ := h.row
 have hk := keep_step (d := d) hj
 rw [if_pos hd] at hk
 refine ⟨⟨_, rSc h1 i _, by simp [h2], fun t ht => ?_, fun t ht1 ht2 => ?_⟩, by rw [hk, List.length_append, h.len]; rfl, h.tur.setCell (fun _ => rfl) _⟩
 · rw [hk, Array.getElem?_setIfInBounds]
   by_cases e : i = t
   · subst e
     rw [if_pos rfl, if_pos (by omega)]
     have e2 : ((l.take j).filter d ++ [l.getD j 0]).getD i 0 = l.getD j 0 := by
      rw [List.getD_eq_getElem?_getD, List.getElem?_append_right (by rw [h.len]; exact Nat.le_refl _), h.len, Nat.sub_self]
      rfl
     rw [e2]
   · rw [if_neg e, h3 t (by omega)]
     have e2 : ((l.take j).filter d ++ [l.getD j 0]).getD t 0 = ((l.take j).filter d).getD t 0 := by
      simp only [List.getD_eq_getElem?_getD]
      rw [List.getElem?_append_left (by rw [h.len]; omega)]
     rw [e2]
 · rw [Array.getElem?_setIfInBounds, if_neg (by omega)]
   exact h4 t (by omega) ht2
theorem DelAt.skip {g : Nat} {w0 wr : World} {cur : Array Value} {l : List Nat} {d : Nat → Bool} {i j : Nat} (h : DelAt g w0 cur l d i j wr) (hj : j < l.length) (hd : ¬ d (l.getD j 0) = true) : DelAt g w0 cur l d i (j + 1) wr := by
 obtain ⟨c, h1, h2, h3, h4⟩ := h.row
 have hk := keep_step (d := d) hj
 rw [if_neg hd, List.append_nil] at hk
 exact ⟨⟨c, h1, h2, fun t ht => by rw [hk]; exact h3 t ht, fun t ht1 ht2 => h4 t (by omega) ht2⟩, by rw [hk]; exact h.len, h.tur⟩
theorem filter_take_all {d : Nat → Bool} {l : List Nat} {k : Nat} (hk : k ≤ l.length) (h : ∀ j, j < k → d (l.getD j 0) = true) : (l.take k).filter d = l.take k := by
 rw [List.filter_eq_self]
 intro y hy
 obtain ⟨j, hj, rfl⟩ := List.mem_iff_getElem.1 hy
 rw [List.length_take] at hj
 have := h j (by omega)
 rw [List.getD_eq_getElem?_getD, List.getElem?_eq_getElem (by omega)] at this
 simpa using this
def IdxFRel (d : Nat → Bool) (l : List Nat) (W : World) (i : Value) (wr : World) : Prop :=
 ∃ k : Nat, k ≤ l.length ∧ i = .int .i64 k ∧ wr = W ∧ ∀ j, j < k → d (l.getD j 0) = true
theorem mindexf_any (q : Nat) (fresh : List Int) (l : List Nat) (hl : l.length ≤ 1000) (hl2 : ∀ y ∈ l, y ≤ 1000) (g c : Nat) (w : World) (hat : ∀ t, t < l.length → w.cell? ⟨g, t, none⟩ = some (.int .i64 (l.getD t 0 : Nat)))
    (hc : ∀ x : Nat, x ≤ 1000 → Calls Tryz.prog 202 #[.int .i64 x, .pointer (some ⟨q, 0, none⟩)] w fun e w' => e = .returned (.bool (delD fresh x)) ∧ w' = w) :
    Calls Tryz.prog 295 #[.slice (some ⟨g, 0, none⟩) l.length c, .func (.func 202) #[] #[.pointer (some ⟨q, 0, none⟩)]] w fun e w' => w' = w ∧
     ((e = .returned (.int .i64 (-1)) ∧ ∀ j, j < l.length → delD fresh (l.getD j 0) = false) ∨ ∃ k : Nat, e = .returned (.int .i64 k) ∧ k < l.length ∧ delD fresh (l.getD k 0) = true ∧ ∀ j, j < k → delD fresh (l.getD j 0) = false) := by
 have Hat := hQ hat
 have Hc := hQ hc
 have Hl2 := hQ hl2
 have hlI : (l.length : Int) ≤ 1000 := by omega
 clear hat hc hl2
 go_enter Tryz.func295, Tryz.ntmps295
 go_wp2
 go_loopw [8] (fun i wr => IdxFRel (fun x => !delD fresh x) l w i wr) (fun i _ => l.length - (intOf i).toNat)
 case atStart => exact ⟨0, Nat.zero_le _, rfl, rfl, fun j hj => absurd hj (Nat.not_lt_zero _)⟩
 case round =>
  obtain ⟨k, hk, rfl, rfl, hno⟩ := hrel
  have Hno := hQ hno; clear hno
  by_cases hkl : k < l.length
  · have c0 := Hat.out k hkl
    have hkI : (k : Int) < l.length := by omega
    have hm : l.getD k 0 ∈ l := by rw [List.getD_eq_getElem?_getD, List.getElem?_eq_getElem hkl]; exact List.getElem_mem _
    have hcl := Hc.out _ (Hl2.out _ hm)
    have Hcl := hQ hcl
    obtain ⟨y, hy⟩ : ∃ y, y = l.getD k 0 := ⟨_, rfl⟩
    rw [← hy] at c0 Hcl
    have Hy := hQ hy
    clear hm hcl hy
    by_cases he : delD fresh y = true
    · rw [he] at Hcl
      go_wp2_with fail
      refine Hcl.out.mono ?_
      rintro e wx ⟨rfl, hwx⟩
      subst wx
      go_wp2
      go_ret
      exact ⟨rfl, .inr ⟨k, rfl, hkl, by rw [← Hy.out]; exact he, fun j hj => by simpa using Hno.out j hj⟩⟩
    · rw [show delD fresh y = false by simpa using he] at Hcl
      go_wp2_with fail
      refine Hcl.out.mono ?_
      rintro e wx ⟨rfl, hwx⟩
      subst wx
      go_wp2
      exact ⟨⟨k + 1, by omega, by go_num, rfl, fun j hj => by
       by_cases e : j = k
       · subst e; rw [← Hy.out]; simpa using he
       · exact Hno.out j (by omega)⟩, by simp [intOf]; omega⟩
  · obtain rfl : k = l.length := by omega
    go_wp2
    go_ret
    exact ⟨rfl, .inl ⟨rfl, fun j hj => by simpa using Hno.out j hj⟩⟩
end
section
open Go Go.RowKit
def keepL (fresh : List Int) (l : List Nat) : List Nat := l.filter fun x => !delD fresh x
theorem own_of_cells {w : World} {g cap : Nat} {c : Array Value} {l : List Nat} (h : w.heap[g]? = some (.cells c 3 (0, 0))) (hs : c.size = cap * 1) (hn : l.length ≤ cap) (hm : cap ≤ maxLen) (hc : ∀ t, t < l.length → c[t]? = some (.int .i64 (l.getD t 0 : Nat))) :
    OwnI (.slice (some ⟨g, 0, none⟩) l.length cap) (natI l) w := by
 unfold OwnI
 rw [nIl]
 refine ⟨by simp [natI], .inr ⟨g, cap, c, rfl, Nat.zero_le _, h, hn, hm, hs, ?_⟩⟩
 apply List.ext_getElem?
 intro t
 rw [List.getElem?_take]
 by_cases ht : t < l.length
 · rw [if_pos (by omega)]
   have := hc t ht
   rw [List.getElem?_map, natI, List.getElem?_map, List.getElem?_eq_getElem ht]
   rw [List.getD_eq_getElem?_getD, List.getElem?_eq_getElem ht] at this
   simpa [intV] using this
 · rw [if_neg (by omega), List.getElem?_eq_none (by simp [natI]; omega)]
theorem cells_of_own {w : World} {a : Option Addr} {cp : Nat} {l : List Nat} (h : OwnI (.slice a l.length cp) (natI l) w) (h0 : l ≠ []) :
    ∃ g c, a = some ⟨g, 0, none⟩ ∧ w.heap[g]? = some (.cells c 3 (0, 0)) ∧ c.size = cp * 1 ∧ l.length ≤ cp ∧ cp ≤ maxLen ∧ ∀ t, t < l.length → c[t]? = some (.int .i64 (l.getD t 0 : Nat)) := by
 unfold OwnI at h
 rw [nIl] at h
 rcases h.2 with ⟨_, h2⟩ | ⟨g, cap, cur, h1, hB, hg, h4, h5, hs, ht⟩
 · exact absurd (List.length_eq_zero_iff.1 h2) h0
 · obtain ⟨rfl, _, rfl⟩ : a = some ⟨g, 0, none⟩ ∧ l.length = l.length ∧ cp = cap := by simpa using h1
   refine ⟨g, cur, rfl, hg, hs, h4, h5, fun t htl => ?_⟩
   have e := congrArg (fun z => z[t]?) ht
   simp only [List.getElem?_take] at e
   rw [if_pos (by omega)] at e
   rw [List.getElem?_map, natI, List.getElem?_map, List.getElem?_eq_getElem htl] at e
   rw [List.getD_eq_getElem?_getD, List.getElem?_eq_getElem htl]
   simpa [intV] using e
def DfRel (g : Nat) (w0 : World) (cur : Array Value) (l : List Nat) (d : Nat → Bool) (si sj : Value) (wr : World) : Prop :=
 ∃ i j : Nat, si = .int .i64 i ∧ sj = .int .i64 j ∧ j ≤ l.length ∧ i < j ∧ DelAt g w0 cur l d i j wr
theorem mdeletef_any (B : Nat) (fresh : List Int) (hfl : fresh.length ≤ 1000000000) (fa : Option Addr) (fc q : Nat) (l : List Nat) (hl : l.length ≤ 1000) (hl0 : l ≠ []) (hl2 : ∀ y ∈ l, y ≤ 1000) (g c : Nat) (w : World)
    (hown : OwnI (.slice (some ⟨g, 0, none⟩) l.length c) (natI l) w) (hBg : B ≤ g) (hB : B ≤ w.heap.size) (hqg : q ≠ g) (hqs : q < w.heap.size) (hq : w.cell? ⟨q, 0, none⟩ = some (.slice fa fresh.length fc)) (hN : NumsAt B w fa fresh) :
    Calls Tryz.prog 201 #[.slice (some ⟨g, 0, none⟩) l.length c, .func (.func 202) #[] #[.pointer (some ⟨q, 0, none⟩)]] w fun e w' =>
     e = .returned (.slice (some ⟨g, 0, none⟩) (keepL fresh l).length c) ∧ OwnI (.slice (some ⟨g, 0, none⟩) (keepL fresh l).length c) (natI (keepL fresh l)) w' ∧ Turned (fun k => k = g) w w' := by
 obtain ⟨g', cur, e, hrow, hs, hn, hm, hc⟩ := cells_of_own hown hl0
 obtain rfl : g = g' := by simpa using e
 have hcl : ∀ W, Turned (fun k => k = g) w W → ∀ x : Nat, x ≤ 1000 → Calls Tryz.prog 202 #[.int .i64 x, .pointer (some ⟨q, 0, none⟩)] W fun e w' => e = .returned (.bool (delD fresh x)) ∧ w' = W := fun W hT x hx =>
  mtarg1_any B fresh hfl fa fc q x hx W ((hT.cell (p := ⟨q, 0, none⟩) hqs hqg).trans hq) (hN.below (hT.below hB (fun k e => by omega)))
 have hif := mindexf_any q fresh l hl hl2 g c w (fun t ht => (cRw hrow t).trans (hc t ht)) (hcl w (Turned.refl _ _))
 have Hif := hQ hif
 have Hcl := hQ hcl
 have Hl2 := hQ hl2
 have HR := hQ (And.intro hrow (And.intro hs (And.intro hn (And.intro hm hc))))
 have Hown := hQ hown
 have hlI : (l.length : Int) ≤ 1000 := by omega
 have hcI : (l.length : Int) ≤ c := by omega
 have hcm : (c : Int) ≤ 9223372036854775807 := by unfold maxLen at hm; omega
 clear hrow hs hm hc hif hcl hl2 hown hN hq hqs hqg hB hBg hfl e
 go_enter Tryz.func201, Tryz.ntmps201
 go_wp2_with fail
 refine Hif.out.mono ?_
 rintro e wx ⟨hwx, h⟩
 subst wx
 rcases h with ⟨rfl, hall⟩ | ⟨k0, rfl, hk0, hd0, hall⟩
 · have hk : keepL fresh l = l := by
     unfold keepL
     have := filter_take_all (d := fun x => !delD fresh x) (Nat.le_refl l.length) (fun j hj => by rw [hall j hj]; rfl)
     rwa [List.take_length] at this
   have Hk := hQ hk
   clear hall hk
   go_wp2
   go_ret
   exact ⟨by rw [Hk.out]; rfl, by rw [Hk.out]; exact Hown.out, Turned.refl _ _⟩
 · have hst : DelAt g w cur l (fun x => !delD fresh x) k0 (k0 + 1) w := by
     have h1 := filter_take_all (d := fun x => !delD fresh x) (Nat.le_of_lt hk0) (fun j hj => by rw [hall j hj]; rfl)
     have h2 := keep_step (d := fun x => !delD fresh x) hk0
     rw [if_neg (by rw [hd0]; decide), List.append_nil, h1] at h2
     obtain ⟨r1, r2, r3, r4, r5⟩ := HR.out
     refine ⟨⟨cur, r1, rfl, fun t ht => ?_, fun t _ ht2 => r5 t ht2⟩, by rw [h2, List.length_take]; omega, Turned.refl _ _⟩
     rw [h2, r5 t (by omega), List.getD_eq_getElem?_getD, List.getD_eq_getElem?_getD, List.getElem?_take, if_pos ht]
   have Hst := hQ hst
   have hk0I : (k0 : Int) < l.length := by omega
   have hne : ((k0 : Int) == -1) = false := beq_eq_false_iff_ne.2 (by omega)
   clear hst hall hd0 hk0
   go_wp2
   go_loopw [5, 6] (fun si sj wr => DfRel g w cur l (fun x => !delD fresh x) si sj wr) (fun _ sj _ => l.length - (intOf sj).toNat)
   case atStart => exact ⟨k0, k0 + 1, rfl, by go_num, by omega, by omega, Hst.out⟩
   case round =>
    obtain ⟨i, j, rfl, rfl, hj, hij, hD⟩ := hrel
    have HD := hQ hD
    obtain ⟨cw, r1, r2, r3, r4⟩ := hD.row
    have hsz := HR.out.2.1
    by_cases hjl : j < l.length
    · have hjI : (j : Int) < l.length := by omega
      have hiI : (i : Int) < l.length := by omega
      have c0 := (cRw r1 j).trans (r4 j (Nat.le_refl _) hjl)
      have hmem : l.getD j 0 ∈ l := by rw [List.getD_eq_getElem?_getD, List.getElem?_eq_getElem hjl]; exact List.getElem_mem _
      have Hcj := hQ (Hcl.out wr hD.tur _ (Hl2.out _ hmem))
      have hold : ∃ old, wr.cell? ⟨g, i, none⟩ = some old := by
       rw [cRw r1]
       exact ⟨_, Array.getElem?_eq_getElem (by omega)⟩
      obtain ⟨old, c1⟩ := hold
      have f1 := fRw r1 i
      have hkeep := fun h => hD.keep hjl hij (by omega) h
      have hskip := fun h => hD.skip hjl h
      have Hkeep := hQ hkeep
      have Hskip := hQ hskip
      generalize l.getD j 0 = y at c0 Hcj Hkeep Hskip
      clear r1 r2 r3 r4 hsz hmem hD hkeep hskip
      by_cases hd : delD fresh y = true
      · rw [hd] at Hcj
        have HN := hQ (Hskip.out (by simp [hd]))
        clear Hkeep Hskip
        go_wp2_with fail
        refine Hcj.out.mono ?_
        rintro e wx ⟨rfl, hwx⟩
        subst wx
        go_wp2
        exact ⟨⟨i, j + 1, rfl, by go_num, by omega, by omega, HN.out⟩, by simp [intOf]; omega⟩
      · have hd' : delD fresh y = false := by simpa using hd
        rw [hd'] at Hcj
        have HN := hQ (Hkeep.out (by simp [hd']))
        clear Hkeep Hskip
        go_wp2_with fail
        refine Hcj.out.mono ?_
        rintro e wx ⟨rfl, hwx⟩
        subst wx
        go_wp2
        exact ⟨⟨i + 1, j + 1, by go_num, by go_num, by omega, by omega, HN.out⟩, by simp [intOf]; omega⟩
    · obtain rfl : j = l.length := by omega
      have hjI : ¬ (l.length : Int) < l.length := by omega
      have hclr : ∀ ty, (Builtin.clear_ #[27] ty #[.slice (some ⟨g, i, none⟩) (l.length - i) (c - i)]).run Tryz.prog wr = .ok (.tuple #[]) (wr.setCells g i (List.replicate (l.length - i) (.int .i64 0))) := fun ty =>
       Lib.run_clear_slice wr 27 3 ty (.int .i64 0) Tryz.underlying27 (fun w => by exact Tryz.zeroValue3 w) rfl rfl g i _ _ (by omega) (fun t ht => by rw [cRw r1, Array.getElem?_eq_getElem (by omega)]; rfl) (fun t ht => fRw r1 _)
      have hfin : keepL fresh l = (l.take l.length).filter (fun x => !delD fresh x) := by rw [List.take_length]; rfl
      have hlen := hD.len
      rw [← hfin] at r3 hlen
      obtain ⟨c2, s1, s2, s3, s4⟩ := setCells_row g (List.replicate (l.length - i) (.int .i64 0)) i wr cw r1
      have hres : OwnI (.slice (some ⟨g, 0, none⟩) i c) (natI (keepL fresh l)) (wr.setCells g i (List.replicate (l.length - i) (.int .i64 0))) := by
       have := own_of_cells (cap := c) (l := keepL fresh l) s1 (by rw [s2, r2]; exact hsz) (by rw [hlen]; omega) HR.out.2.2.2.1 (fun t ht => by rw [s3 t (by omega)]; exact r3 t (by omega))
       rw [hlen] at this
       exact this
      have hTu : Turned (fun k => k = g) w (wr.setCells g i (List.replicate (l.length - i) (.int .i64 0))) := hD.tur.trans s4 (fun _ _ h => h)
      have Hres := hQ hres
      have HTu := hQ hTu
      have Hlen := hQ hlen
      clear r1 r2 r3 r4 hsz hD hfin hlen s1 s2 s3 s4 hres hTu
      have hiI : (i : Int) ≤ l.length := by omega
      go_wp2
      go_ret
      exact ⟨by rw [Hlen.out]; rfl, by rw [Hlen.out]; exact Hres.out, HTu.out⟩
end
section
open Go Go.RowKit
def tgtD (T : List NodeD) (leaf : Nat) (fresh : List Int) : List (List Nat) := (rowsD T leaf).map fun r => keepL fresh r.2
theorem res_mem {T : List NodeD} (h : OkT' T) : ∀ (f x : Nat), x < T.length → ∀ y ∈ resD T f x, y < T.length
 | 0, _, _ => by simp [resD]
 | f + 1, x, hx => by
  have hu := um_ok h hx
  obtain ⟨hn, hTn⟩ := leaves_isN (ok_leaves h (by omega))
  intro y hy
  unfold resD at hy
  split at hy
  · rcases List.mem_cons.1 hy with rfl | hy
    · exact hx
    · obtain ⟨u, hu1, rfl⟩ := List.mem_map.1 hy
      have := hu.2.2 u hu1
      omega
  · split at hy
    · rename_i ho
      have hk := kid hn (by omega : x < 2 * lvD T.length - 1) ho
      rcases List.mem_append.1 hy with hy | hy
      · exact res_mem h f (lefX x) (by omega) y hy
      · exact res_mem h f (rigX x) (by omega) y hy
    · simp at hy
theorem ask_zero {T : List NodeD} {leaf : Int} (ha : askD T leaf = 0) : OkT' T ∧ 0 ≤ leaf ∧ leaf.toNat < lvD T.length ∧ isN (lvD T.length) ∧ T.length = 2 * lvD T.length - 1 ∧ (nodeD T (2 * leaf.toNat)).pub ≠ 0 := by
 unfold askD at ha
 split at ha
 · rename_i h1
   have hok := errD_zero h1
   split at ha
   · cases ha
   · rename_i h2
     have h3 : 0 ≤ leaf := by omega
     have h4 : leaf.toNat < lvD T.length := by omega
     obtain ⟨hn, hT⟩ := leaves_isN (ok_leaves hok (by intro h; rw [h] at h4; simp [lvD] at h4))
     refine ⟨hok, h3, h4, hn, by omega, fun h => h2 (.inr (.inr ?_))⟩
     rw [show (2 * leaf).toNat = 2 * leaf.toNat by omega]
     exact h
 · cases ha
theorem rows_facts {T : List NodeD} {leaf : Int} {Rs : List RowV} (h : Rs.map RowV.data = (if askD T leaf = 0 then rowsD T leaf.toNat else [])) : ∀ r ∈ Rs, r.other ≠ [] ∧ r.other.length ≤ 144 ∧ (∀ y ∈ r.other, y < T.length) ∧ T.length ≤ 15 := by
 intro r hr
 by_cases ha : askD T leaf = 0
 · rw [if_pos ha] at h
   obtain ⟨hok, h0, hlt, hn, hT, _⟩ := ask_zero ha
   have hm : r.data ∈ rowsD T leaf.toNat := by rw [← h]; exact List.mem_map_of_mem hr
   unfold rowsD rowsOf at hm
   obtain ⟨hm1, hm2⟩ := List.mem_filter.1 hm
   obtain ⟨x, hx, e⟩ := List.mem_map.1 hm1
   have hof := oth_facts hn hlt
   have hox := hof.2.2 x hx
   have e2 : r.other = resD T 4 (oth leaf.toNat x) := (congrArg Prod.snd e).symm
   have h1 := res_len hok 4 (oth leaf.toNat x) (by omega)
   refine ⟨of_decide_eq_true hm2, by rw [e2]; simpa using h1, fun y hy => ?_, ?_⟩
   · rw [e2] at hy
     exact res_mem hok 4 _ (by omega) y hy
   · rcases hn with h | h | h | h <;> omega
 · rw [if_neg ha] at h
   simp at h
   simp [h] at hr
structure TgV where
 other : List Nat
 val : Value
structure TgIn (N0 : Nat) (w : World) (v : Value) (Ts : List TgV) : Prop where
 own : w.ownsRow 0 27 1 v Ts.length (Ts.map (·.val))
 far : ∀ g, v.ownBlock = some g → N0 ≤ g
 each : ∀ t ∈ Ts, OwnI t.val (natI t.other) w ∧ ∀ g, t.val.ownBlock = some g → N0 ≤ g ∧ v.ownBlock ≠ some g
theorem TgIn.len {N0 : Nat} {w : World} {v : Value} {Rs : List TgV} (h : TgIn N0 w v Rs) : ∃ a c, v = .slice a Rs.length c := by
 rcases h.own.2 with ⟨e, h2⟩ | ⟨g, cap, cur, e, _⟩
 · exact ⟨none, 0, by rw [e, h2]⟩
 · exact ⟨_, _, e⟩
def TgtAns (T : List NodeD) (leaf : Int) (fresh : List Int) (w : World) (e : Ending) (w' : World) : Prop :=
 ∃ v Ts, e = .returned (.tuple #[v, .int .i64 (askD T leaf)]) ∧ TgIn w.heap.size w' v Ts ∧ Ts.map (·.other) = (if askD T leaf = 0 then tgtD T leaf.toNat fresh else []) ∧ Below w.heap.size w w'
theorem mInfoSl : (Tryz.prog.info? 27).map (fun i => (i.zero, i.size, i.bytes)) = some (some (.slice none 0 0), 1, 24) := by kernel_rfl
structure TgAt (N0 : Nat) (Rs : List RowV) (fresh : List Int) (W : World) (k : Nat) (v : Value) (Ts : List TgV) (wr : World) : Prop where
 own : wr.ownsRow 0 27 1 v Ts.length (Ts.map (·.val))
 far : ∀ g, v.ownBlock = some g → W.heap.size ≤ g
 each : ∀ t ∈ Ts, OwnI t.val (natI t.other) wr ∧ ∀ g, t.val.ownBlock = some g → g < W.heap.size ∧ ∃ r ∈ Rs.take k, r.val.ownBlock = some g
 map : Ts.map (·.other) = (Rs.take k).map fun r => keepL fresh r.other
 tur : Turned (fun b => ∃ r ∈ Rs.take k, r.val.ownBlock = some b) W wr
theorem TgAt.start (N0 : Nat) (Rs : List RowV) (fresh : List Int) (W : World) : TgAt N0 Rs fresh W 0 (.slice none 0 0) [] W :=
 ⟨⟨rfl, .inl ⟨rfl, rfl⟩⟩, fun g h => by simp [Value.ownBlock] at h, fun t h => by simp at h, rfl, Turned.refl _ _⟩
theorem TgAt.step {N0 : Nat} {Rs : List RowV} {fresh : List Int} {W wr w3 w5 : World} {k : Nat} {v rv : Value} {Ts : List TgV} {gb n c g2 c2 : Nat} {o o2 : Obj} (hR : RowsIn N0 W rv Rs) (h : TgAt N0 Rs fresh W k v Ts wr) (hk : k < Rs.length)
    (hgb : (Rs[k]).val.ownBlock = some gb) (h3 : Turned (fun b => b = gb) (wr.alloc o) w3)
    (hval : OwnI (.slice (some ⟨gb, 0, none⟩) n c) (natI (keepL fresh (Rs[k]).other)) w3)
    (hown : w5.ownsRow 0 27 1 (.slice (some ⟨g2, 0, none⟩) (Ts.length + 1) c2) (Ts.length + 1) (Ts.map (·.val) ++ [.slice (some ⟨gb, 0, none⟩) n c]))
    (hgrow : (w3.alloc o2).grownBy w5 v.ownBlock) (hat : v.ownBlock = some g2 ∨ g2 = w3.heap.size + 1) :
    TgAt N0 Rs fresh W (k + 1) (.slice (some ⟨g2, 0, none⟩) (Ts.length + 1) c2) (Ts ++ [⟨keepL fresh (Rs[k]).other, .slice (some ⟨gb, 0, none⟩) n c⟩]) w5 := by
 have htk : Rs.take (k + 1) = Rs.take k ++ [Rs[k]] := by rw [List.take_add_one, List.getElem?_eq_getElem hk]; rfl
 have hgbW : gb < W.heap.size := ownI_lt (hR.each _ (List.getElem_mem hk)).1 hgb
 have hdis : ∀ r ∈ Rs.take k, r.val.ownBlock ≠ some gb := fun r hr e => by
  obtain ⟨i, hi, rfl⟩ := List.mem_iff_getElem.1 hr
  rw [List.length_take] at hi
  have e2 : (Rs.take k)[i] = Rs[i]'(by omega) := by simp
  rw [e2] at e
  exact List.pairwise_iff_getElem.1 hR.dis i k (by omega) hk (by omega) gb e hgb
 have hT3 : Turned (fun b => b = gb) wr w3 := ((Turned.refl (fun b => b = gb) wr).alloc o).trans h3 (fun _ _ h => h)
 have hT5 : Turned (fun b => v.ownBlock = some b) w3 w5 := ((Turned.refl (fun k => v.ownBlock = some k) w3).alloc o2).grown hgrow (fun k _ e => e)
 have hvgb : v.ownBlock ≠ some gb := fun e => by have := h.far _ e; omega
 have hW3 : W.heap.size ≤ w3.heap.size := Nat.le_trans h.tur.size hT3.size
 refine ⟨by rw [List.map_append, List.length_append]; exact hown, fun g hg => ?_, fun t ht => ?_, by rw [htk, List.map_append, List.map_append, h.map]; rfl, ?_⟩
 · obtain rfl : g2 = g := by simpa [Value.ownBlock] using hg
   rcases hat with e | e
   · exact h.far _ e
   · omega
 · rcases List.mem_append.1 ht with ht | ht
   · have h1 := h.each t ht
     refine ⟨oIk (oIk h1.1 hT3 (fun b hb e => ?_)) hT5 (fun b hb e => ?_), fun g hg => ⟨(h1.2 g hg).1, ?_⟩⟩
     · subst e
       obtain ⟨r, hr, e2⟩ := (h1.2 _ hb).2
       exact hdis r hr e2
     · have := (h1.2 _ hb).1; have := h.far _ e; omega
     · obtain ⟨r, hr, e2⟩ := (h1.2 g hg).2
       exact ⟨r, by rw [htk]; exact List.mem_append_left _ hr, e2⟩
   · obtain rfl : t = ⟨keepL fresh (Rs[k]).other, .slice (some ⟨gb, 0, none⟩) n c⟩ := by simpa using ht
     refine ⟨oIk hval hT5 (fun b hb e => ?_), fun g hg => ?_⟩
     · obtain rfl : gb = b := by simpa [Value.ownBlock] using hb
       exact hvgb e
     · obtain rfl : gb = g := by simpa [Value.ownBlock] using hg
       exact ⟨hgbW, Rs[k], by rw [htk]; exact List.mem_append_right _ (List.mem_singleton.2 rfl), hgb⟩
 · have h1 : Turned (fun b => ∃ r ∈ Rs.take (k + 1), r.val.ownBlock = some b) W wr := h.tur.mono (fun b _ ⟨r, hr, e⟩ => ⟨r, by rw [htk]; exact List.mem_append_left _ hr, e⟩)
   refine (h1.trans hT3 (fun b _ e => ?_)).trans hT5 (fun b hb e => ?_)
   · subst e; exact ⟨Rs[k], by rw [htk]; exact List.mem_append_right _ (List.mem_singleton.2 rfl), hgb⟩
   · have := h.far _ e; omega
end
section
open Go Go.RowKit
def TgRel (N0 : Nat) (Rs : List RowV) (fresh : List Int) (W : World) (v i : Value) (wr : World) : Prop :=
 ∃ (k : Nat) (Ts : List TgV), k ≤ Rs.length ∧ i = .int .i64 k ∧ TgAt N0 Rs fresh W k v Ts wr
theorem TgAt.len {N0 k : Nat} {Rs : List RowV} {fresh : List Int} {W wr : World} {v : Value} {Ts : List TgV} (h : TgAt N0 Rs fresh W k v Ts wr) : ∃ a c, v = .slice a Ts.length c := by
 rcases h.own.2 with ⟨e, h2⟩ | ⟨g, cap, cur, e, _⟩
 · exact ⟨none, 0, by rw [e, h2]⟩
 · exact ⟨_, _, e⟩
theorem ownsRow_kept {w w' : World} {F : Nat → Prop} {b : Nat} {t : TypeId} {sz : Nat} {v : Value} {n : Nat} {xs : List Value} (h : w.ownsRow b t sz v n xs) (hT : Turned F w w') (hn : ∀ k, v.ownBlock = some k → ¬ F k) : w'.ownsRow b t sz v n xs := by
 refine ⟨h.1, ?_⟩
 rcases h.2 with h0 | ⟨g, cap, cur, e, hB, hg, rest⟩
 · exact .inl h0
 · exact .inr ⟨g, cap, cur, e, hB, (hT.block g (Array.getElem?_eq_some_iff.1 hg).1 (hn g (by rw [e]; rfl))).trans hg, rest⟩
theorem amtargets_any (B : Nat) (h3 : 3 ≤ B) (T : List NodeD) (hfit : FitT T) (hlen : T.length ≤ 262144) (a : Option Addr) (c : Nat) (leaf : Int) (fresh : List Int) (hfl : fresh.length ≤ 1000000000) (fa : Option Addr) (fc : Nat) (w : World) (htz : TzF w) (hB : B ≤ w.heap.size) (hT : TreeAt B w a T) (hN : NumsAt B w fa fresh) :
    Calls Tryz.prog 58 #[.agg #[.slice a T.length c], .int .i64 leaf, .slice fa fresh.length fc] w (TgtAns T leaf fresh w) := by
 obtain ⟨i0, hi0, hz0, hz1, hz2⟩ := info_parts mInfoSl
 have hb1 := ((Below.refl w.heap.size w).alloc (Nat.le_refl _) (.cells #[.slice a T.length c] 44)).alloc (by simp) (.cells #[.slice fa fresh.length fc] 27)
 have H := hQ (amrows_any B h3 T hfit hlen a c leaf _ (htz.below hb1 (Nat.le_trans h3 hB)) (Nat.le_trans hB hb1.size) (hT.below (hb1.mono hB)))
 have hq : ((w.alloc (.cells #[.slice a T.length c] 44)).alloc (.cells #[.slice fa fresh.length fc] 27)).heap[w.heap.size + 1]? = some (.cells #[.slice fa fresh.length fc] 27 (0, 0)) := by
  have := rAl (w := w.alloc (.cells #[.slice a T.length c] 44)) #[.slice fa fresh.length fc] 27 (0, 0)
  simpa using this
 have Hq := hQ hq
 have Hb1 := hQ hb1
 have HN := hQ (hN.below (hb1.mono hB))
 have hpd : (if askD T leaf = 0 then tgtD T leaf.toNat fresh else []) = (if askD T leaf = 0 then rowsD T leaf.toNat else []).map (fun r => keepL fresh r.2) := by
  unfold tgtD
  split <;> rfl
 have Hpd := hQ hpd
 have hrl := fun (Rs : List RowV) (h : Rs.map RowV.data = (if askD T leaf = 0 then rowsD T leaf.toNat else [])) => And.intro (rows_len h) (rows_facts h)
 have Hrl := hQ hrl
 have hak : askD T leaf = 0 ∨ askD T leaf = 1 ∨ askD T leaf = 7 := by
  unfold askD
  split
  · split
    · exact .inr (.inr rfl)
    · exact .inl rfl
  · exact .inr (.inl rfl)
 obtain ⟨P, hP⟩ : ∃ P, P = TgtAns T leaf fresh w := ⟨_, rfl⟩
 rw [← hP]
 have HP := hQ hP
 have HB := hQ hB
 unfold RowsAns at H
 obtain ⟨ak, hake⟩ : ∃ ak, ak = askD T leaf := ⟨_, rfl⟩
 obtain ⟨rl, hrle⟩ : ∃ rl, rl = (if askD T leaf = 0 then rowsD T leaf.toNat else []) := ⟨_, rfl⟩
 rw [← hrle, ← hake] at H
 rw [← hake] at hak
 have Hake := hQ hake
 have Hrle := hQ hrle
 clear hb1 hpd hrl hT htz hq hN hP hB hake hrle
 go_enter Tryz.func58, Tryz.ntmps58
 go_wp2_with fail
 refine H.out.mono ?_
 rintro r w2 ⟨v, Rs, rfl, hin, hmap, hb2⟩
 obtain ⟨va, vc, rfl⟩ := hin.len
 obtain ⟨hRl, hRf⟩ := Hrl.out Rs (by rw [hmap, Hrle.out])
 have hRI : (Rs.length : Int) ≤ 3 := by omega
 have hbw : Below w.heap.size w w2 := Hb1.out.trans (hb2.mono Hb1.out.size)
 have hqw : w2.heap[w.heap.size + 1]? = some (.cells #[.slice fa fresh.length fc] 27 (0, 0)) := (hb2.block _ (by simp)).trans Hq.out
 have Hb2 := hQ hbw
 have HIn := hQ (hin.base (show w.heap.size + 2 ≤ _ by simp))
 have HMap := hQ hmap
 have HRf := hQ hRf
 have Hqw := hQ hqw
 have HN2 := hQ (HN.out.below (hb2.mono (Nat.le_trans HB.out Hb1.out.size)))
 have hsz2 : ∀ g, (∃ r ∈ Rs, r.val.ownBlock = some g) → w.heap.size + 2 ≤ g := fun g ⟨r, hr, e⟩ => by have := ((hin.each r hr).2 g e).1; simpa using this
 have Hsz2 := hQ hsz2
 clear hb2 hin hmap H hRf hqw hbw hsz2
 go_wp2_with fail
 go_loopw [10, 21] (fun v i wr => TgRel (w.heap.size + 2) Rs fresh w2 v i wr) (fun _ i _ => Rs.length - (intOf i).toNat)
 case atStart => exact ⟨0, [], Nat.zero_le _, rfl, TgAt.start _ _ _ _⟩
 case round =>
  obtain ⟨k, Ts, hk, rfl, hin⟩ := hrel
  have hTl : Ts.length = k := by
   have e := congrArg List.length hin.map
   rw [List.length_map, List.length_map, List.length_take] at e
   omega
  obtain ⟨oa, oc, rfl⟩ := hin.len
  have Hin := hQ hin
  have HTl := hQ hTl
  clear hTl
  by_cases hkl : k < Rs.length
  · obtain ⟨g, rfl, hg1, hg2, c0, c1⟩ := HIn.out.at hkl
    have hgF : ¬ ∃ r ∈ Rs.take k, r.val.ownBlock = some g := fun ⟨r, hr, e⟩ => ((HIn.out.each r (List.mem_of_mem_take hr)).2 g e).2 rfl
    have d0 := (hin.tur.cell (p := ⟨g, k * 2, none⟩) hg1 hgF).trans c0
    have d1 := (hin.tur.cell (p := ⟨g, k * 2 + 1, none⟩) hg1 hgF).trans c1
    have hmem : Rs[k] ∈ Rs := List.getElem_mem hkl
    obtain ⟨f1, f2, f3, f4⟩ := HRf.out _ hmem
    have hov := (HIn.out.each _ hmem).1
    have hov2 : OwnI (Rs[k]).val (natI (Rs[k]).other) wr := oIk hov hin.tur (fun b hb ⟨r, hr, e⟩ => by
     obtain ⟨i, hi, rfl⟩ := List.mem_iff_getElem.1 hr
     rw [List.length_take] at hi
     have e2 : (Rs.take k)[i] = Rs[i]'(by omega) := by simp
     rw [e2] at e
     exact List.pairwise_iff_getElem.1 HIn.out.dis i k (by omega) hkl (by omega) b e hb)
    obtain ⟨la, lc, hvl, _⟩ := ownI_len hov2
    rw [nIl] at hvl
    have hstep := fun (w3 w5 : World) (n c g2 c2 gb : Nat) (o o2 : Obj) => TgAt.step (w3 := w3) (w5 := w5) (n := n) (c := c) (g2 := g2) (c2 := c2) (gb := gb) (o := o) (o2 := o2) HIn.out hin hkl
    rw [hvl] at hov2 d1 hstep
    obtain ⟨gb, cs, rfl, hrow, _⟩ := cells_of_own hov2 f1
    have hgbW : gb < w2.heap.size := ownI_lt hov (by rw [hvl]; rfl)
    have hgb2 : w.heap.size + 2 ≤ gb := Hsz2.out gb ⟨_, hmem, by rw [hvl]; rfl⟩
    have hqr : wr.heap[w.heap.size + 1]? = some (.cells #[.slice fa fresh.length fc] 27 (0, 0)) := (hin.tur.block _ (by omega) (fun ⟨r, hr, e⟩ => by have := Hsz2.out _ ⟨r, List.mem_of_mem_take hr, e⟩; omega)).trans Hqw.out
    have hNr : NumsAt B wr fa fresh := HN2.out.below (hin.tur.below (Nat.le_trans HB.out Hb2.out.size) (fun b ⟨r, hr, e⟩ => by have := Hsz2.out b ⟨r, List.mem_of_mem_take hr, e⟩; have := HB.out; omega))
    have hgbr : gb < wr.heap.size := Nat.lt_of_lt_of_le hgbW hin.tur.size
    have hqlt : w.heap.size + 1 < wr.heap.size := by omega
    have hBr : B ≤ wr.heap.size := by have := HB.out; omega
    have hvgb : ∀ b, (Value.slice oa Ts.length oc).ownBlock = some b → ¬ b = gb := fun b hb e => by have := hin.far b hb; omega
    have hgbB : B ≤ gb := by have := HB.out; omega
    have hdel := fun (o : Obj) => mdeletef_any B fresh hfl fa fc (w.heap.size + 1) (Rs[k]).other (by omega) f1 (fun y hy => by have := f3 y hy; omega) gb lc (wr.alloc o) (ownI_below hov2 ((Below.refl _ _).alloc (Nat.le_refl _) o)) hgbB (by simp; omega) (by omega) (by simp; omega) ((Below.cell ((Below.refl wr.heap.size wr).alloc (Nat.le_refl _) o) (p := ⟨w.heap.size + 1, 0, none⟩) hqlt).trans ((cRw hqr 0).trans rfl)) (hNr.below ((Below.refl B wr).alloc hBr o))
    have hkI : (k : Int) < Rs.length := by omega
    have hlI : ((Rs[k]).other.length : Int) ≤ 144 := by omega
    have hol := hin.own
    generalize Rs[k] = rr at d0 d1 hdel hlI hstep
    obtain ⟨y, l, vv⟩ := rr
    simp only at d0 d1 hdel hlI hstep
    have Hdel := hQ hdel
    have Hstep := hQ hstep
    have Hvgb := hQ hvgb
    have Hol := hQ hol
    clear c0 c1 hin hgF hmem f1 f2 f3 f4 hov hov2 hvl hrow hgbW hgb2 hqr hNr hBr hvgb hgbB hdel hstep hol hg1 hg2
    go_wp2_with fail
    refine (Hdel.out _).mono ?_
    rintro r w3 ⟨rfl, hov3, hT3⟩
    have Hov3 := hQ hov3
    have HT3 := hQ hT3
    have hol3 : w3.ownsRow 0 27 1 (.slice oa Ts.length oc) Ts.length (Ts.map (·.val)) := ownsRow_kept (ownsRow_below Hol.out ((Below.refl _ _).alloc (Nat.le_refl _) _)) hT3 (fun b hb e => Hvgb.out b hb e)
    have Hol3 := hQ hol3
    generalize (keepL fresh l).length = n at Hov3 ⊢
    clear hov3 hT3 hol3 d0 d1
    go_wp2_with (at_builtin; refine wpList_append_lies _ rfl (.tmp 25) (.tmp 30) 139 rfl 0 27 i0 (.slice none 0 0) 1 24 Tryz.underlying139 hi0 hz0 hz1 hz2 rfl (by decide) (.slice oa Ts.length oc) Ts.length (Ts.map (·.val)) rfl (World.ownsRow.alloc Hol3.out _) ⟨w3.heap.size, 0, none⟩ 1 1 [.slice (some ⟨gb, 0, none⟩) n lc] rfl rfl (cell_one_new _ _ _) (by intro u hu; simp at hu; rw [hu]; rfl) (by omega) (by have := HTl.out; unfold maxLen; omega) (by have := HTl.out; omega) (Nat.zero_le _) (w3.heap.size + 1) (by simp) ?_; intro g2 c2 w5 hown2 hgrow2 hat2 hlt2; have HM := hQ (Hstep.out _ _ _ _ _ _ _ _ _ rfl HT3.out Hov3.out hown2 hgrow2 hat2); clear hown2 hgrow2 hat2 hlt2)
    exact ⟨⟨k + 1, _, by omega, by go_num, HM.out⟩, by simp [intOf]; omega⟩
  · obtain rfl : k = Rs.length := by omega
    have hkI : ¬ (Rs.length : Int) < Rs.length := by omega
    have hfin : TgIn w.heap.size wr (.slice oa Ts.length oc) Ts := ⟨hin.own, fun g hg => Nat.le_trans Hb2.out.size (hin.far g hg), fun t ht => ⟨(hin.each t ht).1, fun g hg => by
     obtain ⟨h1, r, hr, e⟩ := (hin.each t ht).2 g hg
     refine ⟨by have := Hsz2.out g ⟨r, List.mem_of_mem_take hr, e⟩; omega, fun e2 => by have := hin.far g e2; omega⟩⟩⟩
    have hmp : Ts.map (·.other) = (if askD T leaf = 0 then tgtD T leaf.toNat fresh else []) := by
     rw [hin.map, List.take_length, Hpd.out, ← Hrle.out, ← HMap.out, List.map_map]
     rfl
    have hbl : Below w.heap.size w wr := Hb2.out.trans (hin.tur.below Hb2.out.size (fun b ⟨r, hr, e⟩ => by have := Hsz2.out b ⟨r, List.mem_of_mem_take hr, e⟩; omega))
    have HFin := hQ (And.intro hfin (And.intro hmp hbl))
    clear hin hfin hmp hbl
    go_wp2
    rw [HP.out]
    exact ⟨_, Ts, by rw [← Hake.out], HFin.out.1, HFin.out.2.1, HFin.out.2.2⟩
end
section
open Go Go.RowKit
def zeroF (nd : Nat → NodeD) (l : List Nat) : Nat → NodeD := l.foldl (fun f p => updF f p ⟨0, 0, 0, []⟩) nd
def pubF (nd : Nat → NodeD) (l : List (Nat × Int)) : Nat → NodeD := l.foldl (fun f p => updF f p.1 ⟨p.2, 0, 0, []⟩) nd
def leafF (T : List NodeD) (x : Nat) (ep pub : Int) : Nat → NodeD := updF (updF (nodeD T) x { nodeD T x with ep := ep }) x { nodeD T x with ep := ep, pub := pub }
def setF (T : List NodeD) (leaf : Nat) (ep pub : Int) (pubs : List Int) : Nat → NodeD :=
 pubF (zeroF (leafF T (2 * leaf) ep pub) (drD (2 * leaf) (lvD T.length))) ((pthD T leaf).zip pubs)
theorem zeroF_snoc (nd : Nat → NodeD) (l : List Nat) (y : Nat) : zeroF nd (l ++ [y]) = updF (zeroF nd l) y ⟨0, 0, 0, []⟩ := by unfold zeroF; rw [List.foldl_append]; rfl
theorem pubF_snoc (nd : Nat → NodeD) (l : List (Nat × Int)) (y : Nat × Int) : pubF nd (l ++ [y]) = updF (pubF nd l) y.1 ⟨y.2, 0, 0, []⟩ := by unfold pubF; rw [List.foldl_append]; rfl
theorem zeroF_at {x : Nat} : ∀ (l : List Nat) (nd : Nat → NodeD), (nd x = ⟨0, 0, 0, []⟩ ∨ x ∈ l) → zeroF nd l x = ⟨0, 0, 0, []⟩
 | [], nd, h => h.elim id (fun h => by cases h)
 | y :: l, nd, h => by
  show zeroF (updF nd y ⟨0, 0, 0, []⟩) l x = _
  refine zeroF_at l _ ?_
  by_cases e : x = y
  · subst e; exact .inl (uSm _ _ _)
  · rcases h with h | h
    · exact .inl (by rw [uOt e]; exact h)
    · exact .inr ((List.mem_cons.1 h).resolve_left e)
theorem zeroF_mem {nd : Nat → NodeD} {x : Nat} {l : List Nat} (h : x ∈ l) : zeroF nd l x = ⟨0, 0, 0, []⟩ := zeroF_at l nd (.inr h)
theorem pubF_other {x : Nat} : ∀ {l : List (Nat × Int)} {nd : Nat → NodeD}, (∀ p ∈ l, p.1 ≠ x) → pubF nd l x = nd x
 | [], nd, _ => rfl
 | y :: l, nd, h => by
  show pubF (updF nd y.1 ⟨y.2, 0, 0, []⟩) l x = _
  rw [pubF_other (fun p hp => h p (List.mem_cons_of_mem _ hp)), uOt (fun e => h y (List.mem_cons_self ..) e.symm)]
theorem pth_filter (T : List NodeD) (leaf : Nat) : pthD T leaf = (drD (2 * leaf) (lvD T.length)).filter fun x => decide (resD T 4 (oth leaf x) ≠ []) := by
 unfold pthD rowsD rowsOf
 rw [List.filter_map, List.map_map]
 simp [Function.comp_def]
theorem direct_nodup_all : ∀ n ∈ [1, 2, 4, 8], ∀ l ∈ List.range n, (drD (2 * l) n).Nodup ∧ (2 * l) ∉ drD (2 * l) n := by decide
theorem direct_nodup {n l : Nat} (hn : isN n) (hl : l < n) : (drD (2 * l) n).Nodup ∧ (2 * l) ∉ drD (2 * l) n :=
 direct_nodup_all n (by rcases hn with rfl | rfl | rfl | rfl <;> decide) l (List.mem_range.2 hl)
structure PthOk (T : List NodeD) (leaf : Nat) : Prop where
 nodup : (pthD T leaf).Nodup
 sub : ∀ x ∈ pthD T leaf, x ∈ drD (2 * leaf) (lvD T.length)
 dlt : ∀ x ∈ drD (2 * leaf) (lvD T.length), x < T.length
 len : (drD (2 * leaf) (lvD T.length)).length ≤ 3
 plen : (pthD T leaf).length ≤ 3
theorem pth_ok {T : List NodeD} {leaf : Int} (ha : askD T leaf = 0) : PthOk T leaf.toNat := by
 obtain ⟨hok, h0, hlt, hn, hT, _⟩ := ask_zero ha
 have hof := oth_facts hn hlt
 have hnd := direct_nodup hn hlt
 have e := pth_filter T leaf.toNat
 refine ⟨by rw [e]; exact hnd.1.filter _, fun x hx => ?_, fun x hx => by have := hof.2.2 x hx; omega, hof.2.1, ?_⟩
 · rw [e] at hx
   exact (List.mem_filter.1 hx).1
 · rw [e]
   exact Nat.le_trans (List.length_filter_le _ _) hof.2.1
theorem zip_take {α β : Type} {l : List α} {r : List β} (h : r.length = l.length) {k : Nat} (hk : k < l.length) : (l.take (k + 1)).zip (r.take (k + 1)) = (l.take k).zip (r.take k) ++ [(l[k], r[k]'(by omega))] := by
 rw [List.take_add_one, List.take_add_one, List.getElem?_eq_getElem hk, List.getElem?_eq_getElem (by omega)]
 rw [List.zip_append (by rw [List.length_take, List.length_take]; omega)]
 rfl
theorem pub_alone {T : List NodeD} {leaf : Nat} (h : PthOk T leaf) {nd : Nat → NodeD} {pubs : List Int} (hl : pubs.length = (pthD T leaf).length) {k : Nat} (hk : k < (pthD T leaf).length) (x : Int) :
    updF (pubF (zeroF nd (drD (2 * leaf) (lvD T.length))) (((pthD T leaf).take k).zip (pubs.take k))) ((pthD T leaf)[k]) { pubF (zeroF nd (drD (2 * leaf) (lvD T.length))) (((pthD T leaf).take k).zip (pubs.take k)) ((pthD T leaf)[k]) with pub := x } =
     updF (pubF (zeroF nd (drD (2 * leaf) (lvD T.length))) (((pthD T leaf).take k).zip (pubs.take k))) ((pthD T leaf)[k]) ⟨x, 0, 0, []⟩ := by
 have e : pubF (zeroF nd (drD (2 * leaf) (lvD T.length))) (((pthD T leaf).take k).zip (pubs.take k)) ((pthD T leaf)[k]) = ⟨0, 0, 0, []⟩ := by
  rw [pubF_other, zeroF_mem (h.sub _ (List.getElem_mem hk))]
  intro p hp e
  have hp1 := (List.of_mem_zip hp).1
  rw [e] at hp1
  obtain ⟨i, hi, e2⟩ := List.mem_iff_getElem.1 hp1
  rw [List.length_take] at hi
  rw [List.getElem_take] at e2
  exact List.pairwise_iff_getElem.1 h.nodup i k (by omega) hk (by omega) e2
 rw [e]
end
end Go.Proofs.YtedpljclnpiggaaGreatDoor
