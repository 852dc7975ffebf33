/- Rows above a leaf, as data, and where they lie. -/
import Derived.Test.YtedpljclnpiggaaGreatDoorV14
import Derived.Deep.Upon
import Derived.Deep.AppendLies
import Derived.Test.YtedpljclnpiggaaGreatDoorV15
set_option linter.unusedVariables false
set_option linter.unusedSimpArgs false
set_option maxRecDepth 100000
set_option maxHeartbeats 12800000
namespace Go.Proofs.YtedpljclnpiggaaGreatDoor
section
open Go Go.RowKit
theorem ownI_below {v : Value} {l : List Int} {w w' : World} (h : OwnI v l w) (hb : Below w.heap.size w w') : OwnI v l w' := oIk h (Turned.new (fun _ => False) hb) (fun _ _ h => h)
theorem run_append_ints {w : World} {va vb : Value} {la lb : List Int} (ha : OwnI va la w) (hb : OwnI vb lb w) (hl : la.length + lb.length ≤ 100000) :
    ∃ v' w', (Builtin.append_ #[27, 27] 27 #[va, vb]).run Tryz.prog w = .ok v' w' ∧ OwnI v' (la ++ lb) w' ∧ w.grownBy w' va.ownBlock ∧ (v'.ownBlock = va.ownBlock ∨ v'.ownBlock = some w.heap.size) := by
 obtain ⟨i0, hi0, hz0, hz1, hz2⟩ := info_parts infoI
 obtain ⟨aa, ac, rfl, hac⟩ := ownI_len ha
 rcases hb.2 with ⟨rfl, h0⟩ | ⟨g, cap, cur, rfl, hB, hg, h3, h4, h5, h6⟩
 · have e := run_append_nothing (P := Tryz.prog) w 27 27 27 3 i0 Tryz.underlying27 hi0 aa la.length ac hac (.slice none 0 0) (Src.ofNil w Tryz.underlying27 0)
   refine ⟨_, _, e, ?_, World.grownBy.refl _ _, .inl rfl⟩
   obtain rfl : lb = [] := List.length_eq_zero_iff.1 h0
   rw [List.append_nil]
   exact ha
 · by_cases hm : lb = []
   · subst hm
     have e := run_append_nothing (P := Tryz.prog) w 27 27 27 3 i0 Tryz.underlying27 hi0 aa la.length ac hac (.slice (some ⟨g, 0, none⟩) 0 cap) (Src.ofSlice w Tryz.underlying27 ⟨g, 0, none⟩ 0 cap [] (by simp) (fun j u h => by simp at h) (fun u h => by simp at h))
     refine ⟨_, _, e, ?_, World.grownBy.refl _ _, .inl rfl⟩
     rw [List.append_nil]
     exact ha
   · have hm' : 0 < lb.length := List.length_pos_iff.2 hm
     have hcell : ∀ j u, (lb.map intV)[j]? = some u → w.cell? ((⟨g, 0, none⟩ : Addr).add j) = some u := fun j u hu => by
      have hj : j < lb.length := by
       have := (List.getElem?_eq_some_iff.1 hu).1
       simpa using this
      obtain ⟨b, o, e1, e2⟩ := ownI_at hb j hj
      obtain ⟨rfl, rfl⟩ : g = b ∧ 0 = o := by simpa using e1
      have hadd : (⟨g, 0, none⟩ : Addr).add j = ⟨g, 0 + j, none⟩ := by unfold Addr.add; split <;> simp_all
      rw [hadd, e2]
      rw [List.getElem?_map, List.getElem?_eq_getElem hj] at hu
      simp only [Option.map_some, Option.some.injEq] at hu
      rw [← hu, List.getD_eq_getElem?_getD, List.getElem?_eq_getElem hj]
      rfl
     obtain ⟨g', c', w', e, hown, hgrow, hat, _⟩ := run_append_lies (P := Tryz.prog) w 27 27 0 3 i0 (.int .i64 0) 1 8 Tryz.underlying27 hi0 hz0 hz1 hz2 rfl (by decide) (.slice aa la.length ac) la.length (la.map intV) ha ⟨g, 0, none⟩ lb.length cap (lb.map intV) (by simp) hcell (fun u hu => by obtain ⟨x, _, rfl⟩ := List.mem_map.1 hu; rfl) hm' (by unfold maxLen; omega) (by omega) (Nat.zero_le _) _ rfl
     refine ⟨_, _, e, ?_, hgrow, ?_⟩
     · unfold OwnI
       rw [List.length_append, List.map_append]
       exact hown
     · rcases hat with h | h
       · exact .inl h.symm
       · exact .inr (by rw [h]; rfl)
theorem step_append_ints {w : World} {ops : Array Oper} {o : Oper} {a : Act} {K : Act → World → Prop} {Q : Exit → Act → World → Prop} {E : Prop} (hgd : o.guard = none) (s x : Operand)
    (ho : o.op = .call { callee := .builtin .append, args := #[s, x], argTypes := #[27, 27] }) (hty : o.type = 27)
    {va vb : Value} {la lb : List Int} (ha : OwnI va la w) (hb : OwnI vb lb w) (hs : a.eval s = va) (hx : a.eval x = vb) (hl : la.length + lb.length ≤ 100000)
    (h : ∀ v' w', OwnI v' (la ++ lb) w' → w.grownBy w' va.ownBlock → (v'.ownBlock = va.ownBlock ∨ v'.ownBlock = some w.heap.size) → K (a.put o.dst v') w') :
    if Region.wanted o (yielded ops a.tmps) = true then Oper.wp Tryz.prog o a w K Q else E := by
 have hw : Region.wanted o (yielded ops a.tmps) = true := by simp [Region.wanted, hgd]
 rw [if_pos hw]
 obtain ⟨v', w', hr, h2, h3, h4⟩ := run_append_ints ha hb hl
 unfold Oper.wp execOp
 simp only [ho, hty, resolve, invoke, builtin, Sem.run_bind, Sem.run_pure, Result.andThen_ok, List.map_toArray, List.map_cons, List.map_nil, hs, hx, hr]
 exact h v' w' h2 h3 h4
end
section
open Go Go.RowKit
theorem add_plain' (b o j : Nat) : (⟨b, o, none⟩ : Addr).add j = ⟨b, o + j, none⟩ := by unfold Addr.add; split <;> simp_all
theorem run_append_nums {B : Nat} {w : World} {va : Value} {sa : Option Addr} {sc : Nat} {la lb : List Int} (ha : OwnI va la w) (hb : NumsAt B w sa lb) (hl : la.length + lb.length ≤ 100000) :
    ∃ v' w', (Builtin.append_ #[27, 27] 27 #[va, .slice sa lb.length sc]).run Tryz.prog w = .ok v' w' ∧ OwnI v' (la ++ lb) w' ∧ w.grownBy w' va.ownBlock ∧ (v'.ownBlock = va.ownBlock ∨ v'.ownBlock = some w.heap.size) := by
 obtain ⟨i0, hi0, hz0, hz1, hz2⟩ := info_parts infoI
 obtain ⟨aa, ac, rfl, hac⟩ := ownI_len ha
 by_cases hm : lb = []
 · subst hm
   have hsrc : Src Tryz.prog i0.size 27 (.slice sa 0 sc) 0 [] w := by
    cases sa with
    | none => exact Src.ofNil w Tryz.underlying27 sc
    | some ad => exact Src.ofSlice w Tryz.underlying27 ad 0 sc [] (by simp) (fun j u h => by simp at h) (fun u h => by simp at h)
   have e := run_append_nothing (P := Tryz.prog) w 27 27 27 3 i0 Tryz.underlying27 hi0 aa la.length ac hac (.slice sa 0 sc) hsrc
   refine ⟨_, _, e, ?_, World.grownBy.refl _ _, .inl rfl⟩
   rw [List.append_nil]
   exact ha
 · have hm' : 0 < lb.length := List.length_pos_iff.2 hm
   obtain ⟨b, o, rfl, _, _⟩ := hb 0 hm'
   have hcell : ∀ j u, (lb.map intV)[j]? = some u → w.cell? ((⟨b, o, none⟩ : Addr).add j) = some u := fun j u hu => by
    have hj : j < lb.length := by
     have := (List.getElem?_eq_some_iff.1 hu).1
     simpa using this
    obtain ⟨b', o', e1, _, e2⟩ := hb j hj
    obtain ⟨rfl, rfl⟩ : b = b' ∧ o = o' := by simpa using e1
    rw [add_plain', e2]
    rw [List.getElem?_map, List.getElem?_eq_getElem hj] at hu
    simp only [Option.map_some, Option.some.injEq] at hu
    rw [← hu, List.getD_eq_getElem?_getD, List.getElem?_eq_getElem hj]
    rfl
   obtain ⟨g', c', w', e, hown, hgrow, hat, _⟩ := run_append_lies (P := Tryz.prog) w 27 27 0 3 i0 (.int .i64 0) 1 8 Tryz.underlying27 hi0 hz0 hz1 hz2 rfl (by decide) (.slice aa la.length ac) la.length (la.map intV) ha ⟨b, o, none⟩ lb.length sc (lb.map intV) (by simp) hcell (fun u hu => by obtain ⟨x, _, rfl⟩ := List.mem_map.1 hu; rfl) hm' (by unfold maxLen; omega) (by omega) (Nat.zero_le _) _ rfl
   refine ⟨_, _, e, ?_, hgrow, ?_⟩
   · unfold OwnI
     rw [List.length_append, List.map_append]
     exact hown
   · rcases hat with h | h
     · exact .inl h.symm
     · exact .inr (by rw [h]; rfl)
theorem wpList_append_nums {B : Nat} {w : World} {ops : Array Oper} {rest : List Oper} {o : Oper} {a : Act} {Q : Exit → Act → World → Prop} (hgd : o.guard = none) (s x : Operand)
    (ho : o.op = .call { callee := .builtin .append, args := #[s, x], argTypes := #[27, 27] }) (hty : o.type = 27)
    {va : Value} {sa : Option Addr} {sc : Nat} {la lb : List Int} (ha : OwnI va la w) (hb : NumsAt B w sa lb) (hs : a.eval s = va) (hx : a.eval x = .slice sa lb.length sc) (hl : la.length + lb.length ≤ 100000)
    (h : ∀ v' w', OwnI v' (la ++ lb) w' → w.grownBy w' va.ownBlock → (v'.ownBlock = va.ownBlock ∨ v'.ownBlock = some w.heap.size) → wpList Tryz.prog ops Q rest (a.put o.dst v') w') :
    wpList Tryz.prog ops Q (o :: rest) a w := by
 refine wpList_plain hgd fun _ hK => ?_
 obtain ⟨v', w', hr, h2, h3, h4⟩ := run_append_nums (sc := sc) ha hb hl
 unfold Oper.wp execOp
 simp only [ho, hty, resolve, invoke, builtin, Sem.run_bind, Sem.run_pure, Result.andThen_ok, List.map_toArray, List.map_cons, List.map_nil, hs, hx, hr]
 exact hK _ _ (h v' w' h2 h3 h4)
theorem ownI_zero (w : World) : OwnI (.slice (some ⟨w.heap.size, 0, none⟩) 0 0) [] (w.alloc (.cells #[] 3)) :=
 ⟨rfl, .inr ⟨w.heap.size, 0, #[], rfl, Nat.zero_le _, rAl _ _ _, Nat.le_refl _, by unfold maxLen; omega, rfl, rfl⟩⟩
def NewV (l : List Int) (w : World) (e : Ending) (w' : World) : Prop :=
 ∃ a c, e = .returned (.slice a l.length c) ∧ OwnI (.slice a l.length c) l w' ∧ (∀ g, (Value.slice a l.length c).ownBlock = some g → w.heap.size ≤ g) ∧ Below w.heap.size w w'
theorem meql_nil (c : Nat) (W : World) : (binOp .eql 27 (.slice none 0 c) (.slice none 0 0)).run Tryz.prog W = .ok (.bool true) W := by kernel_rfl
theorem meql_some (x : Addr) (n c : Nat) (W : World) : (binOp .eql 27 (.slice (some x) n c) (.slice none 0 0)).run Tryz.prog W = .ok (.bool false) W := by kernel_rfl
theorem mclone_any (B : Nat) (l : List Int) (hl : l.length ≤ 100000) (a : Option Addr) (c : Nat) (w : World) (hB : B ≤ w.heap.size) (hN : NumsAt B w a l) :
    Calls Tryz.prog 297 #[.slice a l.length c] w (NewV l w) := by
 cases a with
 | none =>
  have h0 : l = [] := by
   apply Classical.byContradiction
   intro h
   obtain ⟨b, o, e, _⟩ := hN 0 (List.length_pos_iff.2 h)
   cases e
  subst h0
  have q := meql_nil c w
  go_enter Tryz.func297, Tryz.ntmps297
  go_wp2
  go_ret
  exact ⟨none, 0, rfl, ownI_nil w, fun g hg => by simp [Value.ownBlock] at hg, Below.refl _ _⟩
 | some x =>
  have q := meql_some x l.length c w
  have HN := hQ (hN.below ((Below.refl B w).alloc hB (.cells #[] 3)))
  clear hN
  go_enter Tryz.func297, Tryz.ntmps297
  go_wp2_with (at_builtin; refine wpList_append_nums rfl (.tmp 5) (.tmp 6) rfl rfl (ownI_zero w) HN.out rfl rfl (by simpa using hl) ?_; intro v' w' hown hgrow hat; have HF := hQ (And.intro hown (And.intro hgrow hat)); clear hown hgrow hat)
  obtain ⟨hown, hgrow, hat⟩ := HF.out
  rw [List.nil_append] at hown
  obtain ⟨la, lc, rfl, _⟩ := ownI_len hown
  have hge : ∀ g, (Value.slice la l.length lc).ownBlock = some g → w.heap.size ≤ g := fun g hg => by
   rcases hat with e | e
   · rw [e] at hg
     have : w.heap.size = g := by simpa [Value.ownBlock] using hg
     omega
   · rw [e] at hg
     have : (w.alloc (.cells #[] 3)).heap.size = g := by simpa using hg
     simp at this
     omega
  have hb : Below w.heap.size w w' := (((Turned.refl (fun k => w.heap.size ≤ k) w).alloc _).grown hgrow (fun k hk e => by
   have : w.heap.size = k := by simpa [Value.ownBlock] using e
   omega)).below (Nat.le_refl _) (fun k h => h)
  have HR := hQ (And.intro hown (And.intro hge hb))
  clear hown hge hb hgrow hat HF
  go_wp2
  go_ret
  exact ⟨la, lc, rfl, HR.out.1, HR.out.2.1, HR.out.2.2⟩
end
section
open Go Go.RowKit
def ArrNode (c : Array Value) (i : Nat) (d : NodeD) (u : Value) : Prop :=
 c[i * 4]? = some (.int .i64 d.pub) ∧ c[i * 4 + 1]? = some (.int .i64 d.mem) ∧ c[i * 4 + 2]? = some (.int .i64 d.ep) ∧ c[i * 4 + 3]? = some u
def updF {α : Type} (f : Nat → α) (i : Nat) (x : α) : Nat → α := fun j => if j = i then x else f j
theorem uSm {α : Type} (f : Nat → α) (i : Nat) (x : α) : updF f i x i = x := if_pos rfl
theorem uOt {α : Type} {f : Nat → α} {i j : Nat} {x : α} (h : j ≠ i) : updF f i x j = f j := if_neg h
theorem arr_pub {c : Array Value} {n i : Nat} {nd : Nat → NodeD} {U : Nat → Value} (hc : n * 4 ≤ c.size) (hi : i < n) (h : ∀ j, j < n → ArrNode c j (nd j) (U j)) (x : Int) :
    ∀ j, j < n → ArrNode (c.setIfInBounds (i * 4) (.int .i64 x)) j (updF nd i { nd i with pub := x } j) (U j) := fun j hj => by
 obtain ⟨h0, h1, h2, h3⟩ := h j hj
 by_cases e : j = i
 · subst e
   rw [uSm]
   unfold ArrNode
   simp only [Array.getElem?_setIfInBounds]
   refine ⟨by rw [if_pos trivial, if_pos (by omega)], ?_, ?_, ?_⟩ <;> rw [if_neg (by omega)] <;> assumption
 · rw [uOt e]
   unfold ArrNode
   simp only [Array.getElem?_setIfInBounds]
   refine ⟨?_, ?_, ?_, ?_⟩ <;> rw [if_neg (by omega)] <;> assumption
theorem arr_ep {c : Array Value} {n i : Nat} {nd : Nat → NodeD} {U : Nat → Value} (hc : n * 4 ≤ c.size) (hi : i < n) (h : ∀ j, j < n → ArrNode c j (nd j) (U j)) (x : Int) :
    ∀ j, j < n → ArrNode (c.setIfInBounds (i * 4 + 2) (.int .i64 x)) j (updF nd i { nd i with ep := x } j) (U j) := fun j hj => by
 obtain ⟨h0, h1, h2, h3⟩ := h j hj
 by_cases e : j = i
 · subst e
   rw [uSm]
   unfold ArrNode
   simp only [Array.getElem?_setIfInBounds]
   refine ⟨?_, ?_, by rw [if_pos trivial, if_pos (by omega)], ?_⟩ <;> rw [if_neg (by omega)] <;> assumption
 · rw [uOt e]
   unfold ArrNode
   simp only [Array.getElem?_setIfInBounds]
   refine ⟨?_, ?_, ?_, ?_⟩ <;> rw [if_neg (by omega)] <;> assumption
theorem arr_um {c : Array Value} {n i : Nat} {nd : Nat → NodeD} {U : Nat → Value} (hc : n * 4 ≤ c.size) (hi : i < n) (h : ∀ j, j < n → ArrNode c j (nd j) (U j)) (v : Value) :
    ∀ j, j < n → ArrNode (c.setIfInBounds (i * 4 + 3) v) j (nd j) (updF U i v j) := fun j hj => by
 obtain ⟨h0, h1, h2, h3⟩ := h j hj
 by_cases e : j = i
 · subst e
   rw [uSm]
   unfold ArrNode
   simp only [Array.getElem?_setIfInBounds]
   refine ⟨?_, ?_, ?_, by rw [if_pos trivial, if_pos (by omega)]⟩ <;> rw [if_neg (by omega)] <;> assumption
 · rw [uOt e]
   unfold ArrNode
   simp only [Array.getElem?_setIfInBounds]
   refine ⟨?_, ?_, ?_, ?_⟩ <;> rw [if_neg (by omega)] <;> assumption
def put4 (c : Array Value) (o : Nat) (p m e : Int) (v : Value) : Array Value := (((c.setIfInBounds o (.int .i64 p)).setIfInBounds (o + 1) (.int .i64 m)).setIfInBounds (o + 2) (.int .i64 e)).setIfInBounds (o + 3) v
theorem put4_size (c : Array Value) (o : Nat) (p m e : Int) (v : Value) : (put4 c o p m e v).size = c.size := by simp [put4]
theorem arr_put4 {c : Array Value} {n i : Nat} {nd : Nat → NodeD} {U : Nat → Value} (hc : n * 4 ≤ c.size) (hi : i < n) (h : ∀ j, j < n → ArrNode c j (nd j) (U j)) (p m e : Int) (l : List Int) (v : Value) :
    ∀ j, j < n → ArrNode (put4 c (i * 4) p m e v) j (updF nd i ⟨p, m, e, l⟩ j) (updF U i v j) := fun j hj => by
 obtain ⟨h0, h1, h2, h3⟩ := h j hj
 by_cases ej : j = i
 · subst ej
   rw [uSm, uSm]
   unfold ArrNode put4
   simp only [Array.getElem?_setIfInBounds]
   refine ⟨?_, ?_, ?_, ?_⟩ <;> simp <;> omega
 · rw [uOt ej, uOt ej]
   unfold ArrNode put4
   simp only [Array.getElem?_setIfInBounds]
   refine ⟨?_, ?_, ?_, ?_⟩
   all_goals
    rw [if_neg (by omega), if_neg (by omega), if_neg (by omega), if_neg (by omega)]
    assumption
structure TreeO (N0 : Nat) (w : World) (g n cap : Nat) (nd : Nat → NodeD) (U : Nat → Value) : Prop where
 row : ∃ c, w.heap[g]? = some (.cells c 125 (0, 0)) ∧ c.size = cap * 4 ∧ ∀ i, i < n → ArrNode c i (nd i) (U i)
 nc : n ≤ cap
 cm : cap ≤ maxLen
 far : N0 ≤ g
 um : ∀ i, i < n → OwnI (U i) (nd i).um w ∧ ∀ b, (U i).ownBlock = some b → N0 ≤ b ∧ b ≠ g
 dis : ∀ i j, i < j → j < n → ∀ b, (U i).ownBlock = some b → (U j).ownBlock ≠ some b
theorem TreeO.lt {N0 : Nat} {w : World} {g n cap : Nat} {nd : Nat → NodeD} {U : Nat → Value} (h : TreeO N0 w g n cap nd U) : g < w.heap.size := by
 obtain ⟨c, hr, _⟩ := h.row
 exact (Array.getElem?_eq_some_iff.1 hr).1
theorem TreeO.kept {N0 : Nat} {w w' : World} {g n cap : Nat} {nd : Nat → NodeD} {U : Nat → Value} {F : Nat → Prop} (h : TreeO N0 w g n cap nd U) (hT : Turned F w w') (hg : ¬ F g) (hu : ∀ i, i < n → ∀ b, (U i).ownBlock = some b → ¬ F b) : TreeO N0 w' g n cap nd U := by
 obtain ⟨c, hr, h1, h2⟩ := h.row
 exact ⟨⟨c, (hT.block g h.lt hg).trans hr, h1, h2⟩, h.nc, h.cm, h.far, fun i hi => ⟨oIk (h.um i hi).1 hT (hu i hi), (h.um i hi).2⟩, h.dis⟩
theorem TreeO.new {N0 : Nat} {w w' : World} {g n cap : Nat} {nd : Nat → NodeD} {U : Nat → Value} (h : TreeO N0 w g n cap nd U) (hb : Below w.heap.size w w') : TreeO N0 w' g n cap nd U :=
 h.kept (Turned.new (fun _ => False) hb) (fun h => h) (fun _ _ _ _ h => h)
theorem TreeO.base {N N' : Nat} {w : World} {g n cap : Nat} {nd : Nat → NodeD} {U : Nat → Value} (h : TreeO N w g n cap nd U) (hN : N' ≤ N) : TreeO N' w g n cap nd U :=
 ⟨h.row, h.nc, h.cm, Nat.le_trans hN h.far, fun i hi => ⟨(h.um i hi).1, fun b hb => ⟨Nat.le_trans hN ((h.um i hi).2 b hb).1, ((h.um i hi).2 b hb).2⟩⟩, h.dis⟩
theorem TreeO.pub {N0 : Nat} {w : World} {g n cap : Nat} {nd : Nat → NodeD} {U : Nat → Value} (h : TreeO N0 w g n cap nd U) {i : Nat} (hi : i < n) (x : Int) : TreeO N0 (w.setCell ⟨g, i * 4, none⟩ (.int .i64 x)) g n cap (updF nd i { nd i with pub := x }) U := by
 obtain ⟨c, hr, h1, h2⟩ := h.row
 have hc : n * 4 ≤ c.size := by have := h.nc; omega
 have hT : Turned (fun k => k = g) w (w.setCell ⟨g, i * 4, none⟩ (.int .i64 x)) := (Turned.refl (fun k => k = g) w).setCell (fun _ => rfl) _
 refine ⟨⟨_, rSc hr _ _, by simp [h1], arr_pub hc hi h2 x⟩, h.nc, h.cm, h.far, fun j hj => ?_, h.dis⟩
 have h3 := h.um j hj
 refine ⟨oIk (by
  by_cases e : j = i
  · subst e; rw [uSm]; exact h3.1
  · rw [uOt e]; exact h3.1) hT (fun b hb e => (h3.2 b hb).2 e), h3.2⟩
theorem TreeO.ep {N0 : Nat} {w : World} {g n cap : Nat} {nd : Nat → NodeD} {U : Nat → Value} (h : TreeO N0 w g n cap nd U) {i : Nat} (hi : i < n) (x : Int) : TreeO N0 (w.setCell ⟨g, i * 4 + 2, none⟩ (.int .i64 x)) g n cap (updF nd i { nd i with ep := x }) U := by
 obtain ⟨c, hr, h1, h2⟩ := h.row
 have hc : n * 4 ≤ c.size := by have := h.nc; omega
 have hT : Turned (fun k => k = g) w (w.setCell ⟨g, i * 4 + 2, none⟩ (.int .i64 x)) := (Turned.refl (fun k => k = g) w).setCell (fun _ => rfl) _
 refine ⟨⟨_, rSc hr _ _, by simp [h1], arr_ep hc hi h2 x⟩, h.nc, h.cm, h.far, fun j hj => ?_, h.dis⟩
 have h3 := h.um j hj
 refine ⟨oIk (by
  by_cases e : j = i
  · subst e; rw [uSm]; exact h3.1
  · rw [uOt e]; exact h3.1) hT (fun b hb e => (h3.2 b hb).2 e), h3.2⟩
def set4 (w : World) (g o : Nat) (p : Int) : World := (((w.setCell ⟨g, o, none⟩ (.int .i64 p)).setCell ⟨g, o + 1, none⟩ (.int .i64 0)).setCell ⟨g, o + 2, none⟩ (.int .i64 0)).setCell ⟨g, o + 3, none⟩ (.slice none 0 0)
theorem set4_turned (w : World) (g o : Nat) (p : Int) : Turned (fun k => k = g) w (set4 w g o p) :=
 ((((Turned.refl (fun k => k = g) w).setCell (fun _ => rfl) _).setCell (fun _ => rfl) _).setCell (fun _ => rfl) _).setCell (fun _ => rfl) _
theorem TreeO.put {N0 : Nat} {w : World} {g n cap : Nat} {nd : Nat → NodeD} {U : Nat → Value} (h : TreeO N0 w g n cap nd U) {i : Nat} (hi : i < n) (p : Int) : TreeO N0 (set4 w g (i * 4) p) g n cap (updF nd i ⟨p, 0, 0, []⟩) (updF U i (.slice none 0 0)) := by
 obtain ⟨c, hr, h1, h2⟩ := h.row
 have hc : n * 4 ≤ c.size := by have := h.nc; omega
 have hT := set4_turned w g (i * 4) p
 have hnb : ∀ j b, (updF U i (.slice none 0 0) j).ownBlock = some b → j ≠ i ∧ (U j).ownBlock = some b := fun j b hb => by
  by_cases e : j = i
  · subst e; rw [uSm] at hb; simp [Value.ownBlock] at hb
  · rw [uOt e] at hb; exact ⟨e, hb⟩
 refine ⟨⟨put4 c (i * 4) p 0 0 (.slice none 0 0), rSc (rSc (rSc (rSc hr _ _) _ _) _ _) _ _, by rw [put4_size, h1], arr_put4 hc hi h2 p 0 0 [] _⟩, h.nc, h.cm, h.far, fun j hj => ?_, fun j k hjk hk b hb e => h.dis j k hjk hk b (hnb j b hb).2 (hnb k b e).2⟩
 have h3 := h.um j hj
 by_cases e : j = i
 · subst e
   rw [uSm, uSm]
   exact ⟨ownI_nil _, fun b hb => by simp [Value.ownBlock] at hb⟩
 · rw [uOt e, uOt e]
   exact ⟨oIk h3.1 hT (fun b hb e => (h3.2 b hb).2 e), h3.2⟩
theorem ownI_nums {w : World} {a : Option Addr} {n c : Nat} {l : List Int} (h : OwnI (.slice a n c) l w) : n = l.length ∧ NumsAt w.heap.size w a l := by
 obtain ⟨a', c', e, _⟩ := ownI_len h
 obtain ⟨rfl, rfl, rfl⟩ : a = a' ∧ n = l.length ∧ c = c' := by simpa using e
 refine ⟨rfl, fun i hi => ?_⟩
 obtain ⟨b, o, e2, h2⟩ := ownI_at h i hi
 exact ⟨b, o, e2, World.block_lt_of_cell? w _ h2, h2⟩
theorem TreeO.tree {N0 : Nat} {w : World} {g n cap : Nat} {nd : Nat → NodeD} {U : Nat → Value} (h : TreeO N0 w g n cap nd U) : TreeAt w.heap.size w (some ⟨g, 0, none⟩) ((List.range n).map nd) := by
 obtain ⟨c, hr, h1, h2⟩ := h.row
 intro i hi
 have hi' : i < n := by simpa using hi
 have e : nodeD ((List.range n).map nd) i = nd i := by simp [nodeD, hi']
 refine ⟨g, 0, rfl, ?_⟩
 rw [e, Nat.zero_add]
 obtain ⟨k0, k1, k2, k3⟩ := h2 i hi'
 have h3 := (h.um i hi').1
 obtain ⟨a, cc, e2, _⟩ := ownI_len h3
 rw [e2] at h3 k3
 exact ⟨h.lt, by rw [cRw hr, k0], by rw [cRw hr, k1], by rw [cRw hr, k2], ⟨a, cc, by rw [cRw hr, k3], (ownI_nums h3).2⟩⟩
end
section
open Go Go.RowKit
theorem mInfoNode : (Tryz.prog.info? 125).map (fun i => (i.zero, i.size, i.bytes)) = some (some (.agg #[.int .i64 0, .int .i64 0, .int .i64 0, .slice none 0 0]), 4, 48) := by kernel_rfl
def zeroN4 (m : Nat) : Array Value := madeCells #[.int .i64 0, .int .i64 0, .int .i64 0, .slice none 0 0] m
theorem run_make_nodes (n : Nat) (m : Int) (hm : m = n) (hn : n ≤ 262144) (w : World) :
    (Instr.makeSlice 42 (.int .i64 m) (.int .i64 m)).run Tryz.prog w = .ok (.slice (some ⟨w.heap.size, 0, none⟩) n n) (w.alloc (.cells (zeroN4 (n * 4)) 125)) := by
 obtain ⟨i0, hi, hz0, hz1, hz2⟩ := info_parts mInfoNode
 have h := run_make (P := Tryz.prog) w 42 125 i0 _ Tryz.underlying42 hi hz0 .i64 .i64 n n (by omega) (by omega) (by rw [hz2]; omega) (by omega)
 rw [hz1] at h
 subst hm
 exact h
def NodeD.vals (d : NodeD) (u : Value) : List Value := [.int .i64 d.pub, .int .i64 d.mem, .int .i64 d.ep, u]
theorem splice_nodes (c : Array Value) (nd : Nat → NodeD) (U : Nat → Value) (n : Nat) (i : Nat) (hi : i < n) : ArrNode (splice c.toList 0 ((List.range n).flatMap fun i => (nd i).vals (U i))).toArray i (nd i) (U i) := by
 have hl := flat_len (fun i => (nd i).vals (U i)) 4 (fun _ => rfl) n
 have h : ∀ j, j < 4 → (splice c.toList 0 ((List.range n).flatMap fun i => (nd i).vals (U i))).toArray[i * 4 + j]? = ((nd i).vals (U i))[j]? := by
  intro j hj
  have hm : (i + 1) * 4 ≤ n * 4 := Nat.mul_le_mul_right 4 hi
  rw [List.getElem?_toArray]
  unfold splice
  rw [List.take_zero, List.nil_append, List.getElem?_append_left (by rw [hl]; omega)]
  exact flat_get (fun i => (nd i).vals (U i)) 4 (fun _ => rfl) n i j hi hj
 exact ⟨h 0 (by omega), h 1 (by omega), h 2 (by omega), h 3 (by omega)⟩
theorem tree_slices {B : Nat} {w : World} {a : Option Addr} {T : List NodeD} (h : TreeAt B w a T) : ∃ U : Nat → Value, ∀ i, i < T.length → ∃ b o ua uc, a = some ⟨b, o, none⟩ ∧ NodeAt B w b (o + i * 4) (nodeD T i) ∧ U i = .slice ua (nodeD T i).um.length uc ∧ NumsAt B w ua (nodeD T i).um ∧ w.cell? ⟨b, o + i * 4 + 3, none⟩ = some (U i) := by
 refine ⟨fun i => match a with | some ad => (w.cell? ⟨ad.block, ad.off + i * 4 + 3, none⟩).getD undef | none => undef, fun i hi => ?_⟩
 obtain ⟨b, o, rfl, hn⟩ := h i hi
 obtain ⟨ua, uc, k3, hN⟩ := hn.c3
 exact ⟨b, o, ua, uc, rfl, hn, by simp [k3], hN, by simp [k3]⟩
structure TwK (N0 : Nat) (w : World) (g q n : Nat) (nd : Nat → NodeD) (U0 U : Nat → Value) (k : Nat) (wr : World) : Prop where
 row : ∃ c, wr.heap[g]? = some (.cells c 125 (0, 0)) ∧ c.size = n * 4 ∧ ∀ i, i < n → ArrNode c i (nd i) (if i < k then U i else U0 i)
 um : ∀ i, i < k → OwnI (U i) (nd i).um wr ∧ ∀ b, (U i).ownBlock = some b → (N0 ≤ b ∧ b ≠ g) ∧ b ≠ q
 dis : ∀ i j, i < j → j < k → ∀ b, (U i).ownBlock = some b → (U j).ownBlock ≠ some b
 res : wr.heap[q]? = some (.cells #[.slice none 0 0] 44 (0, 0))
 bel : Below N0 w wr
theorem TwK.step {N0 : Nat} {w wr w2 : World} {g q n k : Nat} {nd : Nat → NodeD} {U0 U : Nat → Value} {v : Value} (h : TwK N0 w g q n nd U0 U k wr) (hk : k < n) (hN : N0 ≤ wr.heap.size) (hb : Below wr.heap.size wr w2) (hg : N0 ≤ g) (hqg : q ≠ g)
    (hv : OwnI v (nd k).um w2) (hvb : ∀ b, v.ownBlock = some b → wr.heap.size ≤ b) : TwK N0 w g q n nd U0 (updF U k v) (k + 1) (w2.setCell ⟨g, k * 4 + 3, none⟩ v) := by
 obtain ⟨c, hr, hs, hc⟩ := h.row
 have hgl : g < wr.heap.size := (Array.getElem?_eq_some_iff.1 hr).1
 have hr2 := (hb.block g hgl).trans hr
 have hT2 : Turned (fun k => k = g) w2 (w2.setCell ⟨g, k * 4 + 3, none⟩ v) := (Turned.refl (fun k => k = g) w2).setCell (fun _ => rfl) _
 refine ⟨⟨_, rSc hr2 _ _, by simp [hs], fun i hi => ?_⟩, fun i hi => ?_, fun i j hij hj b h1 h2 => ?_, ?_, ?_⟩
 · have h1 := arr_um (by omega) hk hc v i hi
   have e : updF (fun i => if i < k then U i else U0 i) k v i = if i < k + 1 then updF U k v i else U0 i := by
    by_cases e : i = k
    · subst e; rw [uSm, uSm, if_pos (by omega)]
    · rw [uOt e, uOt e]
      by_cases h : i < k
      · rw [if_pos h, if_pos (by omega)]
      · rw [if_neg h, if_neg (by omega)]
   rw [← e]
   exact h1
 · by_cases e : i = k
   · subst e
     rw [uSm]
     exact ⟨oIk hv hT2 (fun b hb e => by have := hvb b hb; omega), fun b hb => ⟨⟨by have := hvb b hb; omega, by have := hvb b hb; omega⟩, by have := hvb b hb; have := (Array.getElem?_eq_some_iff.1 h.res).1; omega⟩⟩
   · rw [uOt e]
     have h3 := h.um i (by omega)
     exact ⟨oIk (ownI_below h3.1 hb) hT2 (fun b hb e => (h3.2 b hb).1.2 e), h3.2⟩
 · by_cases e : j = k
   · subst e
     rw [uSm] at h2
     rw [uOt (by omega)] at h1
     have := ownI_lt (h.um i hij).1 h1
     have := hvb b h2
     omega
   · rw [uOt e] at h2
     rw [uOt (by omega)] at h1
     exact h.dis i j hij (by omega) b h1 h2
 · rw [Below.heap_setCell _ _ _ _ hqg]
   exact (hb.block q (Array.getElem?_eq_some_iff.1 h.res).1).trans h.res
 · exact (h.bel.trans (hb.mono hN)).setCell (p := ⟨g, k * 4 + 3, none⟩) hg v
def TwRelM (N0 : Nat) (w : World) (g q n : Nat) (nd : Nat → NodeD) (U0 : Nat → Value) (i : Value) (wr : World) : Prop :=
 ∃ (k : Nat) (U : Nat → Value), k ≤ n ∧ i = .int .i64 k ∧ TwK N0 w g q n nd U0 U k wr
def TwAns (T : List NodeD) (w : World) (e : Ending) (w' : World) : Prop :=
 ∃ g cap U, e = .returned (.agg #[.slice (some ⟨g, 0, none⟩) T.length cap]) ∧ TreeO w.heap.size w' g T.length cap (nodeD T) U ∧ Below w.heap.size w w'
theorem amtwin_any (B : Nat) (T : List NodeD) (hul : ∀ x, x < T.length → (nodeD T x).um.length ≤ 8) (n : Nat) (hTn : T.length = 2 * n - 1) (hn : 1 ≤ n) (hn8 : n ≤ 8) (a : Option Addr) (c : Nat) (w : World) (hB : B ≤ w.heap.size) (hT : TreeAt B w a T) :
    Calls Tryz.prog 205 #[.agg #[.slice a T.length c], .int .i64 n] w (TwAns T w) := by
 obtain ⟨i0, hi0, hz0, hz1, hz2⟩ := info_parts mInfoNode
 obtain ⟨U0, hU0⟩ := tree_slices hT
 obtain ⟨W, hW⟩ : ∃ W, W = (w.alloc (.cells #[.slice a T.length c] 44)).alloc (.cells #[.slice none 0 0] 44) := ⟨_, rfl⟩
 have hmk := run_make_nodes T.length (2 * (n : Int) - 1) (by omega) (by omega) W
 have hbW : Below w.heap.size w (W.alloc (.cells (zeroN4 (T.length * 4)) 125)) := by
  rw [hW]
  exact (((Below.refl w.heap.size w).alloc (Nat.le_refl _) _).alloc (by simp) _).alloc (by simp; omega) _
 have hWs : W.heap.size = w.heap.size + 1 + 1 := by rw [hW]; simp
 have hrow : (W.alloc (.cells (zeroN4 (T.length * 4)) 125)).heap[w.heap.size + 1 + 1]? = some (.cells (zeroN4 (T.length * 4)) 125 (0, 0)) := by
  rw [← hWs]
  exact rAl _ _ _
 have hres : (W.alloc (.cells (zeroN4 (T.length * 4)) 125)).heap[w.heap.size + 1]? = some (.cells #[.slice none 0 0] 44 (0, 0)) := by
  rw [heap_alloc_old _ _ (by omega), hW]
  have := rAl (w := w.alloc (.cells #[.slice a T.length c] 44)) #[.slice none 0 0] 44 (0, 0)
  simpa using this
 have hzs : (zeroN4 (T.length * 4)).size = T.length * 4 := by simp [zeroN4, madeCells]
 obtain ⟨cs, hcs⟩ : ∃ cs, cs = (List.range T.length).flatMap fun i => (nodeD T i).vals (U0 i) := ⟨_, rfl⟩
 have hl : cs.length = T.length * 4 := by rw [hcs]; exact flat_len (fun i => (nodeD T i).vals (U0 i)) 4 (fun _ => rfl) T.length
 have Hsrc : Hid (∀ a', a = some a' → ∀ j v, cs[j]? = some v → (W.alloc (.cells (zeroN4 (T.length * 4)) 125)).cell? (a'.add j) = some v) := by
  refine hQ ?_
  intro a' ha j v hj
  have hj5 : j < T.length * 4 := by rw [← hl]; exact (List.getElem?_eq_some_iff.1 hj).1
  have hi5 : j / 4 < T.length := by omega
  obtain ⟨b, o, ua, uc, e, hnd, hu, hN, k3⟩ := hU0 (j / 4) hi5
  obtain rfl : a' = ⟨b, o, none⟩ := Option.some.inj (ha.symm.trans e)
  rw [add_plain']
  have hf := flat_get (fun i => (nodeD T i).vals (U0 i)) 4 (fun _ => rfl) T.length (j / 4) (j % 4) hi5 (by omega)
  rw [show j / 4 * 4 + j % 4 = j by omega, ← hcs, hj] at hf
  rw [hbW.cell (p := ⟨b, o + j, none⟩) (Nat.lt_of_lt_of_le hnd.lt hB), show o + j = o + j / 4 * 4 + j % 4 by omega]
  have h5 : j % 4 < 4 := by omega
  generalize j % 4 = r at hf h5
  match r, h5 with
  | 0, _ => rw [Nat.add_zero, hnd.c0, hf]; rfl
  | 1, _ => rw [hnd.c1, hf]; rfl
  | 2, _ => rw [hnd.c2, hf]; rfl
  | 3, _ => rw [k3, hf]; rfl
 have Hone : Hid (∀ v ∈ cs, v.oneCell' = true) := by
  refine hQ ?_
  intro v hv
  rw [hcs] at hv
  obtain ⟨i, hi, hv⟩ := List.mem_flatMap.1 hv
  obtain ⟨b, o, ua, uc, e, hnd, hu, hN, k3⟩ := hU0 i (List.mem_range.1 hi)
  rw [hu] at hv
  simp only [NodeD.vals, List.mem_cons, List.not_mem_nil, or_false] at hv
  rcases hv with rfl | rfl | rfl | rfl <;> rfl
 have Hlen : Hid (cs.length = Nat.min T.length T.length * 4) := hQ (by rw [hl, show Nat.min T.length T.length = T.length from Nat.min_self _])
 have Hfit : Hid (0 + cs.length ≤ (zeroN4 (T.length * 4)).size) := hQ (by rw [hl, hzs]; omega)
 have hnil : a = none → T.length = 0 := fun h => by
  apply Classical.byContradiction
  intro h2
  obtain ⟨b, o, ua, uc, e, _⟩ := hU0 0 (by omega)
  rw [h] at e
  cases e
 have HU0 := hQ hU0
 have Hul := hQ hul
 have HbW := hQ hbW
 have Hrow := hQ hrow
 have Hres := hQ hres
 have Hzs := hQ hzs
 have Hcs := hQ hcs
 have HB := hQ hB
 have hTI : (T.length : Int) ≤ 15 := by omega
 have hnI : (n : Int) ≤ 8 := by omega
 have HTn := hQ hTn
 rw [hWs] at hmk
 rw [hW] at hmk Hsrc Hrow Hres HbW
 clear hU0 hbW hrow hres hzs hcs hl hT hul hB hTn hW hWs
 go_enter Tryz.func205, Tryz.ntmps205
 go_wp2_with (with_reducible refine wpList_copy_any rfl (.tmp 11) (.tmp 13) 42 42 rfl 125 i0 4 Tryz.underlying42 hi0 hz1 (w.heap.size + 1 + 1) 0 T.length T.length a T.length c rfl rfl (zeroN4 (T.length * 4)) 125 Hrow.out cs Hlen.out Hsrc.out hnil Hfit.out Hone.out ?_)
 have hst : TwK w.heap.size w (w.heap.size + 1 + 1) (w.heap.size + 1) T.length (nodeD T) U0 U0 0 ((((w.alloc (.cells #[.slice a T.length c] 44)).alloc (.cells #[.slice none 0 0] 44)).alloc (.cells (zeroN4 (T.length * 4)) 125)).setRow (w.heap.size + 1 + 1) (splice (zeroN4 (T.length * 4)).toList 0 cs).toArray) := by
  refine ⟨⟨_, row_setRow Hrow.out, ?_, fun i hi => ?_⟩, fun i hi => absurd hi (Nat.not_lt_zero _), fun i j _ hj => absurd hj (Nat.not_lt_zero _), ?_, below_setRow HbW.out (by omega) _⟩
  · have h := length_splice (zeroN4 (T.length * 4)).toList 0 cs (by have := Hfit.out; simpa using this)
    have h2 := Hzs.out
    simpa [h2] using h
  · rw [if_neg (Nat.not_lt_zero _), Hcs.out]
    exact splice_nodes _ (nodeD T) U0 T.length i hi
  · rw [setRow_other _ _ _ _ (by omega)]
    exact Hres.out
 have Hst := hQ hst
 clear hst hmk Hsrc Hone Hlen Hfit Hrow Hres HbW Hcs Hzs hnil
 go_loopw [17] (fun i wr => TwRelM w.heap.size w (w.heap.size + 1 + 1) (w.heap.size + 1) T.length (nodeD T) U0 i wr) (fun i _ => T.length - (intOf i).toNat)
 case atStart => exact ⟨0, U0, Nat.zero_le _, rfl, Hst.out⟩
 case round =>
  obtain ⟨k, U, hk, rfl, hK⟩ := hrel
  have HK := hQ hK
  by_cases hkl : k < T.length
  · obtain ⟨b, o, ua, uc, e, hnd, hu, hN, k3⟩ := HU0.out k hkl
    obtain ⟨cur, r1, r2, r3⟩ := hK.row
    have h3 := (r3 k hkl).2.2.2
    rw [if_neg (Nat.lt_irrefl k), hu] at h3
    have kk := (cRw r1 (k * 4 + 3)).trans h3
    have hsz := hK.bel.size
    have hcl := mclone_any B (nodeD T k).um (by have := Hul.out k hkl; omega) ua uc wr (Nat.le_trans HB.out hsz) (hN.below (hK.bel.mono HB.out))
    have Hcl := hQ hcl
    have hul := Hul.out k hkl
    have hulI : ((nodeD T k).um.length : Int) ≤ 8 := by omega
    have Hgl := hQ (Array.getElem?_eq_some_iff.1 r1).1
    have Hr1 := hQ r1
    have Hszw := hQ hsz
    have hstep := fun (w2 : World) (v : Value) h1 h2 h3 => hK.step (w2 := w2) (v := v) hkl hsz h1 (show w.heap.size ≤ w.heap.size + 1 + 1 by omega) (show w.heap.size + 1 ≠ w.heap.size + 1 + 1 by omega) h2 h3
    generalize hum : (nodeD T k).um = um at kk Hcl hulI hstep
    have Hstep := hQ hstep
    have hkI : (k : Int) < T.length := by omega
    clear hK e hnd hu hN k3 r1 r2 r3 h3 hcl hul hsz hstep hum
    go_wp2_with fail
    refine Hcl.out.mono ?_
    rintro e w2 ⟨va, vc, rfl, hv, hvb, hb2⟩
    have HS := hQ (Hstep.out w2 _ hb2 hv hvb)
    have hr2 := (hb2.block _ Hgl.out).trans Hr1.out
    have kk2 := (hb2.cell (p := ⟨w.heap.size + 1 + 1, k * 4 + 3, none⟩) Hgl.out).trans kk
    have f := fRw hr2 (k * 4 + 3)
    clear hv hvb hb2 hr2 kk
    go_wp2
    exact ⟨⟨k + 1, _, by omega, by go_num, HS.out⟩, by simp [intOf]; omega⟩
  · obtain rfl : k = T.length := by omega
    have hkI : ¬ (T.length : Int) < T.length := by omega
    have kq := (cRw hK.res 0).trans rfl
    have f := fRw hK.res 0
    have Hq := hQ hK.res
    have hfin : TreeO w.heap.size wr (w.heap.size + 1 + 1) T.length T.length (nodeD T) U := by
     obtain ⟨cur, r1, r2, r3⟩ := hK.row
     exact ⟨⟨cur, r1, r2, fun i hi => by have := r3 i hi; rwa [if_pos hi] at this⟩, Nat.le_refl _, by unfold maxLen; omega, by omega, fun i hi => ⟨(hK.um i hi).1, fun b hb => ((hK.um i hi).2 b hb).1⟩, hK.dis⟩
    have hqs := (Array.getElem?_eq_some_iff.1 hK.res).1
    have hT2 : Turned (fun k => k = w.heap.size + 1) wr (wr.setCell ⟨w.heap.size + 1, 0, none⟩ (.slice (some ⟨w.heap.size + 1 + 1, 0, none⟩) T.length T.length)) := (Turned.refl (fun k => k = w.heap.size + 1) wr).setCell (fun _ => rfl) _
    have HF := hQ (And.intro (hfin.kept hT2 (by omega) (fun i hi b hb e => ((hK.um i hi).2 b hb).2 e)) (hT2.below (Nat.le_trans hK.bel.size (Nat.le_refl _)) (fun k e => by omega) : Below w.heap.size wr _))
    have Hbel := hQ hK.bel
    clear hK HK hfin hT2 hqs
    go_wp2
    refine bodyPost_ret_by (results_cell_row rfl _ _ (w.heap.size + 1) _ #[.slice (some ⟨w.heap.size + 1 + 1, 0, none⟩) T.length T.length] (0, 0) _ rfl (by exact rSc Hq.out 0 _) Tryz.underlying44 rfl (by kernel_rfl)) rfl ?_
    exact ⟨_, _, U, rfl, HF.out.1, Hbel.out.trans HF.out.2⟩
end
section
open Go Go.RowKit
def oth (leaf x : Nat) : Nat := if 2 * leaf < x then rigX x else lefX x
def rowsOf (T : List NodeD) (leaf : Nat) (l : List Nat) : List (Nat × List Nat) := (l.map fun x => (x, resD T 4 (oth leaf x))).filter fun r => decide (r.2 ≠ [])
def rowsD (T : List NodeD) (leaf : Nat) : List (Nat × List Nat) := rowsOf T leaf (drD (2 * leaf) (lvD T.length))
noncomputable def askD (T : List NodeD) (leaf : Int) : Int := if errD T = 0 then (if leaf < 0 ∨ (lvD T.length : Int) ≤ leaf ∨ (nodeD T (2 * leaf).toNat).pub = 0 then 7 else 0) else 1
theorem oth_all : ∀ n ∈ [1, 2, 4, 8], ∀ l ∈ List.range n, copathD (2 * l) n = (drD (2 * l) n).map (oth l) ∧ (drD (2 * l) n).length ≤ 3 ∧ ∀ x ∈ drD (2 * l) n, x < 2 * n - 1 ∧ x % 2 = 1 ∧ oth l x < 2 * n - 1 := by decide
theorem oth_facts {n l : Nat} (hn : isN n) (hl : l < n) : copathD (2 * l) n = (drD (2 * l) n).map (oth l) ∧ (drD (2 * l) n).length ≤ 3 ∧ ∀ x ∈ drD (2 * l) n, x < 2 * n - 1 ∧ x % 2 = 1 ∧ oth l x < 2 * n - 1 :=
 oth_all n (by rcases hn with rfl | rfl | rfl | rfl <;> decide) l (List.mem_range.2 hl)
theorem rowsOf_step {T : List NodeD} {leaf k : Nat} {l : List Nat} (hk : k < l.length) :
    rowsOf T leaf (l.take (k + 1)) = rowsOf T leaf (l.take k) ++ (if resD T 4 (oth leaf (l.getD k 0)) = [] then [] else [(l.getD k 0, resD T 4 (oth leaf (l.getD k 0)))]) := by
 have e : l.take (k + 1) = l.take k ++ [l.getD k 0] := by rw [List.take_add_one, List.getD_eq_getElem?_getD, List.getElem?_eq_getElem hk]; rfl
 unfold rowsOf
 generalize l.getD k 0 = y at e ⊢
 rw [e, List.map_append, List.filter_append]
 congr 1
 by_cases h : resD T 4 (oth leaf y) = []
 · rw [if_pos h]
   simp [h]
 · rw [if_neg h]
   simp [h]
structure RowV where
 node : Nat
 other : List Nat
 val : Value
def RowV.cells (r : RowV) : List Value := [.int .i64 r.node, r.val]
def RowV.data (r : RowV) : Nat × List Nat := (r.node, r.other)
structure RowsIn (N0 : Nat) (w : World) (v : Value) (Rs : List RowV) : Prop where
 own : w.ownsRow 0 183 2 v Rs.length (Rs.flatMap RowV.cells)
 far : ∀ g, v.ownBlock = some g → N0 ≤ g
 each : ∀ r ∈ Rs, OwnI r.val (natI r.other) w ∧ ∀ g, r.val.ownBlock = some g → N0 ≤ g ∧ v.ownBlock ≠ some g
 dis : Rs.Pairwise fun r s => ∀ g, r.val.ownBlock = some g → s.val.ownBlock ≠ some g
theorem ownsRow_below {w w' : World} {b : Nat} {t : TypeId} {sz : Nat} {v : Value} {n : Nat} {xs : List Value} (h : w.ownsRow b t sz v n xs) (hb : Below w.heap.size w w') : w'.ownsRow b t sz v n xs := by
 refine ⟨h.1, ?_⟩
 rcases h.2 with h0 | ⟨g, cap, cur, e, hB, hg, rest⟩
 · exact .inl h0
 · exact .inr ⟨g, cap, cur, e, hB, (hb.block g (Array.getElem?_eq_some_iff.1 hg).1).trans hg, rest⟩
theorem RowsIn.nil (N0 : Nat) (w : World) : RowsIn N0 w (.slice none 0 0) [] := ⟨⟨rfl, .inl ⟨rfl, rfl⟩⟩, fun g h => by simp [Value.ownBlock] at h, fun r h => by simp at h, .nil⟩
theorem RowsIn.new {N0 : Nat} {w w' : World} {v : Value} {Rs : List RowV} (h : RowsIn N0 w v Rs) (hb : Below w.heap.size w w') : RowsIn N0 w' v Rs :=
 ⟨ownsRow_below h.own hb, h.far, fun r hr => ⟨ownI_below (h.each r hr).1 hb, (h.each r hr).2⟩, h.dis⟩
theorem RowsIn.len {N0 : Nat} {w : World} {v : Value} {Rs : List RowV} (h : RowsIn N0 w v Rs) : ∃ a c, v = .slice a Rs.length c := by
 rcases h.own.2 with ⟨e, h2⟩ | ⟨g, cap, cur, e, _⟩
 · exact ⟨none, 0, by rw [e, h2]⟩
 · exact ⟨_, _, e⟩
theorem RowsIn.lt {N0 : Nat} {w : World} {v : Value} {Rs : List RowV} (h : RowsIn N0 w v Rs) {k : Nat} (hk : v.ownBlock = some k) : k < w.heap.size := (h.own.lt k hk).2
theorem RowsIn.more {N0 : Nat} {w w3 w5 : World} {v val : Value} {Rs : List RowV} {o : Obj} {g c x : Nat} {l : List Nat} (h : RowsIn N0 w v Rs) (hN : N0 ≤ w.heap.size) (hb3 : Below w.heap.size w w3)
    (hval : OwnI val (natI l) w3) (hvg : ∀ k, val.ownBlock = some k → w.heap.size ≤ k)
    (hown : w5.ownsRow 0 183 2 (.slice (some ⟨g, 0, none⟩) (Rs.length + 1) c) (Rs.length + 1) (Rs.flatMap RowV.cells ++ [.int .i64 x, val]))
    (hgrow : (w3.alloc o).grownBy w5 v.ownBlock) (hat : v.ownBlock = some g ∨ g = w3.heap.size + 1) :
    RowsIn N0 w5 (.slice (some ⟨g, 0, none⟩) (Rs.length + 1) c) (Rs ++ [⟨x, l, val⟩]) ∧ Below N0 w w5 := by
 have hw3 := h.new hb3
 have hT : Turned (fun k => v.ownBlock = some k) w3 w5 := ((Turned.refl (fun k => v.ownBlock = some k) w3).alloc o).grown hgrow (fun k _ e => e)
 have hval5 : OwnI val (natI l) w5 := oIk hval hT (fun k hk e => by have := hvg k hk; have := h.lt e; omega)
 have hvl : ∀ k, val.ownBlock = some k → k < w3.heap.size := fun k hk => ownI_lt hval hk
 refine ⟨⟨by rw [List.flatMap_append, List.length_append]; exact hown, fun k hk => ?_, fun r hr => ?_, ?_⟩, ?_⟩
 · obtain rfl : g = k := by simpa [Value.ownBlock] using hk
   rcases hat with e | e
   · exact h.far _ e
   · have := hb3.size; omega
 · rcases List.mem_append.1 hr with hr | hr
   · have h1 := hw3.each r hr
     refine ⟨oIk h1.1 hT (fun k hk e => (h1.2 k hk).2 e), fun k hk => ⟨(h1.2 k hk).1, fun e => ?_⟩⟩
     obtain rfl : g = k := by simpa [Value.ownBlock] using e
     rcases hat with e2 | e2
     · exact (h1.2 _ hk).2 e2
     · have := ownI_lt h1.1 hk; omega
   · obtain rfl : r = ⟨x, l, val⟩ := by simpa using hr
     refine ⟨hval5, fun k hk => ⟨Nat.le_trans hN (hvg k hk), fun e => ?_⟩⟩
     obtain rfl : g = k := by simpa [Value.ownBlock] using e
     rcases hat with e2 | e2
     · have := hvg _ hk; have := h.lt e2; omega
     · have := hvl _ hk; omega
 · rw [List.pairwise_append]
   refine ⟨h.dis, List.pairwise_singleton _ _, fun r hr s hs k hk e => ?_⟩
   obtain rfl : s = ⟨x, l, val⟩ := by simpa using hs
   have h1 := hvg k e
   have h2 := ownI_lt (h.each r hr).1 hk
   omega
 · exact (hb3.mono hN).trans (hT.below (Nat.le_trans hN hb3.size) (fun k e => h.far k e))
theorem flat_at : ∀ (Rs : List RowV) (i : Nat) (h : i < Rs.length), (Rs.flatMap RowV.cells)[i * 2]? = some (.int .i64 (Rs[i]).node) ∧ (Rs.flatMap RowV.cells)[i * 2 + 1]? = some (Rs[i]).val
 | r :: Rs, 0, _ => ⟨rfl, rfl⟩
 | r :: Rs, i + 1, h => by
  have h1 := flat_at Rs i (by simpa using h)
  have e : ((r :: Rs).flatMap RowV.cells) = .int .i64 r.node :: r.val :: Rs.flatMap RowV.cells := by simp [List.flatMap_cons, RowV.cells]
  rw [e, show (i + 1) * 2 = i * 2 + 1 + 1 by omega]
  exact h1
end
end Go.Proofs.YtedpljclnpiggaaGreatDoor
