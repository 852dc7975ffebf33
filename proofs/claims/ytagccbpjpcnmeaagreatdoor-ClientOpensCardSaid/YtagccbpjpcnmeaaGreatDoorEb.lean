/-
  The executor's builtins: append, copy, clear, len, cap, min, max.
-/
import Derived.Test.YtagccbpjpcnmeaaGreatDoorEa
set_option linter.unusedVariables false
set_option linter.unusedSimpArgs false
namespace Go.Proofs.YtagccbpjpcnmeaaGreatDoor.Ex
open Go

section
variable {E : Env} {K : Know E} {B : World} {σ : Sig} {S S' : St} {w : World}

theorem newRowA_ok {vs : List AVal} {e : TypeId} {z n c : Nat} {v : AVal} {k : List Value} {zs : List Value} (h : Rep E K B σ S w) (hf : newRowA E S vs e z n = some (v, S')) (hk : RL σ vs k)
    (hlen : k.length = n * z) (hz : zs.length = z) (hc : n ≤ c) :
    Does E K B σ S' v (.ok (.slice (some ⟨w.heap.size, 0, none⟩) n c) (w.drew.alloc (.cells (k ++ repeatV zs (c - n)).toArray e))) := by
  unfold newRowA at hf
  split at hf
  · rename_i S1 hS ho
    cases hf
    have hle : σ.le (σ.ext S.next w.heap.size c) := Sig.le_ext (h.new_none hS)
    refine ⟨_, _, _, rfl, hle, ?_, h.fresh hS c _ ⟨k, repeatV zs (c - n), hk.mono hle, ⟨_, Sig.ext_blk ..⟩, ?_, rfl⟩ rfl⟩
    · rw [R]
      exact ⟨_, c, Sig.ext_blk .., ⟨⟨_, Sig.ext_blk ..⟩, by rw [Sig.ext_cap]; rfl, hc⟩, rfl⟩
    · rw [Sig.ext_cap, List.length_append, hlen, repeat_len, hz, ← Nat.add_mul]
      congr 1
      omega
  · cases hf

set_option maxHeartbeats 4000000 in
theorem append1_ok (h : Rep E K B σ S w) {ts : List TypeId} {ty : TypeId} {args : List AVal} {ys : List Value} {v : AVal} (hf : append1 E ts args S = some (v, S')) (ha : RL σ args ys) :
    Does E K B σ S' v ((Builtin.append_ ts.toArray ty ys.toArray).run E.P w) := by
  unfold append1 at hf
  split at hf
  · rename_i st xt s x
    obtain ⟨sv, r1, hs, hr1, rfl⟩ := ha.of_cons
    obtain ⟨yv, r2, hx, hr2, rfl⟩ := hr1.of_cons
    obtain rfl := hr2.of_nil
    split at hf
    · rename_i e he
      split at hf
      · rename_i z by_ zv hz hb hzv
        split at hf
        · rename_i m xs hsrc
          split at hf
          · rename_i hfit hzl
            have hfit := Nat.le_of_ble_eq_true hfit
            have hzl : zv.cells.length = z := Nat.beq_eq ▸ hzl
            have hzr := fun w => zero_run hzv w
            obtain ⟨zu, hzu, hzR⟩ := hzr w
            have hzu' : ∀ w, (zeroValue e).run E.P w = .ok zu w := by
              unfold zero? at hzv
              split at hzv
              · rename_i i hi
                split at hzv
                · rename_i u hu
                  intro w'
                  have : zu = u := by
                    simp [zeroValue, typeInfo, hi, hu] at hzu
                    exact hzu.symm
                  subst this
                  simp [zeroValue, typeInfo, hi, hu]
                · cases hzv
              · cases hzv
            have hzs : zu.cells.toList.length = z := by rw [(hzR σ).cells.len, hzl]
            have hzsz : zu.cells.size = z := hzs
            -- the source
            have hsource : ∃ b k, zeros1 E xt = some b ∧ RL σ xs k ∧ k.length = m * z ∧ Src E z m zu yv k b w := by
              unfold source1 at hsrc
              split at hsrc
              · rename_i hz1
                obtain ⟨h1, k, h2, h3, h4⟩ := source_ok h hsrc hx
                exact ⟨false, k, hz1, h2, h3, .inl ⟨rfl, h1, fun w' hw => by have := h4 m (Nat.le_refl _) w' hw; rwa [← h3, List.take_length] at this⟩⟩
              · rename_i hz1
                split at hsrc
                · rename_i m' hm
                  cases hsrc
                  obtain ⟨kk, rfl⟩ := asNat_R hm hx
                  exact ⟨true, _, hz1, repeat_R (hzR σ).cells m, by rw [repeat_len, hzs], .inr ⟨rfl, ⟨kk, rfl⟩, rfl⟩⟩
                · cases hsrc
              · cases hsrc
            obtain ⟨b, k, hxt, hk, hkl, hS⟩ := hsource
            unfold appendTo at hf
            split at hf
            · rw [R] at hs
              obtain ⟨rfl, _⟩ := hs
              simp only [slen] at hfit
              split at hf
              · rename_i hm0
                obtain rfl : m = 0 := Nat.beq_eq ▸ hm0
                cases hf
                have := app_room (ty := ty) (base := none) (sLen := 0) (sCap := 0) (w' := w) he hz hb hzu' hzsz hxt hS hfit (Nat.le_refl _) (fun a ha => by cases ha) (fun _ => rfl)
                exact ⟨σ, _, w, this, .refl σ, by rw [R]; exact ⟨rfl, rfl⟩, h⟩
              · rename_i hm0
                have hne : ¬ 0 + m ≤ 0 := fun hle => by
                  have h0 : m = 0 := by omega
                  rw [h0] at hm0
                  cases hm0
                obtain ⟨c, hc, hrun⟩ := app_grow (ty := ty) (base := none) (sLen := 0) (sCap := 0) (olds := []) he hz hb hzu' hzsz hxt hS hfit hne (fun w' _ => by simp [Builtin.firstCells])
                have := newRowA_ok h hf hk hkl hzs (by omega : m ≤ c)
                rw [hrun]
                simpa using this
            · skip
              rename_i b' o n c _
              rw [R] at hs
              obtain ⟨m0, q, hm0, ⟨rfl, hnq⟩, rfl⟩ := hs
              simp only [slen] at hfit
              split at hf
              · rename_i hle
                split at hf
                · rename_i S1 hw
                  cases hf
                  obtain ⟨w', h1, h2⟩ := store_run (E := E) h hw hk hm0
                  have hle' : n + m ≤ q := Nat.le_of_ble_eq_true hle
                  have := app_room (ty := ty) (base := some ⟨m0, o, none⟩) (sLen := n) (sCap := q) (w' := w') he hz hb hzu' hzsz hxt hS hfit hle' (fun a ha => by cases ha; rw [addr_add]; exact h1) (fun ha => by cases ha)
                  exact ⟨σ, _, w', this, .refl σ, by rw [R]; exact ⟨m0, q, hm0, ⟨rfl, hle'⟩, rfl⟩, h2⟩
                · cases hf
              · rename_i hle
                split at hf
                · rename_i old hold
                  obtain ⟨ko, h1, h2, h3⟩ := h.read hold hm0
                  have hle' : ¬ n + m ≤ q := fun hc => by have := Nat.ble_eq_true_of_le hc; rw [hle] at this; cases this
                  obtain ⟨c, hc, hrun⟩ := app_grow (ty := ty) (base := some ⟨m0, o, none⟩) (sLen := n) (sCap := q) (olds := ko) he hz hb hzu' hzsz hxt hS hfit hle' (fun w' hw => run_firstCells_some w' z n _ n q ko h2 fun j u hj => by
                    rw [addr_add]; have := h3 j u hj; unfold World.cell? at this ⊢; rw [hw]; exact this)
                  have := newRowA_ok h hf (h1.append hk) (by rw [List.length_append, h2, hkl, Nat.add_mul]) hzs hc
                  rw [hrun]
                  exact this
                · cases hf
            · rename_i b' o n kk d _
              rw [R] at hs
              obtain ⟨m0, q, hm0, ⟨⟨mk, hmk⟩, hq, hnq⟩, rfl⟩ := hs
              simp only [slen] at hfit
              split at hf
              · rename_i hmz
                obtain rfl : m = 0 := Nat.beq_eq ▸ hmz
                cases hf
                have hk0 : k = [] := List.length_eq_zero_iff.1 (by rw [hkl]; simp)
                subst hk0
                have := app_room (ty := ty) (base := some ⟨m0, o, none⟩) (sLen := n) (sCap := q) (w' := w) he hz hb hzu' hzsz hxt hS hfit (by omega) (fun a _ => rfl) (fun ha => by cases ha)
                exact ⟨σ, _, w, this, .refl σ, by rw [R]; exact ⟨m0, q, hm0, ⟨⟨mk, hmk⟩, hq, hnq⟩, rfl⟩, h⟩
              · split at hf
                · rename_i vs t' k' z' hg
                  split at hf
                  · rename_i old hke hzz hold
                    simp only [Bool.and_eq_true] at hke
                    have hfit : (n + m) * (by_ + 1) ≤ 70368744177664 := by first | exact hfit | exact Nat.le_of_ble_eq_true hfit
                    obtain rfl : kk = k' := Nat.beq_eq ▸ hke.1
                    obtain rfl : e = t' := Nat.beq_eq ▸ hke.2
                    obtain rfl : z = z' := Nat.beq_eq ▸ hzz
                    obtain ⟨m1, ob, h1, h2, ⟨l, r, h3, h4, h5, rfl⟩, h6⟩ := h.has b' _ hg rfl
                    obtain rfl : m1 = m0 := Option.some.inj (h1.symm.trans hm0)
                    simp only [Nat.sub_zero] at hq
                    obtain ⟨h7, h8, h9⟩ := RL.take h3 hold
                    have hkill := h.kill hg
                    rw [St.upd_eq] at hkill hf
                    have hall : RL σ (old ++ xs) (l.take (n * z) ++ k) := h7.append hk
                    have hallen : (l.take (n * z) ++ k).length = (n + m) * z := by
                      rw [List.length_append, List.length_take, Nat.min_eq_left h9, hkl, Nat.add_mul]
                    by_cases hroom : n + m ≤ q
                    · -- in place
                      have hf' := hf
                      unfold newRowA at hf
                      split at hf
                      · rename_i S1 hS1 hone
                        cases hf
                        have hone' : ∀ u ∈ k, u.oneCell' = true := by
                          rw [List.all_append, Bool.and_eq_true] at hone
                          exact hk.ones hone.2
                        have hfits : n * z + k.length ≤ (l ++ r).length := by
                          rw [h5, hkl, ← Nat.add_mul, ← hq]
                          exact Nat.mul_le_mul_right _ hroom
                        have hst := run_storeCells_at E.P m1 (n * z) e k 0 (l ++ r).toArray w h2 (by simpa using hfits) hone'
                        simp only [Nat.add_zero, List.toList_toArray] at hst
                        have hset : ((l ++ r).take (n * z) ++ k ++ (l ++ r).drop (n * z + k.length)) = (l.take (n * z) ++ k) ++ (l ++ r).drop (n * z + k.length) := by
                          rw [List.take_append_of_le_length h9]
                        have hle : σ.le (σ.ext S.next m1 q) := Sig.le_ext (hkill.new_none hS1)
                        have hrun := app_room (ty := ty) (base := some ⟨m1, 0, none⟩) (sLen := n) (sCap := q) he hz hb hzu' hzsz hxt hS hfit hroom (fun a ha => by cases ha; rw [addr_add, Nat.zero_add]; exact hst) (fun ha => by cases ha)
                        refine ⟨σ.ext S.next m1 q, _, _, hrun, hle, ?_, ?_⟩
                        · rw [R]
                          exact ⟨m1, q, Sig.ext_blk .., ⟨⟨_, Sig.ext_blk ..⟩, by rw [Sig.ext_cap]; rfl, hroom⟩, rfl⟩
                        · refine hkill.fresh_gen (o := .cells ((l ++ r).take (n * z) ++ k ++ (l ++ r).drop (n * z + k.length)).toArray e (0, 0)) hS1 m1 q h6 ?_ (setRow_heap w m1 _ _ e (0, 0) h2) ?_ (by simp [World.setRow]) ⟨rfl, rfl, rfl⟩ (h.apart b' _ m1 hg rfl hm0) ?_
                          · intro b2 k2 hb2 hl2 hm2
                            have hb2 : (S.heap.ins 64 b' (b', ABlk.dead)).get b2 = some k2 := hb2
                            rcases T.get_ins hb2 with ⟨_, rfl⟩ | ⟨hne, hb2⟩
                            · cases hl2
                            · exact hne (h.inj b2 b' _ _ m1 hb2 hl2 hg rfl hm2 hm0)
                          · intro i hi _
                            simp [World.setRow, Array.getElem?_modify, Ne.symm hi]
                          · rw [hset]
                            refine ⟨_, _, hall.mono hle, ⟨_, Sig.ext_blk ..⟩, ?_, rfl⟩
                            rw [Sig.ext_cap, hq, ← h5]
                            simp only [List.length_append, List.length_take, List.length_drop] at hfits ⊢
                            omega
                      · cases hf
                    · -- another row
                      have hcell : ∀ j u, (l.take (n * z))[j]? = some u → w.cell? ⟨m1, j, none⟩ = some u := by
                        intro j u hj
                        rw [List.getElem?_take] at hj
                        split at hj
                        · have hjl := (List.getElem?_eq_some_iff.1 hj).1
                          simp [World.cell?, h2, List.getElem?_append_left hjl, hj]
                        · cases hj
                      obtain ⟨c, hc, hrun⟩ := app_grow (ty := ty) (base := some ⟨m1, 0, none⟩) (sLen := n) (sCap := q) (olds := l.take (n * z)) he hz hb hzu' hzsz hxt hS hfit hroom (fun w' hw => run_firstCells_some w' z n _ n q _ (by rw [List.length_take]; exact Nat.min_eq_left h9) fun j u hj => by
                        rw [addr_add, Nat.zero_add]; have := hcell j u hj; unfold World.cell? at this ⊢; rw [hw]; exact this)
                      have := newRowA_ok hkill hf hall hallen hzs hc
                      rw [hrun]
                      exact this
                  · cases hf
                · cases hf
            · cases hf
          · cases hf
        · cases hf
      · cases hf
    · cases hf
  · cases hf
end
end Go.Proofs.YtagccbpjpcnmeaaGreatDoor.Ex
