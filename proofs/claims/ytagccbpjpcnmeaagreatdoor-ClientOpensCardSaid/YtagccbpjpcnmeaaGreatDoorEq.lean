/-
  The executor's operations on slices.
-/
import Derived.Test.YtagccbpjpcnmeaaGreatDoorEp
set_option linter.unusedVariables false
set_option linter.unusedSimpArgs false
namespace Go.Proofs.YtagccbpjpcnmeaaGreatDoor.Ex
open Go

section
variable {E : Env} {K : Know E} {B : World} {σ : Sig} {S S' : St} {w : World}

theorem offA_addr (m q l o z : Nat) : (if q = l then (⟨m, o, none⟩ : Addr) else (⟨m, o, none⟩ : Addr).add (l * z)) = ⟨m, offA q l o z, none⟩ := by
  unfold offA
  by_cases h : q = l
  · subst h; simp
  · have : Nat.beq q l = false := by
      cases hb : Nat.beq q l
      · rfl
      · exact absurd (Nat.beq_eq ▸ hb) h
    rw [if_neg h, this, addr_add]

theorem slice1_ok {t : TypeId} {x v : AVal} {y : Value} {lo hi mx : Option AVal} {lo' hi' mx' : Option Value} (hf : slice1 E t x lo hi mx S = some (v, S')) (hx : R σ x y) (h1 : RO σ lo lo') (h2 : RO σ hi hi') (h3 : RO σ mx mx') :
    S' = S ∧ ∃ u, (Instr.sliceAt t y lo' hi' mx').run E.P w = .ok u w ∧ R σ v u := by
  unfold slice1 at hf
  split at hf
  · rename_i s hu
    rw [R] at hx
    obtain ⟨rfl, _⟩ := hx
    split at hf
    · rename_i l h hb
      cases hf
      obtain ⟨hr, _, _, _, hm⟩ := bnds_run (isS := false) hb h1 h2 h3 (Nat.le_refl _) (Nat.le_refl _) E.P w
      rw [hm rfl] at hr
      refine ⟨rfl, _, ?_, by rw [R]; exact ⟨rfl, rfl⟩⟩
      simp [Instr.sliceAt, Instr.slice, run_underlying hu, hm rfl, hr]
    · cases hf
  · rename_i e hu
    rw [R] at hx
    obtain ⟨rfl, _⟩ := hx
    split at hf
    · rename_i z p hz hb
      obtain ⟨l, h, m⟩ := p
      cases hf
      obtain ⟨hr, hlh, hm, hmc, _⟩ := bnds_run (isS := true) hb h1 h2 h3 (Nat.le_refl 0) (Nat.le_refl 0) E.P w
      have e1 : m.getD 0 = 0 := by omega
      have e2 : h = 0 := by omega
      have e3 : l = 0 := by omega
      rw [e1, e2, e3] at hr
      refine ⟨rfl, .slice none 0 0, ?_, by rw [R]; exact ⟨rfl, rfl⟩⟩
      simp [Instr.sliceAt, Instr.slice, run_underlying hu, hr, sizeOf_run hz]
    · cases hf
  · rename_i e b o n c hu
    rw [R] at hx
    obtain ⟨m0, q, hm0, ⟨rfl, hnq⟩, rfl⟩ := hx
    split at hf
    · rename_i z l h m hz hb
      cases hf
      obtain ⟨hr, hlh, hm, hmc, _⟩ := bnds_run (isS := true) hb h1 h2 h3 (Nat.le_refl q) hnq E.P w
      refine ⟨rfl, .slice (some ⟨m0, offA (m.getD q) l o z, none⟩) (h - l) (m.getD q - l), ?_, by rw [R]; exact ⟨m0, _, hm0, ⟨rfl, by omega⟩, rfl⟩⟩
      simp only [Instr.sliceAt, Instr.slice, Sem.run_bind, run_underlying hu, Result.andThen_ok, hr, sizeOf_run hz, Option.map_some, Sem.run_pure]
      rw [← offA_addr]
      congr 2
      split <;> rfl
    · cases hf
  · rename_i e b o n k d hu
    rw [R] at hx
    obtain ⟨m0, q, hm0, ⟨hk, hq, hnq⟩, rfl⟩ := hx
    split at hf
    · rename_i z l h m hz hb
      cases hf
      obtain ⟨hr, hlh, hm, hmc, _⟩ := bnds_run (isS := true) hb h1 h2 h3 hnq (Nat.le_refl n) E.P w
      simp only [Option.getD_some] at hr hm hmc
      refine ⟨rfl, .slice (some ⟨m0, offA m l o z, none⟩) (h - l) (m - l), ?_, by rw [R]; exact ⟨m0, _, hm0, ⟨rfl, by omega⟩, rfl⟩⟩
      simp only [Instr.sliceAt, Instr.slice, Sem.run_bind, run_underlying hu, Result.andThen_ok, hr, sizeOf_run hz, Option.map_some, Sem.run_pure]
      rw [← offA_addr]
      congr 2
      split <;> rfl
    · rename_i z l h hz hb
      obtain ⟨hr, hlh, hm, hmc, _⟩ := bnds_run (isS := true) hb h1 h2 h3 hnq (Nat.le_refl n) E.P w
      simp only [Option.getD_none] at hr hm hmc
      have run : (Instr.sliceAt t (.slice (some ⟨m0, o, none⟩) n q) lo' hi' mx').run E.P w = .ok (.slice (some (if q = l then (⟨m0, o, none⟩ : Addr) else (⟨m0, o, none⟩ : Addr).add (l * z))) (h - l) (q - l)) w := by
        simp only [Instr.sliceAt, Instr.slice, Sem.run_bind, run_underlying hu, Result.andThen_ok, hr, sizeOf_run hz, Option.map_some, Sem.run_pure]
        congr 2
        split <;> rfl
      split at hf
      · rename_i hb1
        cases hf
        have hln : l < n := Nat.le_of_ble_eq_true hb1
        refine ⟨rfl, _, run, ?_⟩
        rw [if_neg (by omega), addr_add, R]
        exact ⟨m0, _, hm0, ⟨hk, by rw [hq]; omega, by omega⟩, rfl⟩
      · rename_i hb1 hb2
        cases hf
        have hl0 : l = 0 := Nat.beq_eq ▸ hb2
        refine ⟨rfl, _, run, ?_⟩
        have e : (if q = l then (⟨m0, o, none⟩ : Addr) else (⟨m0, o, none⟩ : Addr).add (l * z)) = ⟨m0, o, none⟩ := by
          rw [hl0, addr_add]; simp
        rw [e, R]
        exact ⟨m0, _, hm0, ⟨hk, by rw [hq]; omega, by omega⟩, rfl⟩
      · cases hf
    · cases hf
  · rename_i n e b o hu
    rw [R] at hx
    obtain ⟨m0, hm0, rfl⟩ := hx
    split at hf
    · rename_i z l h hz hb
      cases hf
      obtain ⟨hr, hlh, hm, hmc, _⟩ := bnds_run (isS := false) hb h1 h2 h3 (Nat.le_refl n) (Nat.le_refl n) E.P w
      simp only [Option.getD_none] at hr hm hmc
      refine ⟨rfl, .slice (some ⟨m0, offA n l o z, none⟩) (h - l) (n - l), ?_, by rw [R]; exact ⟨m0, _, hm0, ⟨rfl, by omega⟩, rfl⟩⟩
      simp only [Instr.sliceAt, Instr.sureAddr, Sem.run_bind, run_underlying hu, Result.andThen_ok, hr, sizeOf_run hz, Sem.run_pure]
      rw [← offA_addr]
    · cases hf
  · cases hf

theorem fieldAddr1_ok {t : TypeId} {x v : AVal} {y : Value} {i : Nat} (hf : fieldAddr1 E t x i S = some (v, S')) (hx : R σ x y) :
    S' = S ∧ ∃ u, (Instr.fieldAt t y i).run E.P w = .ok u w ∧ R σ v u := by
  unfold fieldAddr1 at hf
  split at hf
  · rename_i fs b o hu
    rw [R] at hx
    obtain ⟨m, hm, rfl⟩ := hx
    split at hf
    · rename_i f hi
      split at hf
      · rename_i z hz
        cases hf
        refine ⟨rfl, _, ?_, by rw [R]; exact ⟨m, hm, rfl⟩⟩
        simp [Instr.fieldAt, run_underlying hu, hi, Instr.sureAddr, fieldPlace, sizeOf_run hz, addr_add]
      · cases hf
    · cases hf
  · cases hf

theorem part1_ok {t : TypeId} {cs : List AVal} {v : AVal} {k : List Value} {off : Nat} (hf : part1 E t cs off = some v) (hk : RL σ cs k) :
    ∃ u, (part t k.toArray off).run E.P w = .ok u w ∧ R σ v u := by
  unfold part1 at hf
  split at hf
  · rename_i n ha hn
    split at hf
    · rename_i l hl
      cases hf
      obtain ⟨h1, h2, h3⟩ := RL.take (hk.drop off) hl
      refine ⟨.agg ((k.drop off).take n).toArray, ?_, by rw [R]; exact ⟨_, h1, rfl⟩⟩
      simp [part, isAgg_run ha, sizeOf_run hn, List.extract_eq_take_drop]
    · cases hf
  · rename_i ha
    obtain ⟨u, h1, h2⟩ := hk.at hf
    refine ⟨u, ?_, h2⟩
    simp [part, isAgg_run ha, h1]
  · cases hf

theorem pureV_eq {o : Option AVal} {v : AVal} (h : pureV o S = some (v, S')) : S' = S ∧ o = some v := by
  unfold pureV at h
  split at h
  · cases h; exact ⟨rfl, rfl⟩
  · cases h

theorem field1_ok {t : TypeId} {x v : AVal} {y : Value} {i : Nat} (hf : field1 E t x i S = some (v, S')) (hx : R σ x y) :
    S' = S ∧ ∃ u, (Instr.field t y i).run E.P w = .ok u w ∧ R σ v u := by
  unfold field1 at hf
  split at hf
  · rename_i fs cs hu
    rw [R] at hx
    obtain ⟨k, hk, rfl⟩ := hx
    split at hf
    · rename_i f hi
      obtain ⟨rfl, hp⟩ := pureV_eq hf
      obtain ⟨u, h1, h2⟩ := part1_ok (w := w) hp hk
      refine ⟨rfl, u, ?_, h2⟩
      simp [Instr.field, run_underlying hu, hi, asAgg, h1]
    · cases hf
  · cases hf

theorem indexAddr1_ok {t : TypeId} {x i v : AVal} {y j : Value} (hf : indexAddr1 E t x i S = some (v, S')) (hx : R σ x y) (hi : R σ i j) :
    S' = S ∧ ∃ u, (Instr.indexAt t y j).run E.P w = .ok u w ∧ R σ v u := by
  unfold indexAddr1 at hf
  split at hf
  · rename_i n e b o c hu hn
    rw [R] at hx
    obtain ⟨m, hm, rfl⟩ := hx
    obtain ⟨k, rfl⟩ := asNat_R hn hi
    split at hf
    · rename_i z hb hz
      cases hf
      have hlt : c < n := Nat.le_of_ble_eq_true hb
      refine ⟨rfl, _, ?_, by rw [R]; exact ⟨m, hm, rfl⟩⟩
      simp [Instr.indexAt, asIntOf, run_underlying hu, Instr.sureAddr, hlt, sizeOf_run hz, addr_add]
    · cases hf
  · rename_i e b o n cap c hu hn
    rw [R] at hx
    obtain ⟨m, q, hm, _, rfl⟩ := hx
    obtain ⟨k, rfl⟩ := asNat_R hn hi
    split at hf
    · rename_i z hb hz
      cases hf
      have hlt : c < n := Nat.le_of_ble_eq_true hb
      refine ⟨rfl, _, ?_, by rw [R]; exact ⟨m, hm, rfl⟩⟩
      simp [Instr.indexAt, asIntOf, run_underlying hu, hlt, sizeOf_run hz, addr_add]
    · cases hf
  · cases hf

theorem index1_ok {t : TypeId} {x i v : AVal} {y j : Value} (hf : index1 E t x i S = some (v, S')) (hx : R σ x y) (hi : R σ i j) :
    S' = S ∧ ∃ u, (Instr.index t y j).run E.P w = .ok u w ∧ R σ v u := by
  unfold index1 at hf
  split at hf
  · rename_i n e cs c hu hn
    rw [R] at hx
    obtain ⟨l, hl, rfl⟩ := hx
    obtain ⟨k, rfl⟩ := asNat_R hn hi
    split at hf
    · rename_i z hb hz
      obtain ⟨rfl, hp⟩ := pureV_eq hf
      have hlt : c < n := Nat.le_of_ble_eq_true hb
      obtain ⟨u, h1, h2⟩ := part1_ok (w := w) hp hl
      refine ⟨rfl, u, ?_, h2⟩
      simp [Instr.index, asIntOf, run_underlying hu, hlt, sizeOf_run hz, h1]
    · cases hf
  · rename_i s c hu hn
    rw [R] at hx
    obtain ⟨rfl, _⟩ := hx
    obtain ⟨k, rfl⟩ := asNat_R hn hi
    split at hf
    · rename_i ch hc
      cases hf
      refine ⟨rfl, _, ?_, int_R σ _ _⟩
      simp [Instr.index, asIntOf, run_underlying hu, hc]
    · cases hf
  · cases hf

theorem extract1_ok {x v : AVal} {y : Value} {i : Nat} (hf : extract1 x i S = some (v, S')) (hx : R σ x y) :
    S' = S ∧ ∃ u, (Instr.extract y i).run E.P w = .ok u w ∧ R σ v u := by
  unfold extract1 at hf
  split at hf
  · rename_i vs
    rw [R] at hx
    obtain ⟨l, hl, rfl⟩ := hx
    obtain ⟨rfl, hp⟩ := pureV_eq hf
    obtain ⟨u, h1, h2⟩ := hl.at hp
    refine ⟨rfl, u, ?_, h2⟩
    simp [Instr.extract, h1]
  · cases hf

theorem makeMap1_ok (h : Rep E K B σ S w) {t : TypeId} {v : AVal} (hf : makeMap1 E S = some (v, S')) : Does E K B σ S' v ((Instr.makeMap t none).run E.P w) := by
  unfold makeMap1 at hf
  split at hf
  · rename_i S1 hS
    cases hf
    have hle : σ.le (σ.ext S.next w.heap.size 0) := Sig.le_ext (h.new_none hS)
    exact ⟨_, .map (some w.heap.size), w.alloc (.map #[] 0), rfl, hle, by rw [R]; exact ⟨_, Sig.ext_blk .., rfl⟩, h.fresh hS 0 _ ⟨[], rfl, rfl⟩ rfl⟩
  · cases hf

theorem makeSlice1_ok (h : Rep E K B σ S w) {t : TypeId} {a b v : AVal} {x y : Value} (hf : makeSlice1 E t a b S = some (v, S')) (ha : R σ a x) (hb : R σ b y) :
    Does E K B σ S' v ((Instr.makeSlice t x y).run E.P w) := by
  unfold makeSlice1 at hf
  split at hf
  · rename_i e l c he hl hc
    obtain ⟨k, rfl⟩ := asNat_R hl ha
    obtain ⟨k', rfl⟩ := asNat_R hc hb
    split at hf
    · rename_i n by_ z hn hby hz
      split at hf
      · rename_i b' S1 h1 h2 h3 hS
        cases hf
        simp only [Bool.and_eq_true] at h3
        have hlc : l ≤ c := Nat.le_of_ble_eq_true h1
        have hcb : by_ * c ≤ 1048576 := Nat.le_of_ble_eq_true h2
        have hc1 : c ≤ 1048576 := Nat.le_of_ble_eq_true h3.1
        obtain ⟨u, h4, h5⟩ := zero_run hz w
        have hzl : u.cells.size = n := by
          have := (h5 σ).cells.len
          rw [Array.length_toList] at this
          rw [this]; exact Nat.beq_eq ▸ h3.2
        obtain ⟨τ, w', h6, h7, h8, h9⟩ := newCells_ok h hS (repeat_R (h5 σ).cells c) (w' := w) rfl
        refine ⟨τ, .slice (some ⟨w.heap.size, 0, none⟩) l c, w', ?_, h7, by rw [R]; exact ⟨_, c, h8, ⟨rfl, hlc⟩, rfl⟩, h9⟩
        obtain ⟨i, hi1, hi2⟩ := bytes_run hby w
        have wl : IntKind.i64.wrap (l : Int) = l := by rw [IntKind.wrap_i64]; omega
        have wc : IntKind.i64.wrap (c : Int) = c := by rw [IntKind.wrap_i64]; omega
        have g1 : ¬ ((c : Int) < 0) := by omega
        have g2 : ¬ ((281474976710656 : Int) < (i.bytes : Int) * (c : Int)) := by
          rw [hi1]
          have : ((by_ * c : Nat) : Int) ≤ ((1048576 : Nat) : Int) := Int.ofNat_le.2 hcb
          rw [Int.natCast_mul] at this
          omega
        have g3 : ¬ ((c : Int) < (l : Int)) := by omega
        have hr := range_cells u.cells c n hzl
        have g4 : ¬ ((l : Int) < 0) := by omega
        simp only [Instr.makeSlice, Sem.run_bind, run_underlying (elem_ok he), Result.andThen_ok, asInt, asIntOf, Sem.run_pure, hi2, wl, wc]
        simp [g1, g2, g3, g4, sizeOf_run hn]
        by_cases h0 : c * n = 0
        · have hk : repeatV u.cells.toList c = [] := by
            have := repeat_len u.cells.toList c
            rw [show u.cells.toList.length = n from hzl, h0] at this
            exact List.length_eq_zero_iff.1 this
          rw [hk] at h6
          have hr0 : (Array.range 0 : Array Nat) = #[] := rfl
          rw [if_pos h0, h0, hr0]
          simp [h6]
        · rw [if_neg h0, h4]
          simp [hr, h6]
      · cases hf
    · cases hf
  · cases hf
end
end Go.Proofs.YtagccbpjpcnmeaaGreatDoor.Ex
