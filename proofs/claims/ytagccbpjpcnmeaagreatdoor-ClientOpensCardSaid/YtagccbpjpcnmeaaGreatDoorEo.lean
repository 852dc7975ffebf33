/-
  The executor's operations: what they answer is what the program's operations answer.
-/
import Derived.Test.YtagccbpjpcnmeaaGreatDoorEs
set_option linter.unusedVariables false
set_option linter.unusedSimpArgs false
namespace Go.Proofs.YtagccbpjpcnmeaaGreatDoor.Ex
open Go

theorem pureRun_run {α : Type} {P : Program} : ∀ {s : Sem α} {a : α}, pureRun P s = some a → ∀ w, s.run P w = .ok a w := by
  intro s
  induction s with
  | pure b => intro a h w; cases h; rfl
  | program k ih => intro a h w; exact ih P h w
  | mark m k ih => intro a h w; exact ih h w
  | _ => intro a h w; cases h

section
variable {E : Env} {K : Know E} {B : World} {σ : Sig} {S S' : St} {w : World}

theorem size_ok {t : TypeId} {n : Nat} (h : size? E t = some n) : ∃ i, E.P.info? t = some i ∧ i.size = n := by
  unfold size? at h
  split at h
  · rename_i i hi; exact ⟨i, hi, Option.some.inj h⟩
  · cases h

theorem sizeOf_run {t : TypeId} {n : Nat} (h : size? E t = some n) (w : World) : (sizeOf t).run E.P w = .ok n w := by
  obtain ⟨i, hi, rfl⟩ := size_ok h
  simp [sizeOf, typeInfo, hi]

theorem bytes_ok {t : TypeId} {n : Nat} (h : bytes? E t = some n) : ∃ i, E.P.info? t = some i ∧ i.bytes = n := by
  unfold bytes? at h
  split at h
  · rename_i i hi; exact ⟨i, hi, Option.some.inj h⟩
  · cases h

theorem bytes_run {t : TypeId} {n : Nat} (h : bytes? E t = some n) (w : World) : ∃ i : TypeInfo, i.bytes = n ∧ (typeInfo t).run E.P w = .ok i w := by
  obtain ⟨i, hi, rfl⟩ := bytes_ok h
  exact ⟨i, rfl, by simp [typeInfo, hi]⟩

theorem isAgg_run {t : TypeId} {b : Bool} (h : isAgg? E t = some b) (w : World) : (isAgg t).run E.P w = .ok b w := by
  unfold isAgg? at h
  split at h
  · rename_i hu; cases h; simp [isAgg, run_underlying hu]
  · rename_i hu; cases h; simp [isAgg, run_underlying hu]
  · rename_i d h1 h2 hu
    cases h
    simp only [isAgg, Sem.run_bind, run_underlying hu, Result.andThen_ok]
    cases d <;> first | rfl | (exact absurd rfl (h1 _)) | (exact absurd rfl (h2 _ _))
  · cases h

theorem elem_ok {t e : TypeId} (h : elem? E t = some e) : E.P.underlying t = some (.slice e) := by
  unfold elem? at h
  split at h
  · rename_i hu; cases h; exact hu
  · cases h

theorem zero_run {t : TypeId} {z : AVal} (h : zero? E t = some z) (w : World) : ∃ u, (zeroValue t).run E.P w = .ok u w ∧ ∀ σ, R σ z u := by
  unfold zero? at h
  split at h
  · rename_i i hi
    split at h
    · rename_i u hu
      exact ⟨u, by simp [zeroValue, typeInfo, hi, hu], fun σ => lift_R h⟩
    · cases h
  · cases h

theorem addr_add (m o j : Nat) : (⟨m, o, none⟩ : Addr).add j = ⟨m, o + j, none⟩ := by
  unfold Addr.add
  split <;> simp_all

theorem cells_run (h : Rep E K B σ S w) {b o n m : Nat} {l : List AVal} (hr : readN E S b o n = some l) (hm : σ.blk b = some m) :
    ∃ k : List Value, RL σ l k ∧ k.length = n ∧ ∀ w', w'.heap = w.heap → (loadCells ⟨m, o, none⟩ n).run E.P w' = .ok k.toArray w' := by
  obtain ⟨k, h1, h2, h3⟩ := h.read hr hm
  refine ⟨k, h1, h2, fun w' hw => ?_⟩
  rw [← h2]
  exact run_loadCells_list w' _ k fun j v hj => by
    rw [addr_add]
    have := h3 j v hj
    unfold World.cell? at this ⊢
    rw [hw]; exact this

/-- What an operation that answers a value does. -/
def Does (E : Env) (K : Know E) (B : World) (σ : Sig) (S' : St) (v : AVal) (r : Result Value) : Prop :=
  ∃ τ u w', r = .ok u w' ∧ σ.le τ ∧ R τ v u ∧ Rep E K B τ S' w'

theorem Does.same (h : Rep E K B σ S w) {v : AVal} {u : Value} (hv : R σ v u) : Does E K B σ S v (.ok u w) := ⟨σ, u, w, rfl, .refl σ, hv, h⟩

theorem load1_ok (h : Rep E K B σ S w) {t : TypeId} {x v : AVal} {y : Value} (hf : load1 E t x S = some (v, S')) (hx : R σ x y) :
    S' = S ∧ ∃ u, (Instr.loadAt t y).run E.P w = .ok u w ∧ R σ v u := by
  unfold load1 at hf
  split at hf
  · rename_i b o n ha hn
    split at hf
    · rename_i l hl
      cases hf
      rw [R] at hx
      obtain ⟨m, hm, rfl⟩ := hx
      obtain ⟨k, h1, h2, h3⟩ := cells_run h hl hm
      refine ⟨rfl, .agg k.toArray, ?_, by rw [R]; exact ⟨k, h1, rfl⟩⟩
      simp [Instr.loadAt, Instr.sureAddr, loadVar, isAgg_run ha, sizeOf_run hn, h3 w rfl]
    · cases hf
  · rename_i b o n ha
    split at hf
    · rename_i v' r hl
      cases hf
      rw [R] at hx
      obtain ⟨m, hm, rfl⟩ := hx
      obtain ⟨k, h1, h2, h3⟩ := h.read hl hm
      obtain ⟨u, us, h4, h5, rfl⟩ := h1.of_cons
      have h6 := h3 0 u rfl
      refine ⟨rfl, u, ?_, h4⟩
      simp only [Nat.add_zero] at h6
      simp [Instr.loadAt, Instr.sureAddr, loadVar, isAgg_run ha, h6]
    · cases hf
  · cases hf

theorem store_run (h : Rep E K B σ S w) {b o m : Nat} {xs : List AVal} {k : List Value} (hw : writeN S b o xs = some S') (hx : RL σ xs k) (hm : σ.blk b = some m) :
    ∃ w', (storeCells ⟨m, o, none⟩ k).run E.P w = .ok () w' ∧ Rep E K B σ S' w' := by
  obtain ⟨cur, t, h1, h2, h3, h4⟩ := h.write hw hx hm
  have := run_storeCells_at E.P m o t k 0 cur w h1 (by simpa using h2) h3
  simp only [Nat.add_zero] at this
  exact ⟨_, this, h4⟩

theorem undef_R (σ : Sig) : R σ aundef undef := by
  unfold aundef; rw [R]; exact ⟨[], .nil, rfl⟩

theorem store1_ok (h : Rep E K B σ S w) {t : TypeId} {x z v : AVal} {y u : Value} (hf : store1 E t x z S = some (v, S')) (hx : R σ x y) (hz : R σ z u) :
    ∃ w', (Instr.storeAt t y u).run E.P w = .ok () w' ∧ v = aundef ∧ Rep E K B σ S' w' := by
  unfold store1 at hf
  split at hf
  · rename_i b o n hn
    split at hf
    · rename_i S1 hb hw
      cases hf
      rw [R] at hx
      obtain ⟨m, hm, rfl⟩ := hx
      obtain ⟨w', h1, h2⟩ := store_run h hw hz.cells hm
      refine ⟨w', ?_, rfl, h2⟩
      have hl : u.cells.size = n := by
        have := hz.cells.len
        rw [Array.length_toList] at this
        rw [this]; exact Nat.beq_eq ▸ hb
      simp [Instr.storeAt, Instr.sureAddr, storeVar, sizeOf_run hn, hl, h1]
    · cases hf
  · cases hf

theorem newCells_ok (h : Rep E K B σ S w) {vs : List AVal} {t : TypeId} {b : Nat} (hf : newCells E S vs t = some (b, S')) {k : List Value} (hk : RL σ vs k) {w' : World} (hw : w'.heap = w.heap) (hout : Outs w w' := by exact ⟨rfl, rfl, rfl⟩) :
    ∃ τ w'', (newRow t k.toArray).run E.P w' = .ok ⟨w.heap.size, 0, none⟩ w'' ∧ σ.le τ ∧ τ.blk b = some w.heap.size ∧ Rep E K B τ S' w'' := by
  unfold newCells at hf
  split at hf
  · rename_i S1 hS
    cases hf
    have hle : σ.le (σ.ext S.next w.heap.size 0) := Sig.le_ext (h.new_none hS)
    refine ⟨_, w'.alloc (.cells k.toArray t), ?_, hle, Sig.ext_blk .., h.fresh hS 0 _ ⟨k, hk.mono hle, rfl⟩ hw hout⟩
    simp [newRow, World.alloc, hw]
  · cases hf

theorem box1_ok (h : Rep E K B σ S w) {t : TypeId} {x v : AVal} {y : Value} (hf : box1 E t x S = some (v, S')) (hx : R σ x y) :
    Does E K B σ S' v ((Instr.box t y).run E.P w) := by
  unfold box1 at hf
  split at hf
  · rename_i b S1 hb
    cases hf
    obtain ⟨τ, w', h1, h2, h3, h4⟩ := newCells_ok h hb hx.cells (w' := w) rfl
    refine ⟨τ, _, w', ?_, h2, by rw [R]; exact ⟨_, h3, rfl⟩, h4⟩
    have e : y.cells.toList.toArray = y.cells := by simp
    rw [e] at h1
    simp [Instr.box, newVar, h1]
  · cases hf

theorem alloc1_ok (h : Rep E K B σ S w) {t : TypeId} {z v : AVal} (hz : zero? E t = some z) (hf : box1 E t z S = some (v, S')) :
    Does E K B σ S' v ((Instr.alloc t true (.tuple #[])).run E.P w) := by
  obtain ⟨u, h1, h2⟩ := zero_run hz w
  have := box1_ok h hf (h2 σ)
  simpa [Instr.alloc, Instr.box, h1] using this

/-- The model's way to lay a part's cells. -/
theorem lay_cells (off : Nat) : ∀ (k : List Value) (j : Nat) (cs : Array Value), off + j + k.length ≤ cs.size →
    (k.zipIdx j).foldl (fun cs (p : Value × Nat) => cs.setIfInBounds (off + p.2) p.1) cs = (cs.toList.take (off + j) ++ k ++ cs.toList.drop (off + j + k.length)).toArray
  | [], j, cs, _ => by simp
  | v :: k, j, cs, h => by
    have hl : off + j < cs.size := by simp at h; omega
    rw [List.zipIdx_cons, List.foldl_cons, lay_cells off k (j + 1) _ (by simp at h ⊢; omega)]
    congr 1
    have := list_seg_step cs.toList (off + j) v k (by simpa [Nat.add_assoc] using h)
    rw [Array.toList_setIfInBounds]
    simpa [Nat.add_assoc] using this

def RP (σ : Sig) : List (Nat × AVal) → List (Nat × Value) → Prop
  | [], l => l = []
  | (i, v) :: ps, l => ∃ x r, R σ v x ∧ RP σ ps r ∧ l = (i, x) :: r

theorem fill_ok {place : Nat → Option (Nat × Nat)} : ∀ {ps : List (Nat × AVal)} {cells r : List AVal} {l : List (Nat × Value)} {k : List Value},
    fillA place cells ps = some r → RL σ cells k → RP σ ps l → ∃ k', Instr.fill place k.toArray l = some k'.toArray ∧ RL σ r k'
  | [], cells, r, l, k, hf, hk, hp => by
    unfold fillA at hf
    cases hf
    obtain rfl : l = [] := hp
    exact ⟨k, rfl, hk⟩
  | (i, v) :: ps, cells, r, l, k, hf, hk, hp => by
    obtain ⟨x, r', hx, hp, rfl⟩ := hp
    unfold fillA at hf
    split at hf
    · rename_i off size hpl
      split at hf
      · rename_i c hb ho
        have hl : x.cells.size = size := by
          have := hx.cells.len
          rw [Array.length_toList] at this
          rw [this]; exact Nat.beq_eq ▸ hb
        obtain ⟨h1, h2⟩ := RL.over ho hk hx.cells
        rw [Array.length_toList] at h2
        obtain ⟨k', h3, h4⟩ := fill_ok hf h1 hp
        refine ⟨k', ?_, h4⟩
        unfold Instr.fill
        rw [hpl]
        have hg : ¬ (k.length < off + x.cells.size) := by omega
        simp only [List.size_toArray, hl, ne_eq, not_true_eq_false, decide_false, Bool.false_or, decide_eq_true_eq, gt_iff_lt, if_neg (hl ▸ hg)]
        rw [← h3]
        congr 1
        have := lay_cells off x.cells.toList 0 k.toArray (by simpa using h2)
        rw [← Array.foldl_toList, Array.toList_zipIdx]
        simpa using this
      · cases hf
    · cases hf

theorem places_run : ∀ {fs : List Field} {pl : List (Nat × Nat)}, placesL E fs = some pl → ∀ w, (fs.mapM fun f => (Prod.mk f.offset <$> sizeOf f.type : Sem (Nat × Nat))).run E.P w = .ok pl w
  | [], pl, h, w => by unfold placesL at h; cases h; rfl
  | f :: fs, pl, h, w => by
    unfold placesL at h
    split at h
    · rename_i n r h1 h2
      cases h
      have ih := places_run h2 w
      rw [List.mapM_cons]
      simp only [Sem.run_bind, Sem.run_map, sizeOf_run h1, Result.andThen_ok, Sem.run_pure, ih]
    · cases h

theorem build1_ok (h : Rep E K B σ S w) {t : TypeId} {ps : List (Nat × AVal)} {v : AVal} {l : Array (Nat × Value)} (hf : build1 E t ps S = some (v, S')) (hp : RP σ ps l.toList) :
    Does E K B σ S' v ((Instr.build t l).run E.P w) := by
  unfold build1 at hf
  split at hf
  · rename_i z fs hz hu
    split at hf
    · rename_i pl hpl
      split at hf
      · rename_i c hc
        cases hf
        obtain ⟨u, h1, h2⟩ := zero_run hz w
        obtain ⟨k', h3, h4⟩ := fill_ok hc (h2 σ).cells hp
        have e : u.cells.toList.toArray = u.cells := by simp
        rw [e] at h3
        refine ⟨σ, .agg k'.toArray, w, ?_, .refl σ, by rw [R]; exact ⟨k', h4, rfl⟩, h⟩
        have hm := places_run hpl w
        have hm' : (fs.mapM fun f => (Prod.mk f.offset <$> sizeOf f.type : Sem (Nat × Nat))).run E.P w = .ok pl.toArray w := by
          rw [Array.mapM_eq_mapM_toList]
          simp only [Sem.run_map, hm, Result.andThen_ok]
        simp [Instr.build, h1, run_underlying hu, hm', h3]
      · cases hf
    · cases hf
  · rename_i z n e hz hu
    split at hf
    · rename_i n' hn
      split at hf
      · rename_i c hc
        cases hf
        obtain ⟨u, h1, h2⟩ := zero_run hz w
        obtain ⟨k', h3, h4⟩ := fill_ok hc (h2 σ).cells hp
        have e' : u.cells.toList.toArray = u.cells := by simp
        rw [e'] at h3
        refine ⟨σ, .agg k'.toArray, w, ?_, .refl σ, by rw [R]; exact ⟨k', h4, rfl⟩, h⟩
        simp [Instr.build, h1, run_underlying hu, sizeOf_run hn, h3]
      · cases hf
    · cases hf
  · cases hf
end
end Go.Proofs.YtagccbpjpcnmeaaGreatDoor.Ex
