/-
  ClientOpens by the executor: what is known besides, of the numbers and of the stores.
-/
import Derived.Test.YtagccbpjpcnmeaaGreatDoorSyD
import Derived.Test.YtagccbpjpcnmeaaGreatDoorSyA
set_option linter.unusedVariables false
set_option linter.unusedSimpArgs false
namespace Go.Proofs.YtagccbpjpcnmeaaGreatDoor.Ex
open Go Go.RowKit Go.Proofs.YtagccbpjpcnmeaaGreatDoor

theorem prog_heap {w w' : World} {s : Nat} {F : Nat → Prop} {L : List TermD} (h : ProgStore w s F L) (hk : ∀ k, F k → w'.heap[k]? = w.heap[k]?) : ProgStore w' s F L := by
  obtain ⟨v, b, D, h1, h2, h3, h4, h5, h6⟩ := h
  have hlt : ∀ k, F k → k < w'.heap.size := fun k hF => by
    have h7 := hk k hF
    rw [Array.getElem?_eq_getElem (h6 k hF)] at h7
    exact (Array.getElem?_eq_some_iff.1 h7).1
  refine ⟨v, b, D, (hk s h5.1).trans h1, ⟨h2.1, ?_⟩, ?_, h4, h5, hlt⟩
  · rcases h2.2 with h0 | ⟨g, cap, cur, e, hB, hg, rest⟩
    · exact .inl h0
    · have hFg := (h5.2.2.2 g (by rw [e]; rfl)).1
      exact .inr ⟨g, cap, cur, e, hB, (hk g hFg).trans hg, rest⟩
  · obtain ⟨es, clock, hb, rest⟩ := h3
    exact ⟨es, clock, (hk b h5.2.1).trans hb, rest⟩

theorem ref_heap {w w' : World} {r : Nat} {F : Nat → Prop} {L : List TermD} (h : RefStore w r F L) (hk : ∀ k, F k → w'.heap[k]? = w.heap[k]?) : RefStore w' r F L := by
  obtain ⟨v, h1, h2, h3, h4⟩ := h
  have hlt : ∀ k, F k → k < w'.heap.size := fun k hF => by
    have h7 := hk k hF
    rw [Array.getElem?_eq_getElem (h4 k hF)] at h7
    exact (Array.getElem?_eq_some_iff.1 h7).1
  refine ⟨v, (hk r h3.1).trans h1, ⟨h2.1, ?_⟩, h3, hlt⟩
  rcases h2.2 with h0 | ⟨g, cap, cur, e, hB, hg, rest⟩
  · exact .inl h0
  · have hFg := (h3.2 g (by rw [e]; rfl)).1
    exact .inr ⟨g, cap, cur, e, hB, (hk g hFg).trans hg, rest⟩

theorem map_heap {w w' : World} {mp : Nat} {l : List Int} {F : Nat → Prop} (h : MapOf w mp l F) (hk : ∀ k, F k → w'.heap[k]? = w.heap[k]?) : MapOf w' mp l F := by
  obtain ⟨v, h1, h2, h3, h4⟩ := h
  refine ⟨v, (hk mp h4).trans h1, ⟨h2.1, ?_⟩, h3, h4⟩
  rcases h2.2 with h0 | ⟨g, cap, cur, e, hB, hg, rest⟩
  · exact .inl h0
  · exact .inr ⟨g, cap, cur, e, hB, (hk g (h3 g (by rw [e]; rfl)).2).trans hg, rest⟩

/-- The terms that the numbers stand for: both stores, begun from L. -/
def Chain (σ : Sig) (L : List TermD) : List HEnt → List TermD → List TermD → Prop
  | [], _, _ => False
  | e :: h, A, B =>
    (e.st = 9 ∧ h = [] ∧ A = L ∧ B = L) ∨
    (e.st = 0 ∧ ∃ A' d, Chain σ L h A' B ∧ R σ (.agg e.t) (.agg d.arr) ∧ d.ok ∧ mayD A'.length d = true ∧ A = makeL A' d ∧ σ.sym e.x = some (makeN A' d)) ∨
    (e.st = 1 ∧ ∃ B' d, Chain σ L h A B' ∧ R σ (.agg e.t) (.agg d.arr) ∧ d.ok ∧ mayD B'.length d = true ∧ B = makeL B' d ∧ σ.sym e.x = some (makeN B' d))

theorem Chain.mono {σ τ : Sig} (hle : σ.le τ) {L : List TermD} : ∀ {h : List HEnt} {A B : List TermD}, Chain σ L h A B → Chain τ L h A B
  | [], _, _, h => h
  | e :: h, A, B, hc => by
    rcases hc with h1 | ⟨h1, A', d, h2, h3, h4, h5, h6, h7⟩ | ⟨h1, B', d, h2, h3, h4, h5, h6, h7⟩
    · exact .inl h1
    · exact .inr (.inl ⟨h1, A', d, h2.mono hle, h3.mono hle, h4, h5, h6, hle.sym _ _ h7⟩)
    · exact .inr (.inr ⟨h1, B', d, h2.mono hle, h3.mono hle, h4, h5, h6, hle.sym _ _ h7⟩)

structure Fine (n : Nat) (A : List TermD) : Prop where
  good : Good A
  may : AllMay A
  len : A.length ≤ 2000 + n

theorem Chain.fine {σ : Sig} {L : List TermD} (hL : Fine 0 L) : ∀ {h : List HEnt} {A B : List TermD}, Chain σ L h A B → Fine h.length A ∧ Fine h.length B
  | [], _, _, h => h.elim
  | e :: h, A, B, hc => by
    have up : ∀ {n : Nat} {X : List TermD}, Fine n X → Fine (n + 1) X := fun h => ⟨h.good, h.may, by have := h.len; omega⟩
    rcases hc with ⟨_, rfl, rfl, rfl⟩ | ⟨h1, A', d, h2, h3, h4, h5, rfl, h7⟩ | ⟨h1, B', d, h2, h3, h4, h5, rfl, h7⟩
    · exact ⟨up hL, up hL⟩
    · have ih := Chain.fine hL h2
      have := makeL_len A' d
      exact ⟨⟨ih.1.good.make h4, ih.1.may.make _, by have := ih.1.len; simp; omega⟩, up ih.2⟩
    · have ih := Chain.fine hL h2
      have := makeL_len B' d
      exact ⟨up ih.1, ⟨ih.2.good.make h4, ih.2.may.make _, by have := ih.2.len; simp; omega⟩⟩

theorem make_at {A : List TermD} {d : TermD} (hG : Good A) (hm : mayD A.length d = true) (hl : A.length < 1048576) : ∃ i : Nat, (makeL A d)[i]? = some d ∧ makeN A d = (i : Int) + 1 := by
  by_cases hd : d ∈ A
  · obtain ⟨i, hi, he⟩ := List.mem_iff_getElem.1 hd
    have hi' : A[i]? = some d := by rw [List.getElem?_eq_getElem hi, he]
    obtain ⟨h1, _, h3⟩ := make_there hG hi' hm
    exact ⟨i, by rw [h3]; exact hi', h1⟩
  · obtain ⟨h1, _, h3⟩ := make_new hm hd hl
    exact ⟨A.length, by rw [h3, List.getElem?_append_right (Nat.le_refl _)]; simp, h1⟩

theorem pre_at {A B : List TermD} (h : A <+: B) {i : Nat} {d : TermD} (hi : A[i]? = some d) : B[i]? = some d := by
  obtain ⟨t, rfl⟩ := h
  rw [List.getElem?_append_left (List.getElem?_eq_some_iff.1 hi).1]
  exact hi

/-- A term of the first store, by its number. -/
theorem Chain.find0 {σ : Sig} {L : List TermD} (hL : Fine 0 L) : ∀ {h : List HEnt} {A B : List TermD}, Chain σ L h A B → h.length ≤ 1000 → ∀ {x : Nat} {t : List AVal}, hFind 0 x h = some t →
    ∃ (d : TermD) (i : Nat), A[i]? = some d ∧ R σ (.agg t) (.agg d.arr) ∧ d.ok ∧ σ.sym x = some ((i : Int) + 1)
  | [], _, _, h, _, _, _, _ => h.elim
  | e :: h, A, B, hc, hn, x, t, hf => by
    have hn' : h.length ≤ 1000 := by simp at hn; omega
    unfold hFind at hf
    split at hf
    · rename_i he
      cases hf
      simp only [Bool.and_eq_true] at he
      have e0 : e.st = 0 := Nat.eq_of_beq_eq_true he.1
      have ex : e.x = x := Nat.eq_of_beq_eq_true he.2
      rcases hc with ⟨h1, _⟩ | ⟨h1, A', d, h2, h3, h4, h5, rfl, h7⟩ | ⟨h1, _⟩
      · rw [e0] at h1; cases h1
      · have hfi := (h2.fine hL).1
        obtain ⟨i, h8, h9⟩ := make_at hfi.good h5 (by have := hfi.len; omega)
        exact ⟨d, i, h8, h3, h4, by rw [← ex, h7, h9]⟩
      · rw [e0] at h1; cases h1
    · rcases hc with ⟨h1, rfl, _⟩ | ⟨h1, A', d, h2, h3, h4, h5, rfl, h7⟩ | ⟨h1, B', d, h2, h3, h4, h5, rfl, h7⟩
      · cases hf
      · obtain ⟨d', i, h8, h9⟩ := Chain.find0 hL h2 hn' hf
        exact ⟨d', i, pre_at (makeL_pre _ _) h8, h9⟩
      · exact Chain.find0 hL h2 hn' hf

/-- A term of the second store, by its number. -/
theorem Chain.find1 {σ : Sig} {L : List TermD} (hL : Fine 0 L) : ∀ {h : List HEnt} {A B : List TermD}, Chain σ L h A B → h.length ≤ 1000 → ∀ {x : Nat} {t : List AVal}, hFind 1 x h = some t →
    ∃ (d : TermD) (i : Nat), B[i]? = some d ∧ R σ (.agg t) (.agg d.arr) ∧ d.ok ∧ σ.sym x = some ((i : Int) + 1)
  | [], _, _, h, _, _, _, _ => h.elim
  | e :: h, A, B, hc, hn, x, t, hf => by
    have hn' : h.length ≤ 1000 := by simp at hn; omega
    unfold hFind at hf
    split at hf
    · rename_i he
      cases hf
      simp only [Bool.and_eq_true] at he
      have e0 : e.st = 1 := Nat.eq_of_beq_eq_true he.1
      have ex : e.x = x := Nat.eq_of_beq_eq_true he.2
      rcases hc with ⟨h1, _⟩ | ⟨h1, _⟩ | ⟨h1, B', d, h2, h3, h4, h5, rfl, h7⟩
      · rw [e0] at h1; cases h1
      · rw [e0] at h1; cases h1
      · have hfi := (h2.fine hL).2
        obtain ⟨i, h8, h9⟩ := make_at hfi.good h5 (by have := hfi.len; omega)
        exact ⟨d, i, h8, h3, h4, by rw [← ex, h7, h9]⟩
    · rcases hc with ⟨h1, rfl, _⟩ | ⟨h1, A', d, h2, h3, h4, h5, rfl, h7⟩ | ⟨h1, B', d, h2, h3, h4, h5, rfl, h7⟩
      · cases hf
      · exact Chain.find1 hL h2 hn' hf
      · obtain ⟨d', i, h8, h9⟩ := Chain.find1 hL h2 hn' hf
        exact ⟨d', i, pre_at (makeL_pre _ _) h8, h9⟩

theorem inHist_find {k x : Nat} : ∀ {h : List HEnt}, inHist k x h = true → ∃ t, hFind k x h = some t
  | [], h => by cases h
  | e :: l, h => by
    unfold inHist at h
    unfold hFind
    cases he : (Nat.beq e.st k && Nat.beq e.x x)
    · rw [he, Bool.false_or] at h
      exact inHist_find h
    · exact ⟨_, rfl⟩

def side (k : Nat) (A B : List TermD) : List TermD := match k with | 0 => A | _ => B

/-- A number of a store is there. -/
theorem Chain.there {σ : Sig} {L : List TermD} (hL : Fine 0 L) {h : List HEnt} {A B : List TermD} (hc : Chain σ L h A B) (hn : h.length ≤ 1000) {k : Nat} (hk : k = 0 ∨ k = 1) {v : AVal} (hi : inSt h k v = true) {x : Value} (hx : R σ v x) :
    ∃ z, x = .int .i64 z ∧ thereD (side k A B).length z = true := by
  unfold inSt at hi
  split at hi
  · rename_i n
    rw [R] at hx
    obtain ⟨z, h1, rfl⟩ := hx
    obtain ⟨t, ht⟩ := inHist_find hi
    refine ⟨z, rfl, ?_⟩
    have key : ∀ {X : List TermD} {i : Nat} {d : TermD}, X[i]? = some d → thereD X.length ((i : Int) + 1) = true := fun hX => by
      have := (List.getElem?_eq_some_iff.1 hX).1
      unfold thereD
      simp
      omega
    rcases hk with rfl | rfl
    · obtain ⟨d, i, h2, _, _, h5⟩ := hc.find0 hL hn ht
      rw [h1] at h5
      rw [Option.some.inj h5]
      exact key h2
    · obtain ⟨d, i, h2, _, _, h5⟩ := hc.find1 hL hn ht
      rw [h1] at h5
      rw [Option.some.inj h5]
      exact key h2
  · cases hi
end Go.Proofs.YtagccbpjpcnmeaaGreatDoor.Ex
