/- The document's Twin: a growing list of nodes. -/
import Derived.Test.YtedpljclnpiggaaGreatDoorV20
import Derived.Test.YtedpljclnpiggaaGreatDoorV15
import Derived.Test.YtedpljclnpiggaaGreatDoorV02
import Derived.Test.YtedpljclnpiggaaGreatDoorV21
set_option linter.unusedVariables false
set_option linter.unusedSimpArgs false
set_option maxRecDepth 100000
set_option maxHeartbeats 12800000
namespace Go.Proofs.YtedpljclnpiggaaGreatDoor
section
open Go Go.RowKit
def sealT (a b : Int) : TermD := ⟨6, 0, a, b⟩
theorem may_seal {m : Nat} {a b : Int} (ha : thereD m a = true) (hb : thereD m b = true) : mayD m (sealT a b) = true := by
 simp [mayD, sealT, ha, hb]
theorem seal_ok {a b : Int} (ha : i64ok a) (hb : i64ok b) : (sealT a b).ok := ⟨by simp [sealT], by simp [sealT, i64ok], ha, hb⟩
/-! The nodes of a resolution are not blank. -/
theorem un_pub {T : List NodeD} {last : Int} : ∀ (l : List Int) (first : Int), unD T last first l = true → ∀ u ∈ l, (nodeD T (2 * u).toNat).pub ≠ 0
 | [], _, _ => fun u hu => by simp at hu
 | u :: r, first, hun => by
  unfold unD at hun
  split at hun
  · cases hun
  · rename_i hc
    intro y hy
    rcases List.mem_cons.1 hy with rfl | hy
    · exact fun h => hc (.inr (.inr h))
    · exact un_pub r (u + 1) hun y hy
theorem um_pub {T : List NodeD} (h : OkT' T) {x : Nat} (hx : x < T.length) : ∀ u ∈ (nodeD T x).um, (nodeD T (2 * u).toNat).pub ≠ 0 := by
 rcases h with h | ⟨hl, hg, _⟩
 · omega
 have hbl : ∀ d : NodeD, blankD d = true → d.um = [] := fun d h => by
  unfold blankD at h
  simp only [Bool.and_eq_true, decide_eq_true_eq] at h
  exact List.length_eq_zero_iff.1 h.2
 rcases hg x hx with ⟨_, hp⟩ | ⟨_, hb | ⟨_, _, _, h4, _⟩⟩
 · unfold parentD at hp
   split at hp
   · rw [hbl _ hp]; exact fun u hu => by simp at hu
   · exact un_pub _ _ hp
 · rw [hbl _ hb]; exact fun u hu => by simp at hu
 · rw [List.length_eq_zero_iff.1 h4]; exact fun u hu => by simp at hu
theorem res_pub {T : List NodeD} (h : OkT' T) : ∀ (f x : Nat), x < T.length → ∀ y ∈ resD T f x, (nodeD T y).pub ≠ 0
 | 0, _, _ => by simp [resD]
 | f + 1, x, hx => by
  obtain ⟨hn, hTn⟩ := leaves_isN (ok_leaves h (by omega))
  intro y hy
  unfold resD at hy
  split at hy
  · rename_i hp
    rcases List.mem_cons.1 hy with rfl | hy
    · exact hp
    · obtain ⟨u, hu1, rfl⟩ := List.mem_map.1 hy
      exact um_pub h hx u hu1
  · split at hy
    · rename_i ho
      have hk := kid hn (by omega : x < 2 * lvD T.length - 1) ho
      rcases List.mem_append.1 hy with hy | hy
      · exact res_pub h f (lefX x) (by omega) y hy
      · exact res_pub h f (rigX x) (by omega) y hy
    · simp at hy
/-! What a path makes, step by step. -/
abbrev SealP := Nat × Nat × Int
structure MkS where
 ks : List KeyP
 ps : List Int
 ss : List SealP
 L : List TermD
abbrev MkRow := Nat × List Nat × Int
noncomputable def nodeStep (st : MkS) (x : Nat) (sec : Int) : MkS := ⟨st.ks ++ [((x : Int), nodeK st.L sec)], st.ps ++ [nodeP st.L sec], st.ss, nodeT st.L sec⟩
noncomputable def sealStep (T : List NodeD) (x : Nat) (sec : Int) (st : MkS) (y : Nat) : MkS := ⟨st.ks, st.ps, st.ss ++ [(x, y, makeN st.L (sealT (pubD T y) sec))], makeL st.L (sealT (pubD T y) sec)⟩
noncomputable def sealsGo (T : List NodeD) (x : Nat) (sec : Int) (st : MkS) (l : List Nat) : MkS := l.foldl (sealStep T x sec) st
noncomputable def mkGo (T : List NodeD) (f : Nat → MkRow) (L1 : List TermD) : Nat → MkS
 | 0 => ⟨[], [], [], L1⟩
 | k + 1 => sealsGo T (f k).1 (f k).2.2 (nodeStep (mkGo T f L1 k) (f k).1 (f k).2.2) (f k).2.1
theorem sealsGo_snoc (T : List NodeD) (x : Nat) (sec : Int) (st : MkS) (l : List Nat) (y : Nat) : sealsGo T x sec st (l ++ [y]) = sealStep T x sec (sealsGo T x sec st l) y := by unfold sealsGo; rw [List.foldl_append]; rfl
theorem sealsGo_take {T : List NodeD} {x : Nat} {sec : Int} {st : MkS} {l : List Nat} {k : Nat} (hk : k < l.length) : sealsGo T x sec st (l.take (k + 1)) = sealStep T x sec (sealsGo T x sec st (l.take k)) (l.getD k 0) := by
 rw [← sealsGo_snoc]
 congr 1
 rw [List.take_add_one, List.getD_eq_getElem?_getD, List.getElem?_eq_getElem hk]
 rfl
structure MkOk (L1 : List TermD) (st : MkS) : Prop where
 good : Good st.L
 may : AllMay st.L
 grow : L1.length ≤ st.L.length
 len : st.L.length ≤ L1.length + 2 * st.ks.length + st.ss.length
 lenp : st.ps.length = st.ks.length
 keys : ∀ k ∈ st.ks, 0 ≤ k.2 ∧ k.2 ≤ st.L.length
 pubs : ∀ p ∈ st.ps, 1 ≤ p ∧ p ≤ st.L.length
 seals : ∀ s ∈ st.ss, 0 ≤ s.2.2 ∧ s.2.2 ≤ st.L.length
theorem MkOk.node {L1 : List TermD} {st : MkS} {x : Nat} {sec : Int} (h : MkOk L1 st) (hs : thereD st.L.length sec = true) (hl : st.L.length ≤ 5000) : MkOk L1 (nodeStep st x sec) := by
 have hf := node_facts (x := sec) h.good hl
 have hm := make_ok (may_kdf (label := 2) (by omega) hs) (by omega : st.L.length < 1048576)
 have h1 := makeL_len st.L (kdfT 2 sec)
 have hm2 := make_ok (may_pub hm.2) (by omega : (makeL st.L (kdfT 2 sec)).length < 1048576)
 have hp : thereD (nodeT st.L sec).length (nodeP st.L sec) = true := by unfold nodeT nodeP; rw [if_pos hs, if_pos hs]; exact hm2.2
 have hp2 := tBd hp
 have hg := h.grow
 have hlen := h.len
 refine ⟨hf.1, nodeT_may sec h.may, ?_, ?_, ?_, fun k hk => ?_, fun p hp => ?_, fun s hs => ?_⟩
 · show L1.length ≤ (nodeT st.L sec).length; omega
 · show (nodeT st.L sec).length ≤ L1.length + 2 * (st.ks ++ _).length + st.ss.length
   rw [List.length_append, List.length_singleton]; omega
 · show (st.ps ++ _).length = (st.ks ++ _).length
   rw [List.length_append, List.length_append, h.lenp]; rfl
 · show 0 ≤ k.2 ∧ k.2 ≤ ((nodeT st.L sec).length : Int)
   rcases List.mem_append.1 hk with hk | hk
   · have := h.keys k hk; omega
   · obtain rfl : k = ((x : Int), nodeK st.L sec) := by simpa using hk
     have := hf.2.2.2.1; simpa using this
 · show 1 ≤ p ∧ p ≤ ((nodeT st.L sec).length : Int)
   rcases List.mem_append.1 hp with hp | hp
   · have := h.pubs p hp; omega
   · obtain rfl : p = nodeP st.L sec := by simpa using hp
     exact hp2
 · show 0 ≤ s.2.2 ∧ s.2.2 ≤ ((nodeT st.L sec).length : Int)
   have := h.seals s hs; omega
theorem MkOk.seal {T : List NodeD} {L1 : List TermD} {st : MkS} {x y : Nat} {sec : Int} (h : MkOk L1 st) (hs : thereD st.L.length sec = true) (hp : thereD st.L.length (pubD T y) = true) (hl : st.L.length ≤ 5000) : MkOk L1 (sealStep T x sec st y) := by
 have h1 := makeL_len st.L (sealT (pubD T y) sec)
 have hb := makeN_bounds st.L (sealT (pubD T y) sec)
 have hg := h.grow
 have hlen := h.len
 refine ⟨h.good.make (seal_ok (there_i64 hp (by omega)) (there_i64 hs (by omega))), h.may.make _, ?_, ?_, h.lenp, fun k hk => ?_, fun p hp => ?_, fun s hs => ?_⟩
 · show L1.length ≤ (makeL st.L (sealT (pubD T y) sec)).length; omega
 · show (makeL st.L (sealT (pubD T y) sec)).length ≤ L1.length + 2 * st.ks.length + (st.ss ++ _).length
   rw [List.length_append, List.length_singleton]; omega
 · show 0 ≤ k.2 ∧ k.2 ≤ ((makeL st.L (sealT (pubD T y) sec)).length : Int)
   have := h.keys k hk; omega
 · show 1 ≤ p ∧ p ≤ ((makeL st.L (sealT (pubD T y) sec)).length : Int)
   have := h.pubs p hp; omega
 · show 0 ≤ s.2.2 ∧ s.2.2 ≤ ((makeL st.L (sealT (pubD T y) sec)).length : Int)
   rcases List.mem_append.1 hs with hs | hs
   · have := h.seals s hs; omega
   · obtain rfl : s = (x, y, makeN st.L (sealT (pubD T y) sec)) := by simpa using hs
     exact hb
theorem sealsGo_ok {T : List NodeD} {L1 : List TermD} {x : Nat} {sec : Int} : ∀ (l : List Nat) (st : MkS), MkOk L1 st → thereD L1.length sec = true → (∀ y ∈ l, thereD L1.length (pubD T y) = true) → st.L.length + l.length ≤ 5000 →
    MkOk L1 (sealsGo T x sec st l) ∧ (sealsGo T x sec st l).ks = st.ks ∧ (sealsGo T x sec st l).ss.length = st.ss.length + l.length
 | [], st, h, _, _, _ => ⟨h, rfl, rfl⟩
 | y :: l, st, h, hs, hp, hl => by
  have hl1 : st.L.length ≤ 5000 := by simp at hl; omega
  have h1 : MkOk L1 (sealStep T x sec st y) := h.seal (there_mono hs h.grow) (there_mono (hp y (by simp)) h.grow) hl1
  have h2 := makeL_len st.L (sealT (pubD T y) sec)
  have h3 := sealsGo_ok (x := x) (sec := sec) l (sealStep T x sec st y) h1 hs (fun z hz => hp z (by simp [hz])) (by show (makeL st.L (sealT (pubD T y) sec)).length + l.length ≤ 5000; simp at hl; omega)
  refine ⟨h3.1, h3.2.1, ?_⟩
  rw [show sealsGo T x sec st (y :: l) = sealsGo T x sec (sealStep T x sec st y) l from rfl, h3.2.2]
  show (st.ss ++ _).length + l.length = _
  simp
  omega
theorem mk_start {L1 : List TermD} (hG : Good L1) (hM : AllMay L1) : MkOk L1 ⟨[], [], [], L1⟩ :=
 ⟨hG, hM, Nat.le_refl _, by simp, rfl, fun k h => by simp at h, fun k h => by simp at h, fun k h => by simp at h⟩
structure RowsOk (T : List NodeD) (f : Nat → MkRow) (L1 : List TermD) (n : Nat) : Prop where
 sec : ∀ i, i < n → thereD L1.length (f i).2.2 = true
 few : ∀ i, i < n → (f i).2.1.length ≤ 144
 pub : ∀ i, i < n → ∀ y ∈ (f i).2.1, thereD L1.length (pubD T y) = true
 lt : ∀ i, i < n → ∀ y ∈ (f i).2.1, y < T.length
theorem mkGo_ok {T : List NodeD} {f : Nat → MkRow} {L1 : List TermD} (hG : Good L1) (hM : AllMay L1) (hl : L1.length ≤ 3100) {n : Nat} (hn : n ≤ 4) (hf : RowsOk T f L1 n) : ∀ k, k ≤ n → MkOk L1 (mkGo T f L1 k) ∧ (mkGo T f L1 k).ks.length = k ∧ (mkGo T f L1 k).ss.length ≤ 144 * k
 | 0, _ => ⟨mk_start hG hM, rfl, by simp [mkGo]⟩
 | k + 1, hk => by
  obtain ⟨h1, h2, h3⟩ := mkGo_ok hG hM hl hn hf k (by omega)
  have hlen := h1.len
  have h4 : MkOk L1 (nodeStep (mkGo T f L1 k) (f k).1 (f k).2.2) := h1.node (there_mono (hf.sec k (by omega)) h1.grow) (by omega)
  have hlen4 := h4.len
  have e1 : (nodeStep (mkGo T f L1 k) (f k).1 (f k).2.2).ks.length = k + 1 := by show (_ ++ [_]).length = _; rw [List.length_append, h2]; rfl
  have e2 : (nodeStep (mkGo T f L1 k) (f k).1 (f k).2.2).ss.length = (mkGo T f L1 k).ss.length := rfl
  have hfew := hf.few k (by omega)
  obtain ⟨h5, h6, h7⟩ := sealsGo_ok (x := (f k).1) (sec := (f k).2.2) (f k).2.1 _ h4 (hf.sec k (by omega)) (hf.pub k (by omega)) (by omega)
  refine ⟨h5, by show (sealsGo _ _ _ _ _).ks.length = _; rw [h6, e1], ?_⟩
  show (sealsGo _ _ _ _ _).ss.length ≤ _
  rw [h7, e2]
  omega
theorem mkGo_mid {T : List NodeD} {f : Nat → MkRow} {L1 : List TermD} (hG : Good L1) (hM : AllMay L1) (hl : L1.length ≤ 3100) {n : Nat} (hn : n ≤ 4) (hf : RowsOk T f L1 n) {k : Nat} (hk : k < n) (j : Nat) :
    let st := sealsGo T (f k).1 (f k).2.2 (nodeStep (mkGo T f L1 k) (f k).1 (f k).2.2) ((f k).2.1.take j)
    MkOk L1 st ∧ st.ks.length = k + 1 ∧ st.ss.length ≤ 144 * (k + 1) ∧ st.L.length ≤ 3700 := by
 obtain ⟨h1, h2, h3⟩ := mkGo_ok hG hM hl hn hf k (by omega)
 have hlen := h1.len
 have h4 : MkOk L1 (nodeStep (mkGo T f L1 k) (f k).1 (f k).2.2) := h1.node (there_mono (hf.sec k (by omega)) h1.grow) (by omega)
 have hlen4 := h4.len
 have e1 : (nodeStep (mkGo T f L1 k) (f k).1 (f k).2.2).ks.length = k + 1 := by show (_ ++ [_]).length = _; rw [List.length_append, h2]; rfl
 have e2 : (nodeStep (mkGo T f L1 k) (f k).1 (f k).2.2).ss.length = (mkGo T f L1 k).ss.length := rfl
 have hfew := hf.few k (by omega)
 have htk : ((f k).2.1.take j).length ≤ 144 := by rw [List.length_take]; omega
 obtain ⟨h5, h6, h7⟩ := sealsGo_ok (x := (f k).1) (sec := (f k).2.2) ((f k).2.1.take j) _ h4 (hf.sec k (by omega)) (fun y hy => hf.pub k (by omega) y (List.mem_of_mem_take hy)) (by omega)
 have h8 := h5.len
 rw [h6, e1, h7, e2] at h8
 exact ⟨h5, by rw [h6, e1], by rw [h7, e2]; omega, by omega⟩
/-! The rows of a path. -/
def mkRow (x0 : Nat) (pl : List Nat) (tl : List (List Nat)) (l : List Int) : Nat → MkRow
 | 0 => (x0, [], l.getD 0 0)
 | i + 1 => (pl.getD i 0, tl.getD i [], l.getD (i + 1) 0)
def MkCond (T : List NodeD) (L : List TermD) (leaf ep seed : Int) : Prop := OkT' T ∧ heldD T L.length ∧ 0 ≤ ep ∧ thereD L.length seed = true ∧ askD T leaf = 0
def mkM (T : List NodeD) (leaf : Int) : Nat := (pthD T leaf.toNat).length
noncomputable def mkL (T : List NodeD) (L : List TermD) (leaf seed : Int) : List Int := secretsL L seed (mkM T leaf + 1 : Nat)
noncomputable def mkL1 (T : List NodeD) (L : List TermD) (leaf seed : Int) : List TermD := secretsT L seed (mkM T leaf + 1 : Nat)
noncomputable def mkRows (T : List NodeD) (L : List TermD) (leaf seed : Int) (fresh : List Int) : Nat → MkRow :=
 mkRow (2 * leaf.toNat) (pthD T leaf.toNat) (tgtD T leaf.toNat fresh) (mkL T L leaf seed)
noncomputable def mkEnd (T : List NodeD) (L : List TermD) (leaf seed : Int) (fresh : List Int) : MkS := mkGo T (mkRows T L leaf seed fresh) (mkL1 T L leaf seed) (mkM T leaf + 1)
theorem tgt_len (T : List NodeD) (leaf : Nat) (fresh : List Int) : (tgtD T leaf fresh).length = (pthD T leaf).length := by unfold tgtD pthD; simp
structure MkFacts (T : List NodeD) (L : List TermD) (leaf seed : Int) (fresh : List Int) : Prop where
 m3 : mkM T leaf ≤ 3
 bad : sBd L seed (mkM T leaf + 1 : Nat) = false
 llen : (mkL T L leaf seed).length = mkM T leaf + 2
 good : Good (mkL1 T L leaf seed)
 may : AllMay (mkL1 T L leaf seed)
 grow : L.length ≤ (mkL1 T L leaf seed).length
 len : (mkL1 T L leaf seed).length ≤ 3100
 there : ∀ y ∈ mkL T L leaf seed, thereD (mkL1 T L leaf seed).length y = true
 rows : RowsOk T (mkRows T L leaf seed fresh) (mkL1 T L leaf seed) (mkM T leaf + 1)
theorem get_list {α : Type} {l : List α} {i : Nat} (d : α) (h : i < l.length) : l.getD i d ∈ l := by rw [List.getD_eq_getElem?_getD, List.getElem?_eq_getElem h]; exact List.getElem_mem _
theorem mk_facts {T : List NodeD} {L : List TermD} {leaf ep seed : Int} (fresh : List Int) (hG : Good L) (hM : AllMay L) (hl : L.length ≤ 3000) (h : MkCond T L leaf ep seed) : MkFacts T L leaf seed fresh := by
 obtain ⟨hok, hheld, hep, hseed, hask⟩ := h
 have hpk := pth_ok hask
 have hm : mkM T leaf ≤ 3 := hpk.plen
 have hb : sBd L seed (mkM T leaf + 1 : Nat) = false := by
  unfold sBd
  rw [hseed]
  simp
  omega
 have hf := secrets_facts (seed := seed) (many := (mkM T leaf + 1 : Nat)) hG (by omega)
 have hlen : (mkL T L leaf seed).length = mkM T leaf + 2 := by
  unfold mkL secretsL
  rw [hb]
  simp [secGo_len]
 refine ⟨hm, hb, hlen, hf.1, secretsT_may _ _ hM, hf.2.2.2, by have := hf.2.1; unfold mkL1; omega, hf.2.2.1, ?_⟩
 have hsec : ∀ i, i < mkM T leaf + 1 → thereD (mkL1 T L leaf seed).length ((mkL T L leaf seed).getD i 0) = true := fun i hi => hf.2.2.1 _ (get_list 0 (by unfold mkL at hlen; omega))
 have htl := tgt_len T leaf.toNat fresh
 have htg : ∀ i, i < mkM T leaf → ∀ y ∈ (tgtD T leaf.toNat fresh).getD i [], y < T.length ∧ (nodeD T y).pub ≠ 0 := fun i hi y hy => by
  have hmem := get_list (l := tgtD T leaf.toNat fresh) (i := i) [] (by rw [htl]; exact hi)
  obtain ⟨r, hr, e⟩ := List.mem_map.1 hmem
  rw [← e] at hy
  unfold keepL at hy
  have hy2 := (List.mem_filter.1 hy).1
  obtain ⟨_, h0, hlt, hn, hT, _⟩ := ask_zero hask
  unfold rowsD rowsOf at hr
  obtain ⟨hr1, _⟩ := List.mem_filter.1 hr
  obtain ⟨x, hx, rfl⟩ := List.mem_map.1 hr1
  have hox := (oth_facts hn hlt).2.2 x hx
  exact ⟨res_mem hok 4 _ (by omega) y hy2, res_pub hok 4 _ (by omega) y hy2⟩
 have hfew : ∀ i, i < mkM T leaf → ((tgtD T leaf.toNat fresh).getD i []).length ≤ 144 := fun i hi => by
  have hmem := get_list (l := tgtD T leaf.toNat fresh) (i := i) [] (by rw [htl]; exact hi)
  obtain ⟨r, hr, e⟩ := List.mem_map.1 hmem
  rw [← e]
  unfold keepL
  refine Nat.le_trans (List.length_filter_le _ _) ?_
  obtain ⟨_, h0, hlt, hn, hT, _⟩ := ask_zero hask
  unfold rowsD rowsOf at hr
  obtain ⟨hr1, _⟩ := List.mem_filter.1 hr
  obtain ⟨x, hx, rfl⟩ := List.mem_map.1 hr1
  have hox := (oth_facts hn hlt).2.2 x hx
  exact res_len hok 4 _ (by omega)
 refine ⟨fun i hi => ?_, fun i hi => ?_, fun i hi y hy => ?_, fun i hi y hy => ?_⟩
 · cases i with
   | zero => exact hsec 0 (by omega)
   | succ i => exact hsec (i + 1) hi
 · cases i with
   | zero => exact Nat.zero_le _
   | succ i => exact hfew i (by omega)
 · cases i with
   | zero => cases hy
   | succ i =>
    obtain ⟨h1, h2⟩ := htg i (by omega) y hy
    exact there_mono ((hheld y h1).resolve_left h2) hf.2.2.2
 · cases i with
   | zero => cases hy
   | succ i => exact (htg i (by omega) y hy).1
end
section
open Go Go.RowKit
def Wr (N : Nat) (F : Nat → Prop) : Nat → Prop := fun k => F k ∨ N ≤ k
def TreeS (N : Nat) (F : Nat → Prop) (w : World) (a : Option Addr) (T : List NodeD) : Prop := ∀ W, Turned (Wr N F) w W → TreeAt N W a T
def NumsS (N : Nat) (F : Nat → Prop) (w : World) (a : Option Addr) (l : List Int) : Prop := ∀ W, Turned (Wr N F) w W → NumsAt N W a l
theorem TreeS.at' {N : Nat} {F : Nat → Prop} {w : World} {a : Option Addr} {T : List NodeD} (h : TreeS N F w a T) : TreeAt N w a T := h w (Turned.refl _ _)
theorem NumsS.at' {N : Nat} {F : Nat → Prop} {w : World} {a : Option Addr} {l : List Int} (h : NumsS N F w a l) : NumsAt N w a l := h w (Turned.refl _ _)
theorem wr_step {N : Nat} {F F' : Nat → Prop} {w w' W : World} (hN : N ≤ w.heap.size) (hx : Ext F F' w w') (hT : Turned (Wr N F) w w') (hW : Turned (Wr N F') w' W) : Turned (Wr N F) w W :=
 hT.trans hW (fun k hk h => h.elim (fun h => (hx k h).elim .inl (fun h2 => .inr (Nat.le_trans hN h2.1))) .inr)
theorem TreeS.step {N : Nat} {F F' : Nat → Prop} {w w' : World} {a : Option Addr} {T : List NodeD} (h : TreeS N F w a T) (hN : N ≤ w.heap.size) (hx : Ext F F' w w') (hT : Turned (Wr N F) w w') : TreeS N F' w' a T := fun _ hW => h _ (wr_step hN hx hT hW)
theorem NumsS.step {N : Nat} {F F' : Nat → Prop} {w w' : World} {a : Option Addr} {l : List Int} (h : NumsS N F w a l) (hN : N ≤ w.heap.size) (hx : Ext F F' w w') (hT : Turned (Wr N F) w w') : NumsS N F' w' a l := fun _ hW => h _ (wr_step hN hx hT hW)
structure MkW (St : World → (Nat → Prop) → List TermD → Prop) (N : Nat) (F : Nat → Prop) (L : List TermD) (a : Option Addr) (T : List NodeD) (fa : Option Addr) (fresh : List Int) (w : World) : Prop where
 tz : TzF w
 st : St w F L
 tr : TreeS N F w a T
 nm : NumsS N F w fa fresh
 far : ∀ k, F k → 3 ≤ k
 n3 : 3 ≤ N
 size : N ≤ w.heap.size
section
variable {St : World → (Nat → Prop) → List TermD → Prop} {N : Nat} {F F' : Nat → Prop} {L L' : List TermD} {a fa : Option Addr} {T : List NodeD} {fresh : List Int} {w w' : World}
theorem MkW.step (h : MkW St N F L a T fa fresh w) (hx : Ext F F' w w') (hs : St w' F' L') (hT : Turned F w w') : MkW St N F' L' a T fa fresh w' := by
 have hT2 : Turned (Wr N F) w w' := hT.mono (fun k _ hk => .inl hk)
 have h3 : 3 ≤ w.heap.size := Nat.le_trans h.n3 h.size
 exact ⟨h.tz.below (hT.below h3 h.far) (Nat.le_refl _), hs, h.tr.step h.size hx hT2, h.nm.step h.size hx hT2, fun k hk => (hx k hk).elim (h.far k) (fun h2 => Nat.le_trans h3 h2.1), h.n3, Nat.le_trans h.size hT.size⟩
theorem MkW.turn {G : Nat → Prop} (law : StoreLaw St) (h : MkW St N F L a T fa fresh w) (hT : Turned G w w') (hd : ∀ k, F k → ¬ G k) (hG : ∀ k, G k → N ≤ k) : MkW St N F L a T fa fresh w' := by
 have hT2 : Turned (Wr N F) w w' := hT.mono (fun k _ hk => .inr (hG k hk))
 have h3 : 3 ≤ w.heap.size := Nat.le_trans h.n3 h.size
 exact ⟨h.tz.below (hT.below h3 (fun k hk => Nat.le_trans h.n3 (hG k hk))) (Nat.le_refl _), law.kept h.st hT hd, h.tr.step h.size (Ext.refl _ _ _) hT2, h.nm.step h.size (Ext.refl _ _ _) hT2, h.far, h.n3, Nat.le_trans h.size hT.size⟩
theorem MkW.new (law : StoreLaw St) (h : MkW St N F L a T fa fresh w) (hb : Below w.heap.size w w') : MkW St N F L a T fa fresh w' :=
 h.turn law (Turned.new (fun _ => False) hb) (fun _ _ h => h) (fun _ h => h.elim)
theorem MkW.drew (law : StoreLaw St) (h : MkW St N F L a T fa fresh w) : MkW St N F L a T fa fresh w.drew := h.new law ⟨rfl, rfl, rfl, Nat.le_refl _, fun _ _ => rfl⟩
theorem MkW.box (law : StoreLaw St) (h : MkW St N F L a T fa fresh w) {k : Nat} (hk : N ≤ k) (hF : ¬ F k) (o : Nat) (v : Value) : MkW St N F L a T fa fresh (w.setCell ⟨k, o, none⟩ v) :=
 h.turn law (Turned.setCell (F := fun j => j = k) (Turned.refl _ _) (p := ⟨k, o, none⟩) (fun _ => rfl) v) (fun j hj e => hF (e ▸ hj)) (fun j e => e ▸ hk)
end
def slV (s : SealP) : List Value := [.int .i64 s.1, .int .i64 s.2.1, .int .i64 s.2.2]
abbrev OwnS (v : Value) (l : List SealP) (w : World) : Prop := w.ownsRow 0 143 3 v l.length (l.flatMap slV)
theorem seal_cells (w : World) (s : SealP) (t : TypeId) : ∀ j u, (slV s)[j]? = some u → (w.alloc (.cells #[.int .i64 s.1, .int .i64 s.2.1, .int .i64 s.2.2] t)).cell? ((⟨w.heap.size, 0, none⟩ : Addr).add j) = some u := by
 intro j u h
 have hr := rAl (w := w) #[.int .i64 s.1, .int .i64 s.2.1, .int .i64 s.2.2] t (0, 0)
 rw [add_plain', Nat.zero_add, cRw hr]
 match j, h with
 | 0, h => exact h
 | 1, h => exact h
 | 2, h => exact h
theorem seal_one (s : SealP) : ∀ u ∈ slV s, u.oneCell' = true := by
 intro u hu
 simp [slV] at hu
 rcases hu with rfl | rfl | rfl <;> rfl
theorem rseal_any (r : Nat) (F : Nat → Prop) (L : List TermD) (x y : Int) (ht : (sealT x y).ok) (hG : Good L) (hl : L.length < 1048576) (w : World) (h : RefStore w r F L) :
    Calls Tryz.prog 62 #[.pointer (some ⟨r, 0, none⟩), .int .i64 x, .int .i64 y] w (RPost r F (makeL L (sealT x y)) (.int .i64 (makeN L (sealT x y))) w) := by
 have hmake := fun W hW => rmake_any r F L (sealT x y) ht hG hl W hW
 have Hmake := hQ hmake; clear hmake
 have H := hQ h; clear h
 have Hl := hQ hl; clear hl
 clear hG ht
 go_enter Tryz.func62, Tryz.ntmps62
 go_wp2_with fail
 refine (Hmake.out _ H.out).mono ?_
 rintro e w1 ⟨rfl, F', hx, hs, hT⟩
 have Hx := hQ hx; clear hx
 have Hs := hQ hs; clear hs
 have HT := hQ hT; clear hT
 go_wp2
 go_ret
 exact ⟨rfl, F', Hx.out, Hs.out, HT.out⟩
end
section
open Go Go.RowKit
structure MkIn (St : World → (Nat → Prop) → List TermD → Prop) (N : Nat) (F F' : Nat → Prop) (a : Option Addr) (T : List NodeD) (fa : Option Addr) (fresh : List Int) (kl : List KeyP) (ps : List Int) (ss : List SealP) (L : List TermD) (vk vp vs : Value) (w1 wr : World) : Prop where
 mw : MkW St N F' L a T fa fresh wr
 base : N ≤ w1.heap.size
 ext : Ext F F' w1 wr
 tur : Turned F w1 wr
 kown : wr.ownsRow 0 123 2 vk kl.length (kl.flatMap keyV)
 pown : OwnI vp ps wr
 sown : OwnS vs ss wr
 kout : ∀ g, vk.ownBlock = some g → w1.heap.size ≤ g ∧ ¬ F' g
 pout : ∀ g, vp.ownBlock = some g → w1.heap.size ≤ g ∧ ¬ F' g
 sout : ∀ g, vs.ownBlock = some g → w1.heap.size ≤ g ∧ ¬ F' g
 kp : ∀ g, vk.ownBlock = some g → vp.ownBlock ≠ some g
 ks : ∀ g, vk.ownBlock = some g → vs.ownBlock ≠ some g
 pS : ∀ g, vp.ownBlock = some g → vs.ownBlock ≠ some g
section
variable {St : World → (Nat → Prop) → List TermD → Prop} {N : Nat} {F F' F'' : Nat → Prop} {L L' : List TermD} {a fa : Option Addr} {T : List NodeD} {fresh : List Int} {kl : List KeyP} {ps : List Int} {ss : List SealP} {vk vp vs : Value} {w1 wr w2 w3 w5 : World}
theorem MkIn.klen (h : MkIn St N F F' a T fa fresh kl ps ss L vk vp vs w1 wr) : ∃ a c, vk = .slice a kl.length c := by
 rcases h.kown.2 with ⟨e, h2⟩ | ⟨g, cap, cur, e, _⟩
 · exact ⟨none, 0, by rw [e, h2]⟩
 · exact ⟨_, _, e⟩
theorem MkIn.plen (h : MkIn St N F F' a T fa fresh kl ps ss L vk vp vs w1 wr) : ∃ a c, vp = .slice a ps.length c := let ⟨a, c, e, _⟩ := ownI_len h.pown; ⟨a, c, e⟩
theorem MkIn.slen (h : MkIn St N F F' a T fa fresh kl ps ss L vk vp vs w1 wr) : ∃ a c, vs = .slice a ss.length c := by
 rcases h.sown.2 with ⟨e, h2⟩ | ⟨g, cap, cur, e, _⟩
 · exact ⟨none, 0, by rw [e, h2]⟩
 · exact ⟨_, _, e⟩
theorem MkIn.start (law : StoreLaw St) (h : MkW St N F L a T fa fresh w1) : MkIn St N F F a T fa fresh [] [] [] L (.slice none 0 0) (.slice none 0 0) (.slice none 0 0) w1 w1 := by
 have n0 : ∀ g, (Value.slice none 0 0).ownBlock = some g → False := fun g hg => by simp [Value.ownBlock] at hg
 exact ⟨h, h.size, Ext.refl _ _ _, Turned.refl _ _, ⟨rfl, .inl ⟨rfl, rfl⟩⟩, ownI_nil _, ⟨rfl, .inl ⟨rfl, rfl⟩⟩, fun g hg => (n0 g hg).elim, fun g hg => (n0 g hg).elim, fun g hg => (n0 g hg).elim, fun g hg => (n0 g hg).elim, fun g hg => (n0 g hg).elim, fun g hg => (n0 g hg).elim⟩
theorem MkIn.store (h : MkIn St N F F' a T fa fresh kl ps ss L vk vp vs w1 wr) (hx : Ext F' F'' wr w2) (hs : St w2 F'' L') (hT : Turned F' wr w2) : MkIn St N F F'' a T fa fresh kl ps ss L' vk vp vs w1 w2 := by
 have hout : ∀ g, g < wr.heap.size → ¬ F' g → ¬ F'' g := fun g hg hn h2 => (hx g h2).elim hn (fun h3 => by omega)
 have hkl : ∀ g, vk.ownBlock = some g → g < wr.heap.size := fun g hg => (h.kown.lt g hg).2
 have hpl : ∀ g, vp.ownBlock = some g → g < wr.heap.size := fun g hg => ownI_lt h.pown hg
 have hsl : ∀ g, vs.ownBlock = some g → g < wr.heap.size := fun g hg => (h.sown.lt g hg).2
 refine ⟨h.mw.step hx hs hT, h.base, h.ext.trans hx h.tur.size hT.size, h.tur.trans hT (fun k hk hf => (h.ext k hf).elim id (fun h2 => by omega)), oKp h.kown hT (fun g hg => (h.kout g hg).2), oIk h.pown hT (fun g hg => (h.pout g hg).2), oKp h.sown hT (fun g hg => (h.sout g hg).2), ?_, ?_, ?_, h.kp, h.ks, h.pS⟩
 · exact fun g hg => ⟨(h.kout g hg).1, hout g (hkl g hg) (h.kout g hg).2⟩
 · exact fun g hg => ⟨(h.pout g hg).1, hout g (hpl g hg) (h.pout g hg).2⟩
 · exact fun g hg => ⟨(h.sout g hg).1, hout g (hsl g hg) (h.sout g hg).2⟩
theorem MkIn.local (law : StoreLaw St) (h : MkIn St N F F' a T fa fresh kl ps ss L vk vp vs w1 wr) {G : Nat → Prop} (hT : Turned G wr w2) (hG : ∀ k, G k → w1.heap.size ≤ k ∧ ¬ F' k) :
    MkW St N F' L a T fa fresh w2 ∧ Ext F F' w1 w2 ∧ Turned F w1 w2 := by
 refine ⟨h.mw.turn law hT (fun k hk hg => (hG k hg).2 hk) (fun k hg => Nat.le_trans h.base (hG k hg).1), fun k hk => (h.ext k hk).imp id (fun h2 => ⟨h2.1, Nat.lt_of_lt_of_le h2.2 hT.size⟩), h.tur.trans hT (fun k hk hg => by have := (hG k hg).1; omega)⟩
theorem MkIn.new (law : StoreLaw St) (h : MkIn St N F F' a T fa fresh kl ps ss L vk vp vs w1 wr) (hb : Below wr.heap.size wr w2) : MkIn St N F F' a T fa fresh kl ps ss L vk vp vs w1 w2 := by
 obtain ⟨h1, h2, h3⟩ := h.local law (Turned.new (fun _ => False) hb) (fun _ h => h.elim)
 exact ⟨h1, h.base, h2, h3, ownsRow_below h.kown hb, ownI_below h.pown hb, ownsRow_below h.sown hb, h.kout, h.pout, h.sout, h.kp, h.ks, h.pS⟩
theorem MkIn.key (law : StoreLaw St) (h : MkIn St N F F' a T fa fresh kl ps ss L vk vp vs w1 wr) {k : KeyP} {g c : Nat} (hb : Below wr.heap.size wr w3)
    (hown : w5.ownsRow 0 123 2 (.slice (some ⟨g, 0, none⟩) (kl.length + 1) c) (kl.length + 1) (kl.flatMap keyV ++ keyV k)) (hgrow : w3.grownBy w5 vk.ownBlock) (hat : vk.ownBlock = some g ∨ g = w3.heap.size) :
    MkIn St N F F' a T fa fresh (kl ++ [k]) ps ss L (.slice (some ⟨g, 0, none⟩) (kl.length + 1) c) vp vs w1 w5 := by
 have h3 := h.new law hb
 have hT : Turned (fun x => vk.ownBlock = some x) w3 w5 := (Turned.refl (fun x => vk.ownBlock = some x) w3).grown hgrow (fun x _ e => e)
 obtain ⟨e1, e2, e3⟩ := h3.local law hT h3.kout
 have hg : w1.heap.size ≤ g ∧ ¬ F' g ∧ vp.ownBlock ≠ some g ∧ vs.ownBlock ≠ some g := by
  rcases hat with e | e
  · exact ⟨(h.kout g e).1, (h.kout g e).2, h.kp g e, h.ks g e⟩
  · refine ⟨by have := h3.tur.size; omega, fun hf => ?_, fun hf => ?_, fun hf => ?_⟩
    · have := law.lt h3.mw.st g hf; omega
    · have := ownI_lt h3.pown hf; omega
    · have := (h3.sown.lt g hf).2; omega
 refine ⟨e1, h.base, e2, e3, by rw [List.length_append, List.flatMap_append]; simpa using hown, oIk h3.pown hT (fun x hx e => h.kp x e hx), oKp h3.sown hT (fun x hx e => h.ks x e hx), ?_, h.pout, h.sout, ?_, ?_, h.pS⟩
 all_goals
  intro x hx
  obtain rfl : g = x := by simpa [Value.ownBlock] using hx
 · exact ⟨hg.1, hg.2.1⟩
 · exact hg.2.2.1
 · exact hg.2.2.2
theorem MkIn.pub (law : StoreLaw St) (h : MkIn St N F F' a T fa fresh kl ps ss L vk vp vs w1 wr) {x : Int} {g c : Nat} (hb : Below wr.heap.size wr w3)
    (hown : w5.ownsRow 0 3 1 (.slice (some ⟨g, 0, none⟩) (ps.length + 1) c) (ps.length + 1) (ps.map intV ++ [intV x])) (hgrow : w3.grownBy w5 vp.ownBlock) (hat : vp.ownBlock = some g ∨ g = w3.heap.size) :
    MkIn St N F F' a T fa fresh kl (ps ++ [x]) ss L vk (.slice (some ⟨g, 0, none⟩) (ps.length + 1) c) vs w1 w5 := by
 have h3 := h.new law hb
 have hT : Turned (fun x => vp.ownBlock = some x) w3 w5 := (Turned.refl (fun x => vp.ownBlock = some x) w3).grown hgrow (fun x _ e => e)
 obtain ⟨e1, e2, e3⟩ := h3.local law hT h3.pout
 have hg : w1.heap.size ≤ g ∧ ¬ F' g ∧ vk.ownBlock ≠ some g ∧ vs.ownBlock ≠ some g := by
  rcases hat with e | e
  · exact ⟨(h.pout g e).1, (h.pout g e).2, fun e2 => h.kp g e2 e, h.pS g e⟩
  · refine ⟨by have := h3.tur.size; omega, fun hf => ?_, fun hf => ?_, fun hf => ?_⟩
    · have := law.lt h3.mw.st g hf; omega
    · have := (h3.kown.lt g hf).2; omega
    · have := (h3.sown.lt g hf).2; omega
 have hown' : OwnI (.slice (some ⟨g, 0, none⟩) (ps.length + 1) c) (ps ++ [x]) w5 := by
  unfold OwnI
  rw [List.length_append, List.map_append]
  exact hown
 refine ⟨e1, h.base, e2, e3, oKp h3.kown hT (fun x hx => h.kp x hx), hown', oKp h3.sown hT (fun x hx e => h.pS x e hx), h.kout, ?_, h.sout, ?_, h.ks, ?_⟩
 · intro x hx
   obtain rfl : g = x := by simpa [Value.ownBlock] using hx
   exact ⟨hg.1, hg.2.1⟩
 · intro x hx e
   obtain rfl : g = x := by simpa [Value.ownBlock] using e
   exact hg.2.2.1 hx
 · intro x hx
   obtain rfl : g = x := by simpa [Value.ownBlock] using hx
   exact hg.2.2.2
theorem MkIn.sl (law : StoreLaw St) (h : MkIn St N F F' a T fa fresh kl ps ss L vk vp vs w1 wr) {s : SealP} {g c : Nat} (hb : Below wr.heap.size wr w3)
    (hown : w5.ownsRow 0 143 3 (.slice (some ⟨g, 0, none⟩) (ss.length + 1) c) (ss.length + 1) (ss.flatMap slV ++ slV s)) (hgrow : w3.grownBy w5 vs.ownBlock) (hat : vs.ownBlock = some g ∨ g = w3.heap.size) :
    MkIn St N F F' a T fa fresh kl ps (ss ++ [s]) L vk vp (.slice (some ⟨g, 0, none⟩) (ss.length + 1) c) w1 w5 := by
 have h3 := h.new law hb
 have hT : Turned (fun x => vs.ownBlock = some x) w3 w5 := (Turned.refl (fun x => vs.ownBlock = some x) w3).grown hgrow (fun x _ e => e)
 obtain ⟨e1, e2, e3⟩ := h3.local law hT h3.sout
 have hg : w1.heap.size ≤ g ∧ ¬ F' g ∧ vk.ownBlock ≠ some g ∧ vp.ownBlock ≠ some g := by
  rcases hat with e | e
  · exact ⟨(h.sout g e).1, (h.sout g e).2, fun e2 => h.ks g e2 e, fun e2 => h.pS g e2 e⟩
  · refine ⟨by have := h3.tur.size; omega, fun hf => ?_, fun hf => ?_, fun hf => ?_⟩
    · have := law.lt h3.mw.st g hf; omega
    · have := (h3.kown.lt g hf).2; omega
    · have := ownI_lt h3.pown hf; omega
 refine ⟨e1, h.base, e2, e3, oKp h3.kown hT (fun x hx => h.ks x hx), oIk h3.pown hT (fun x hx => h.pS x hx), by unfold OwnS; rw [List.length_append, List.flatMap_append]; simpa using hown, h.kout, h.pout, ?_, h.kp, ?_, ?_⟩
 · intro x hx
   obtain rfl : g = x := by simpa [Value.ownBlock] using hx
   exact ⟨hg.1, hg.2.1⟩
 · intro x hx e
   obtain rfl : g = x := by simpa [Value.ownBlock] using e
   exact hg.2.2.1 hx
 · intro x hx e
   obtain rfl : g = x := by simpa [Value.ownBlock] using e
   exact hg.2.2.2 hx
theorem MkIn.keys (law : StoreLaw St) (h : MkIn St N F F' a T fa fresh kl ps ss L vk vp vs w1 wr) {k2 : List KeyP} {v2 : Value} (hb : Below wr.heap.size wr w2) (hv : OwnK v2 k2 w2) (hf : ∀ g, v2.ownBlock = some g → wr.heap.size ≤ g) :
    MkIn St N F F' a T fa fresh k2 ps ss L v2 vp vs w1 w2 := by
 have h3 := h.new law hb
 have hs := h.tur.size
 exact ⟨h3.mw, h.base, h3.ext, h3.tur, hv, h3.pown, h3.sown, fun g hg => ⟨by have := hf g hg; omega, fun hF => by have := hf g hg; have := law.lt h.mw.st g hF; omega⟩, h.pout, h.sout, fun g hg e => by have := hf g hg; have := ownI_lt h.pown e; omega, fun g hg e => by have := hf g hg; have := (h.sown.lt g e).2; omega, h.pS⟩
end
end
section
open Go Go.RowKit
structure TwD (N0 : Nat) (nd : Nat → NodeD) (k : Nat) (v : Value) (U : Nat → Value) (wr : World) : Prop where
 own : wr.ownsRow 0 125 4 v k ((List.range k).flatMap fun i => (nd i).vals (U i))
 far : ∀ g, v.ownBlock = some g → N0 ≤ g
 um : ∀ i, i < k → OwnI (U i) (nd i).um wr ∧ ∀ b, (U i).ownBlock = some b → N0 ≤ b ∧ v.ownBlock ≠ some b
 dis : ∀ i j, i < j → j < k → ∀ b, (U i).ownBlock = some b → (U j).ownBlock ≠ some b
theorem TwD.nil (N0 : Nat) (nd : Nat → NodeD) (U : Nat → Value) (w : World) : TwD N0 nd 0 (.slice none 0 0) U w :=
 ⟨⟨rfl, .inl ⟨rfl, rfl⟩⟩, fun g h => by simp [Value.ownBlock] at h, fun i h => by omega, fun i j h1 h2 => by omega⟩
theorem TwD.len {N0 : Nat} {nd : Nat → NodeD} {k : Nat} {v : Value} {U : Nat → Value} {wr : World} (h : TwD N0 nd k v U wr) : ∃ a c, v = .slice a k c := by
 rcases h.own.2 with ⟨e, h2⟩ | ⟨g, cap, cur, e, _⟩
 · exact ⟨none, 0, by rw [e, h2]⟩
 · exact ⟨_, _, e⟩
theorem TwD.lt {N0 : Nat} {nd : Nat → NodeD} {k : Nat} {v : Value} {U : Nat → Value} {wr : World} (h : TwD N0 nd k v U wr) {g : Nat} (hg : v.ownBlock = some g) : g < wr.heap.size := (h.own.lt g hg).2
theorem TwD.new {N0 : Nat} {nd : Nat → NodeD} {k : Nat} {v : Value} {U : Nat → Value} {w w' : World} (h : TwD N0 nd k v U w) (hb : Below w.heap.size w w') : TwD N0 nd k v U w' :=
 ⟨ownsRow_below h.own hb, h.far, fun i hi => ⟨ownI_below (h.um i hi).1 hb, (h.um i hi).2⟩, h.dis⟩
theorem flat_upd (nd : Nat → NodeD) (U : Nat → Value) (k : Nat) (val : Value) :
    ((List.range (k + 1)).flatMap fun i => (nd i).vals (updF U k val i)) = ((List.range k).flatMap fun i => (nd i).vals (U i)) ++ (nd k).vals val := by
 rw [List.range_succ, List.flatMap_append]
 congr 1
 · have key : ∀ l : List Nat, (∀ i ∈ l, i < k) → (l.flatMap fun i => (nd i).vals (updF U k val i)) = l.flatMap fun i => (nd i).vals (U i) := by
     intro l
     induction l with
     | nil => intro _; rfl
     | cons x r ih =>
      intro h
      have hx := h x (by simp)
      rw [List.flatMap_cons, List.flatMap_cons, ih (fun i hi => h i (by simp [hi])), uOt (by omega)]
   exact key _ (fun i hi => List.mem_range.1 hi)
 · simp [uSm]
theorem TwD.more {N0 : Nat} {nd : Nat → NodeD} {k : Nat} {v val : Value} {U : Nat → Value} {w w3 w5 : World} {o : Obj} {g c : Nat} (h : TwD N0 nd k v U w) (hN : N0 ≤ w.heap.size) (hb3 : Below w.heap.size w w3)
    (hval : OwnI val (nd k).um w3) (hvg : ∀ b, val.ownBlock = some b → w.heap.size ≤ b)
    (hown : w5.ownsRow 0 125 4 (.slice (some ⟨g, 0, none⟩) (k + 1) c) (k + 1) (((List.range k).flatMap fun i => (nd i).vals (U i)) ++ (nd k).vals val))
    (hgrow : (w3.alloc o).grownBy w5 v.ownBlock) (hat : v.ownBlock = some g ∨ g = w3.heap.size + 1) :
    TwD N0 nd (k + 1) (.slice (some ⟨g, 0, none⟩) (k + 1) c) (updF U k val) w5 ∧ Below N0 w w5 := by
 have hw3 := h.new hb3
 have hT : Turned (fun b => v.ownBlock = some b) w3 w5 := ((Turned.refl (fun b => v.ownBlock = some b) w3).alloc o).grown hgrow (fun _ _ e => e)
 have hval5 : OwnI val (nd k).um w5 := oIk hval hT (fun b hb e => by have := hvg b hb; have := h.lt e; omega)
 have hvl : ∀ b, val.ownBlock = some b → b < w3.heap.size := fun b hb => ownI_lt hval hb
 refine ⟨⟨by rw [flat_upd]; exact hown, fun b hb => ?_, fun i hi => ?_, fun i j hij hj b h1 h2 => ?_⟩, ?_⟩
 · obtain rfl : g = b := by simpa [Value.ownBlock] using hb
   rcases hat with e | e
   · exact h.far _ e
   · have := hb3.size; omega
 · by_cases e : i = k
   · subst e
     rw [uSm]
     refine ⟨hval5, fun b hb => ⟨Nat.le_trans hN (hvg b hb), fun e => ?_⟩⟩
     obtain rfl : g = b := by simpa [Value.ownBlock] using e
     rcases hat with e2 | e2
     · have := hvg _ hb; have := h.lt e2; omega
     · have := hvl _ hb; omega
   · rw [uOt e]
     have h1 := hw3.um i (by omega)
     refine ⟨oIk h1.1 hT (fun b hb e => (h1.2 b hb).2 e), fun b hb => ⟨(h1.2 b hb).1, fun e => ?_⟩⟩
     obtain rfl : g = b := by simpa [Value.ownBlock] using e
     rcases hat with e2 | e2
     · exact (h1.2 _ hb).2 e2
     · have := ownI_lt h1.1 hb; omega
 · by_cases e : j = k
   · subst e
     rw [uSm] at h2
     rw [uOt (by omega)] at h1
     have := hvg b h2
     have := ownI_lt (h.um i (by omega)).1 h1
     omega
   · rw [uOt e] at h2
     rw [uOt (by omega)] at h1
     exact h.dis i j hij (by omega) b h1 h2
 · exact (hb3.mono hN).trans (hT.below (Nat.le_trans hN hb3.size) (fun b e => h.far b e))
theorem TwD.tree {N0 : Nat} {nd : Nat → NodeD} {n : Nat} {v : Value} {U : Nat → Value} {w : World} (h : TwD N0 nd n v U w) (hn : 0 < n) : ∃ g cap, v = .slice (some ⟨g, 0, none⟩) n cap ∧ TreeO N0 w g n cap nd U := by
 rcases h.own.2 with ⟨_, h2⟩ | ⟨g, cap, cur, rfl, hB, hg, h4, h5, hs, ht⟩
 · omega
 · refine ⟨g, cap, rfl, ⟨cur, hg, hs, fun i hi => ?_⟩, h4, h5, h.far g rfl, fun i hi => ⟨(h.um i hi).1, fun b hb => ⟨((h.um i hi).2 b hb).1, fun e => ((h.um i hi).2 b hb).2 (by rw [e]; rfl)⟩⟩, h.dis⟩
   have hm : (i + 1) * 4 ≤ n * 4 := Nat.mul_le_mul_right 4 hi
   have key : ∀ j, j < 4 → cur[i * 4 + j]? = ((nd i).vals (U i))[j]? := fun j hj => by
    have e := congrArg (fun z => z[i * 4 + j]?) ht
    simp only [List.getElem?_take] at e
    rw [if_pos (by omega)] at e
    rw [flat_get (fun i => (nd i).vals (U i)) 4 (fun _ => rfl) n i j hi hj] at e
    simpa using e
   exact ⟨key 0 (by omega), key 1 (by omega), key 2 (by omega), key 3 (by omega)⟩
end
end Go.Proofs.YtedpljclnpiggaaGreatDoor
