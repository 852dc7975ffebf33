/- The document's index at trees of one and of two leaves. (printed by bin/gen_ridx.py) -/
import Derived.Test.YtedpljclnpiggaaGreatDoorV26
import Derived.Test.YtedpljclnpiggaaGreatDoorV27
import Derived.Deep.DeepCutAuto
import Derived.Deep.CutBlock
set_option linter.unusedVariables false
set_option linter.unusedSimpArgs false
set_option maxRecDepth 100000
set_option maxHeartbeats 12800000
namespace Go.Proofs.YtedpljclnpiggaaGreatDoor
section
open Go Go.RowKit
def MkPost (s : Nat) (F : Nat → Prop) (w : World) (e : Ending) (w' : World) : Prop :=
 ∃ g gk ck sb cs F', e = .returned (.tuple #[.agg #[.slice (some ⟨g, 0, none⟩) 3 3], .slice gk 2 ck, .slice (some ⟨sb, 0, none⟩) 1 cs, .int .i64 6, .int .i64 0]) ∧ StT F' w' g 8 5 5 10 4 6 0 ∧
  StC F' w' sb 0 (.int .i64 1) ∧ StC F' w' sb 1 (.int .i64 2) ∧ StC F' w' sb 2 (.int .i64 11) ∧ Ext F F' w w' ∧ ProgStore w' s F' L4 ∧ Turned F w w' ∧ 1 ≤ cs
structure MkLow (B s b c q g7 gl gt gu cu N : Nat) (F0 : Nat → Prop) (w0 : World) (F : Nat → Prop) (L : List TermD) (w : World) : Prop where
 lv : Lv B s F L w
 tr : StT F w b 3 5 0 0 4 6 0
 bx : Stays F w q (.cells #[.slice (some ⟨b, 0, none⟩) 3 c] 44 (0, 0))
 rs : Stays F w (q + 1) (.cells #[.slice none 0 0] 44 (0, 0))
 x0 : StC F w g7 0 (.int .i64 0)
 x1 : StC F w g7 1 (.int .i64 1)
 l0 : StC F w gl 0 (.int .i64 1)
 l1 : StC F w gl 1 (.int .i64 5)
 l2 : StC F w gl 2 (.int .i64 6)
 t0 : StC F w gt 0 (.slice (some ⟨gu, 0, none⟩) 1 cu)
 u0 : StC F w gu 0 (.int .i64 2)
 fp : Ext F0 F w0 w ∧ Turned F0 w0 w
 low : (q + 1 < N ∧ b < N ∧ g7 < N) ∧ gl < N ∧ gt < N ∧ gu < N
 bN : B ≤ N
 wN : w0.heap.size ≤ N
theorem MkLow.step {B s b c q g7 gl gt gu cu N : Nat} {F0 F F' : Nat → Prop} {w0 w w' : World} {L L' : List TermD} (h : MkLow B s b c q g7 gl gt gu cu N F0 w0 F L w) (hx : Ext F F' w w') (hs : ProgStore w' s F' L') (hT : Turned F w w') :
    MkLow B s b c q g7 gl gt gu cu N F0 w0 F' L' w' :=
 ⟨h.lv.step hx hs hT, h.tr.step hx hT, h.bx.step hx hT, h.rs.step hx hT, h.x0.step hx hT, h.x1.step hx hT, h.l0.step hx hT, h.l1.step hx hT, h.l2.step hx hT, h.t0.step hx hT, h.u0.step hx hT, foot_trans h.fp.1 h.fp.2 hx hT, h.low, h.bN, h.wN⟩
theorem MkLow.turn {B s b c q g7 gl gt gu cu N : Nat} {F0 F G : Nat → Prop} {w0 w w' : World} {L : List TermD} (h : MkLow B s b c q g7 gl gt gu cu N F0 w0 F L w) (hT : Turned G w w') (hd : ∀ k, F k → ¬ G k) (hG : ∀ k, G k → N ≤ k) :
    MkLow B s b c q g7 gl gt gu cu N F0 w0 F L w' := by
 have hn : ∀ k, k < N → ¬ G k := fun k hk hg => Nat.not_le_of_lt hk (hG k hg)
 obtain ⟨⟨a1, a2, a3⟩, a4, a5, a6⟩ := h.low
 have hx : Ext F0 F w0 w' := fun k hk => (h.fp.1 k hk).imp id fun h2 => ⟨h2.1, Nat.lt_of_lt_of_le h2.2 hT.size⟩
 exact ⟨h.lv.turn hT hd (fun k hk => Nat.le_trans h.bN (hG k hk)), h.tr.turn hT (hn _ a2), h.bx.turn hT (hn _ (by omega)), h.rs.turn hT (hn _ a1), h.x0.turn hT (hn _ a3), h.x1.turn hT (hn _ a3), h.l0.turn hT (hn _ a4), h.l1.turn hT (hn _ a4), h.l2.turn hT (hn _ a4), h.t0.turn hT (hn _ a5), h.u0.turn hT (hn _ a6),
  ⟨hx, h.fp.2.trans hT (fun k hk hg => absurd (hG k hg) (by have := h.wN; omega))⟩, h.low, h.bN, h.wN⟩
theorem MkLow.new {B s b c q g7 gl gt gu cu N : Nat} {F0 F : Nat → Prop} {w0 w w' : World} {L : List TermD} (h : MkLow B s b c q g7 gl gt gu cu N F0 w0 F L w) (hb : Below w.heap.size w w') :
    MkLow B s b c q g7 gl gt gu cu N F0 w0 F L w' := h.turn (Turned.new (fun _ => False) hb) (fun _ _ h => h) (fun _ h => h.elim)
def sealV (a b t : Int) : List Value := [.int .i64 a, .int .i64 b, .int .i64 t]
theorem infoSeal : (Tryz.prog.info? 143).map (fun i => (i.zero, i.size, i.bytes)) = some (some (.agg #[.int .i64 0, .int .i64 0, .int .i64 0]), 3, 24) := by kernel_rfl
theorem sealV_cells (w : World) (a b t : Int) (ty : TypeId) : ∀ j u, (sealV a b t)[j]? = some u → (w.alloc (.cells #[.int .i64 a, .int .i64 b, .int .i64 t] ty)).cell? ((⟨w.heap.size, 0, none⟩ : Addr).add j) = some u := by
 intro j u hj
 have ha : (⟨w.heap.size, 0, none⟩ : Addr).add j = ⟨w.heap.size, j, none⟩ := by unfold Addr.add; split <;> simp_all
 rw [ha, cRw (rAl _ _ _)]
 rw [show (#[.int .i64 a, .int .i64 b, .int .i64 t] : Array Value) = (sealV a b t).toArray from rfl, List.getElem?_toArray]
 exact hj
def MkCut (B s b c q g7 gl gt gu cu N : Nat) (F0 : Nat → Prop) (w0 : World) (v13 v14 v21 : Value) (W : World) : Prop :=
 ∃ gk ck gq cq gs cs F, v13 = .slice (some ⟨gk, 0, none⟩) 2 ck ∧ v14 = .slice (some ⟨gs, 0, none⟩) 1 cs ∧ v21 = .slice (some ⟨gq, 0, none⟩) 2 cq ∧ MkLow B s b c q g7 gl gt gu cu N F0 w0 F L4 W ∧
  StO F W 123 2 v13 2 (keyV (0, 7) ++ keyV (1, 9)) ∧ StO F W 3 1 v21 2 [intV 8, intV 10] ∧ StO F W 143 3 v14 1 (sealV 1 2 11) ∧ N ≤ W.heap.size
def SetCut (q : Nat) (wc : World) (v : Value) (W : World) : Prop :=
 v = .int .i64 0 ∧ ∃ g, W.heap[q + 1]? = some (.cells #[.slice (some ⟨g, 0, none⟩) 3 3] 44 (0, 0)) ∧ T3 W g 8 5 5 10 4 6 0 ∧ wc.heap.size ≤ g ∧ Turned (fun k => k = q + 1) wc W
theorem setcut_mk {q g : Nat} {wc w2 : World} {o : Array Value} (hr : wc.heap[q + 1]? = some (.cells o 44 (0, 0))) (ho : o = #[.slice none 0 0]) (hT : T3 w2 g 8 5 5 10 4 6 0) (hg : wc.heap.size ≤ g) (hb : Below wc.heap.size wc w2) :
    SetCut q wc (.int .i64 0) (w2.setCell ⟨q + 1, 0, none⟩ (.slice (some ⟨g, 0, none⟩) 3 3)) := by
 subst ho
 have hl := (Array.getElem?_eq_some_iff.1 hr).1
 have hr2 := (hb.block (q + 1) hl).trans hr
 refine ⟨rfl, g, rSc hr2 0 _, hT.block (Below.heap_setCell w2 ⟨q + 1, 0, none⟩ _ g (by simp only; omega)), hg, Turned.setCell (F := fun k => k = q + 1) (Turned.new _ hb) (p := ⟨q + 1, 0, none⟩) (fun _ => rfl) _⟩
theorem row_apart {F : Nat → Prop} {w : World} {e t : TypeId} {sz n k g : Nat} {c : Nat} {xs : List Value} {cs : Array Value} (h : StO F w e sz (.slice (some ⟨g, 0, none⟩) (n + 1) c) (n + 1) xs) (hk : w.heap[k]? = some (.cells cs t (0, 0))) (hne : e ≠ t) : g ≠ k := by
 intro e1
 subst e1
 rcases h.own.2 with ⟨e2, _⟩ | ⟨g', cap, cur, e2, _, hg, _⟩
 · simp at e2
 · obtain ⟨rfl, _⟩ : g = g' ∧ c = cap := by simpa using e2
   have h3 := hg.symm.trans hk
   simp only [Option.some.injEq, Obj.cells.injEq] at h3
   exact hne h3.2.1
theorem keys_at {F : Nat → Prop} {w : World} {g n c : Nat} {l : List KeyP} (h : StO F w 123 2 (.slice (some ⟨g, 0, none⟩) n c) n (l.flatMap keyV)) (hn : n = l.length) : KeysAt w (some ⟨g, 0, none⟩) l := by
 intro i hi
 rcases h.own.2 with ⟨_, e2⟩ | ⟨g', cap, cur, e2, _, hg, _, _, _, ht⟩
 · omega
 · obtain ⟨rfl, _⟩ : g = g' ∧ c = cap := by simpa using e2
   have hc : ∀ j, j < 2 → cur[i * 2 + j]? = (keyV (l.getD i (0, 0)))[j]? := fun j hj => by
    rw [← flat2 l i j hi hj, ← ht, List.getElem?_take, if_pos (by omega), Array.getElem?_toList]
   exact ⟨g, 0, rfl, by rw [Nat.zero_add, cRw hg]; exact hc 0 (by omega), by rw [Nat.zero_add, cRw hg]; exact hc 1 (by omega)⟩
theorem ris_two : rsD [(0, 7), (1, 9)] = [(0, 7), (1, 9)] := by decide
theorem two_of {v : Value} {w : World} (h : OwnK v (rsD [(0, 7), (1, 9)]) w) : ∃ a c, v = .slice a 2 c := by
 rcases h.2 with ⟨_, e⟩ | ⟨g, cap, cur, e, _⟩
 · rw [ris_two] at e; simp at e
 · rw [ris_two] at e; exact ⟨_, _, e⟩
theorem five_results (tmps : Array Value) (w : World) (r : Nat) (v : Value) (h4 : tmps.getD 12 undef = .pointer (some ⟨r, 0, none⟩))
    (hg : w.heap[r]? = some (.cells #[v] 44 (0, 0))) : (results Tryz.f22 tmps).run Tryz.prog w = .ok (.tuple #[.agg #[v], tmps.getD 13 undef, tmps.getD 14 undef, tmps.getD 15 undef, tmps.getD 16 undef]) w := by
 have hl := run_loadVar_row (P := Tryz.prog) w r 44 44 #[v] (0, 0) _ hg Tryz.underlying44 rfl (by kernel_rfl)
 have ha : (asAddr (.pointer (some ⟨r, 0, none⟩))).run Tryz.prog w = .ok ⟨r, 0, none⟩ w := by simp [asAddr]
 have hr : Tryz.f22.results = #[.cell 12 44, .tmp 13, .tmp 14, .tmp 15, .tmp 16] := by kernel_rfl
 have h4' : tmps[12]?.getD undef = .pointer (some ⟨r, 0, none⟩) := by simpa using h4
 simp only [results, hr]
 simp [Sem.run_bind, h4', ha, hl]
theorem mk_end {s q gs cs g : Nat} {F F4 : Nat → Prop} {w wc W : World} {va : Option Addr} {vc : Nat} (hTg : T3 wc g 8 5 5 10 4 6 0) (hg : ¬ F4 g) (hgq : g ≠ q + 1) (hseal : StO F4 wc 143 3 (.slice (some ⟨gs, 0, none⟩) 1 cs) 1 (sealV 1 2 11))
    (hps : ProgStore wc s F4 L4) (hfp : Turned F w wc) (hx : Ext F F4 w wc) (hne2 : gs ≠ q + 1) (hq : w.heap.size ≤ q) (hqF : ¬ F4 (q + 1)) (hT : Turned (fun k => k = q + 1) wc W) :
    MkPost s F w (.returned (.tuple #[.agg #[.slice (some ⟨g, 0, none⟩) 3 3], .slice va 2 vc, .slice (some ⟨gs, 0, none⟩) 1 cs, .int .i64 6, .int .i64 0])) W := by
 have hs2 := hseal.turn hT (fun g' hg' e => hne2 (by have h1 : gs = g' := by simpa [Value.ownBlock] using hg'
                                                     omega))
 rcases hs2.own.2 with ⟨e, _⟩ | ⟨g', cap, cur, e, _, hg2, h1, _, _, ht⟩
 · simp at e
 · obtain ⟨rfl, rfl⟩ : gs = g' ∧ cs = cap := by simpa using e
   have hc : ∀ j, j < 3 → cur[j]? = (sealV 1 2 11)[j]? := fun j hj => by rw [← ht, List.getElem?_take, if_pos (by omega), Array.getElem?_toList]
   have ho : ¬ F4 gs := hseal.out gs rfl
   exact ⟨g, va, vc, gs, cs, F4, rfl, ⟨hTg.block (hT.block g hTg.lt hgq), hg⟩, ⟨(cRw hg2 0).trans (hc 0 (by omega)), ho⟩, ⟨(cRw hg2 1).trans (hc 1 (by omega)), ho⟩, ⟨(cRw hg2 2).trans (hc 2 (by omega)), ho⟩,
    fun k hk => (hx k hk).imp id fun h2 => ⟨h2.1, Nat.lt_of_lt_of_le h2.2 hT.size⟩, hps.kept hT (fun k hk e => hqF (e ▸ hk)), hfp.trans hT (fun k hk e => by omega), h1⟩
theorem lex_do {P : Program} {ops : Array Oper} {C : World → Prop} {G : World → World → Prop} {Q : Act → World → Prop} {ks : List Kind} {rest : List Oper} {o : Oper} {a : Act} {fs : List (Option Tmp × (World → Prop))}
    (hrun : ∀ W, C W → factsFor ops o fs W → opRuns P ops o a W fun v w' => G W w' ∧ C w' ∧ v = undef) (hnext : lexWalk P ops C G Q ks rest (a.put o.dst undef) fs) : lexWalk P ops C G Q (.fix undef :: ks) (o :: rest) a fs :=
 ⟨fun W hC hf => hrun W hC hf, hnext⟩
theorem key_grown {F : Nat → Prop} {w w' : World} {gk ck g gq c2 : Nat} {xs ys : List Value} (h : StO F w 123 2 (.slice (some ⟨gk, 0, none⟩) 1 ck) 1 xs) (hl : ∀ k, F k → k < w.heap.size) (hown : w'.ownsRow 0 123 2 (.slice (some ⟨g, 0, none⟩) (1 + 1) c2) (1 + 1) ys)
    (hat : (Value.slice (some ⟨gk, 0, none⟩) 1 ck).ownBlock = some g ∨ g = w.heap.size + 1) (hq : gk < gq) (hql : gq < w.heap.size) :
    StO F w' 123 2 (.slice (some ⟨g, 0, none⟩) (1 + 1) c2) (1 + 1) ys ∧ (Value.slice (some ⟨g, 0, none⟩) (1 + 1) c2).ownBlock ≠ some gq := by
 refine ⟨⟨hown, fun k hk hf => ?_⟩, fun e => ?_⟩
 · have h1 : g = k := by simpa [Value.ownBlock] using hk
   have h2 := hl k hf
   rcases hat with h3 | h3
   · exact h.out k (by rw [h3, h1]) hf
   · omega
 · have h1 : g = gq := by simpa [Value.ownBlock] using e
   rcases hat with h3 | h3
   · have h4 : gk = g := by simpa [Value.ownBlock] using h3
     omega
   · omega
theorem pub_grown {F : Nat → Prop} {w w' : World} {gk ck g c2 : Nat} {xs ys : List Value} (h : StO F w 3 1 (.slice (some ⟨gk, 0, none⟩) 1 ck) 1 xs) (hl : ∀ k, F k → k < w.heap.size) (hown : w'.ownsRow 0 3 1 (.slice (some ⟨g, 0, none⟩) (1 + 1) c2) (1 + 1) ys)
    (hat : (Value.slice (some ⟨gk, 0, none⟩) 1 ck).ownBlock = some g ∨ g = w.heap.size + 1) :
    StO F w' 3 1 (.slice (some ⟨g, 0, none⟩) (1 + 1) c2) (1 + 1) ys := by
 refine ⟨hown, fun k hk hf => ?_⟩
 have h1 : g = k := by simpa [Value.ownBlock] using hk
 have h2 := hl k hf
 rcases hat with h3 | h3
 · exact h.out k (by rw [h3, h1]) hf
 · omega
theorem make_3 (B s b c : Nat) (F : Nat → Prop) (w : World) (h : Lv B s F L0 w) (hT : StT F w b 3 5 0 0 4 6 0) :
    Calls Tryz.prog 22 #[.pointer (some ⟨s, 0, none⟩), .agg #[.slice (some ⟨b, 0, none⟩) 3 c], .int .i64 0, .int .i64 5, .int .i64 1, .slice none 0 0] w (MkPost s F w) := by
 obtain ⟨i0, hi0, hz0, hz1, hz2⟩ := info_parts infoI
 obtain ⟨iS, hiS, hs0, hs1, hs2⟩ := info_parts infoSeal
 obtain ⟨iK, hiK, hk0, hk1, hk2⟩ := info_parts infoKey
 have hb0 := (Below.refl w.heap.size w).alloc (Nat.le_refl _) (.cells #[.slice (some ⟨b, 0, none⟩) 3 c] 44)
 have hb1 := hb0.alloc hb0.size (.cells #[.slice none 0 0] 44)
 have hct : ((w.alloc (.cells #[.slice (some ⟨b, 0, none⟩) 3 c] 44)).alloc (.cells #[.slice none 0 0] 44)).heap[w.heap.size]? = some (.cells #[.slice (some ⟨b, 0, none⟩) 3 c] 44 (0, 0)) := (heap_alloc_old _ _ (by simp)).trans (rAl _ _ _)
 have hcr : ((w.alloc (.cells #[.slice (some ⟨b, 0, none⟩) 3 c] 44)).alloc (.cells #[.slice none 0 0] 44)).heap[w.heap.size + 1]? = some (.cells #[.slice none 0 0] 44 (0, 0)) := by
  have := rAl (w := w.alloc (.cells #[.slice (some ⟨b, 0, none⟩) 3 c] 44)) #[.slice none 0 0] 44 (0, 0)
  simpa using this
 have hFl := h.ps.lt
 have hLv := h.new hb1
 have hTT := hT.new hb1
 have hsb : Stays F _ w.heap.size _ := ⟨hct, fun hf => by have := hFl _ hf; omega⟩
 have hsr : Stays F _ (w.heap.size + 1) _ := ⟨hcr, fun hf => by have := hFl _ hf; omega⟩
 have hX : Turned F w ((w.alloc (.cells #[.slice (some ⟨b, 0, none⟩) 3 c] 44)).alloc (.cells #[.slice none 0 0] 44)) := Turned.new F hb1
 have Hlv := hQ hLv; clear hLv
 have HT := hQ hTT; clear hTT
 have Hsb := hQ hsb; clear hsb hct
 have Hsr := hQ hsr; clear hsr hcr
 have HX := hQ hX; clear hX
 clear h hT hb0 hb1 hFl
 go_enter Tryz.func22, Tryz.ntmps22
 go_wp2_with fail
 refine (palive_any s F L0 _ Hlv.out.ps).mono ?_
 rintro e wx ⟨rfl, hwx⟩
 subst wx
 obtain ⟨q, hq⟩ : ∃ q, q = w.heap.size := ⟨_, rfl⟩
 rw [← hq] at Hsb Hsr ⊢
 have Hq := hQ hq; clear hq
 generalize (w.alloc (.cells #[.slice (some ⟨b, 0, none⟩) 3 c] 44)).alloc (.cells #[.slice none 0 0] 44) = w1 at Hlv HT Hsb Hsr HX ⊢
 go_wp2_with fail
 refine (sis_any s F L0 1 _ Hlv.out.ps (by decide)).mono ?_
 rintro e w2 ⟨rfl, hb2⟩
 have Hlv2 := hQ (Hlv.out.new hb2); clear Hlv
 have HT2 := hQ (HT.out.new hb2); clear HT
 have Hsb2 := hQ (Hsb.out.new hb2); clear Hsb
 have Hsr2 := hQ (Hsr.out.new hb2); clear Hsr
 have HX2 := hQ (HX.out.trans (Turned.new F hb2) (fun _ _ h => h)); clear HX hb2
 rw [show thereD L0.length 1 = true from by decide]
 have k := cRw Hsb2.out.at' 0
 go_wp2_with fail
 refine (held_3 s b c F L0 (by decide) 3 5 0 0 4 6 0 (by decide) (.inl rfl) (by decide) (by omega) (by omega) (by omega) (by omega) (by omega) _ Hlv2.out.tz Hlv2.out.sz Hlv2.out.ps HT2.out.at').mono ?_
 rintro e w3 ⟨rfl, hb3⟩
 clear k
 have Hlv3 := hQ (Hlv2.out.new hb3); clear Hlv2
 have HT3 := hQ (HT2.out.new hb3); clear HT2
 have Hsb3 := hQ (Hsb2.out.new hb3); clear Hsb2
 have Hsr3 := hQ (Hsr2.out.new hb3); clear Hsr2
 have HX3 := hQ (HX2.out.trans (Turned.new F hb3) (fun _ _ h => h)); clear HX2 hb3
 have k := cRw Hsb3.out.at' 0
 go_wp2_with fail
 refine (path_0 b c 3 5 0 0 4 6 0 (by omega) (by omega) (by omega) (by omega) (by omega) (by omega) (by omega) (by omega) _ Hlv3.out.tz Hlv3.out.sz HT3.out.at').mono ?_
 rintro e w4 ⟨gp, cp, rfl, cgp, hgp, hb4⟩
 clear k
 have hFl := Hlv3.out.ps.lt
 have Hpa := hQ (show StC F w4 gp 0 (.int .i64 1) from ⟨cgp, fun hf => by have := hFl _ hf; omega⟩)
 have Hlv4 := hQ (Hlv3.out.new hb4); clear Hlv3
 have HT4 := hQ (HT3.out.new hb4); clear HT3
 have Hsb4 := hQ (Hsb3.out.new hb4); clear Hsb3
 have Hsr4 := hQ (Hsr3.out.new hb4); clear Hsr3
 have HX4 := hQ (HX3.out.trans (Turned.new F hb4) (fun _ _ h => h)); clear HX3 hb4 cgp hgp hFl
 have k := cRw Hsb4.out.at' 0
 go_wp2_with fail
 refine (targets_0 b c 3 5 0 0 4 6 0 (by omega) (by omega) (by omega) (by omega) (by omega) (by omega) (by omega) (by omega) _ Hlv4.out.tz Hlv4.out.sz HT4.out.at').mono ?_
 rintro e w5 ⟨gt, ct, gu, cu, rfl, cgt, cgu, hgt, hgu, hb5⟩
 clear k
 have hFl := Hlv4.out.ps.lt
 have Htg := hQ (show StC F w5 gt 0 (.slice (some ⟨gu, 0, none⟩) 1 cu) from ⟨cgt, fun hf => by have := hFl _ hf; omega⟩)
 have Htu := hQ (show StC F w5 gu 0 (.int .i64 2) from ⟨cgu, fun hf => by have := hFl _ hf; omega⟩)
 have Hpa5 := hQ (Hpa.out.new hb5); clear Hpa
 have Hlv5 := hQ (Hlv4.out.new hb5); clear Hlv4
 have HT5 := hQ (HT4.out.new hb5); clear HT4
 have Hsb5 := hQ (Hsb4.out.new hb5); clear Hsb4
 have Hsr5 := hQ (Hsr4.out.new hb5); clear Hsr4
 have HX5 := hQ (HX4.out.trans (Turned.new F hb5) (fun _ _ h => h)); clear HX4 hb5 cgt hgt cgu hgu hFl
 go_wp2_with fail
 refine (psecrets_any s F L0 1 2 good0 (by decide) _ Hlv5.out.ps).mono ?_
 rintro e w6 ⟨va, F1, rfl, hva, hx, hs, hTu, hfar⟩
 rw [sec_l] at hva
 rw [sec_t] at hs
 rw [sec_e]
 obtain ⟨gl, cl, rfl, hgl⟩ : ∃ gl cl, va = .slice (some ⟨gl, 0, none⟩) 3 cl ∧ ∀ j, j < 3 → w6.cell? ⟨gl, j, none⟩ = some (.int .i64 (([1, 5, 6] : List Int).getD j 0)) := by
  rcases hva.2 with ⟨_, e⟩ | ⟨g, cap, cur, e, _, hg, _⟩
  · simp at e
  · subst e
    refine ⟨g, cap, rfl, fun j hj => ?_⟩
    obtain ⟨b1, o1, e1, c1⟩ := ownI_at hva j hj
    obtain ⟨rfl, rfl⟩ : g = b1 ∧ 0 = o1 := by simpa using e1
    rw [Nat.zero_add] at c1
    exact c1
 have hln : ¬ F1 gl := (hfar gl rfl).2
 have Hl0 := hQ (show StC F1 w6 gl 0 (.int .i64 1) from ⟨hgl 0 (by omega), hln⟩)
 have Hl1 := hQ (show StC F1 w6 gl 1 (.int .i64 5) from ⟨hgl 1 (by omega), hln⟩)
 have Hl2 := hQ (show StC F1 w6 gl 2 (.int .i64 6) from ⟨hgl 2 (by omega), hln⟩)
 have Htg6 := hQ (Htg.out.step hx hTu); clear Htg
 have Htu6 := hQ (Htu.out.step hx hTu); clear Htu
 have Hpa6 := hQ (Hpa5.out.step hx hTu); clear Hpa5
 have Hlv6 := hQ (Hlv5.out.step hx hs hTu); clear Hlv5
 have HT6 := hQ (HT5.out.step hx hTu); clear HT5
 have Hsb6 := hQ (Hsb5.out.step hx hTu); clear Hsb5
 have Hsr6 := hQ (Hsr5.out.step hx hTu); clear Hsr5
 have HX6 := hQ (foot_trans (Ext.refl F w w5) HX5.out hx hTu); clear HX5 hx hs hTu hfar hva hgl hln
 have k := Hpa6.out.at'
 have hgpl := Hpa6.out.lt
 have hone : (w6.alloc (.cells #[.int .i64 0] 3)).cell? ⟨gp, 0, none⟩ = some (.int .i64 1) := (((Below.refl w6.heap.size w6).alloc (Nat.le_refl _) (.cells #[.int .i64 0] 3)).cell (p := ⟨gp, 0, none⟩) hgpl).trans k
 have Hone := hQ hone; clear hone
 have Hgpl := hQ hgpl; clear hgpl
 go_upto_block 0 with (at_builtin; refine wpList_append_lies _ rfl (.tmp 114) (.tmp 115) 27 rfl 0 3 i0 (.int .i64 0) 1 8 Tryz.underlying27 hi0 hz0 hz1 hz2 rfl (by decide) (.slice (some ⟨w6.heap.size, 0, none⟩) 1 1) 1 [intV 0] rfl (ownI_one w6 0) ⟨gp, 0, none⟩ 1 cp [intV 1] rfl rfl (by intro j u hj; obtain ⟨rfl, rfl⟩ : j = 0 ∧ intV 1 = u := (by cases j with | zero => exact ⟨rfl, by simpa using hj⟩ | succ j => simp at hj); exact Hone.out) (by intro u hu; simp [intV] at hu; rw [hu]; rfl) (by omega) (by unfold maxLen; omega) (by omega) (Nat.zero_le _) (w6.heap.size + 1) (by simp) ?_; intro g7 c7 w7 hown7 hgrow7 hat7 hlt7; have Hown7 := hQ hown7; have Hgrow7 := hQ hgrow7; have Hat7 := hQ hat7; clear hown7 hgrow7 hat7 hlt7)
 have hb7 := ((Below.refl w6.heap.size w6).alloc (Nat.le_refl _) (.cells #[.int .i64 0] 3)).grown Hgrow7.out (by simp) (fun j hj => by simp [Value.ownBlock] at hj; omega)
 have hg7 : w6.heap.size ≤ g7 := by
  rcases Hat7.out with h | h
  · have : w6.heap.size = g7 := by simpa [Value.ownBlock] using h
    omega
  · omega
 have hcell7 : w7.cell? ⟨g7, 0, none⟩ = some (.int .i64 0) ∧ w7.cell? ⟨g7, 1, none⟩ = some (.int .i64 1) := by
  have hown : OwnI (.slice (some ⟨g7, 0, none⟩) 2 c7) [0, 1] w7 := Hown7.out
  obtain ⟨b0, o0, e0, k0⟩ := ownI_at hown 0 (by simp)
  obtain ⟨b1, o1, e1, k1⟩ := ownI_at hown 1 (by simp)
  obtain ⟨rfl, rfl⟩ : g7 = b0 ∧ 0 = o0 := by simpa using e0
  obtain ⟨rfl, rfl⟩ : g7 = b1 ∧ 0 = o1 := by simpa using e1
  exact ⟨k0, k1⟩
 have hn7 : ¬ F1 g7 := fun hf => by have := Hlv6.out.ps.lt _ hf; omega
 have hg7l : g7 < w7.heap.size := World.block_lt_of_cell? w7 _ hcell7.1
 have hlow : MkLow B s b c q g7 gl gt gu cu w7.heap.size F w F1 L1 w7 := by
  have hs7 := hb7.size
  have a1 := Hsr6.out.lt
  have a2 := HT6.out.at'.lt
  have a4 := Hl0.out.lt
  have a5 := Htg6.out.lt
  have a6 := Htu6.out.lt
  refine ⟨Hlv6.out.new hb7, HT6.out.new hb7, Hsb6.out.new hb7, Hsr6.out.new hb7, ⟨hcell7.1, hn7⟩, ⟨hcell7.2, hn7⟩, Hl0.out.new hb7, Hl1.out.new hb7, Hl2.out.new hb7, Htg6.out.new hb7, Htu6.out.new hb7,
   foot_trans HX6.out.1 HX6.out.2 (Ext.refl _ _ _) (Turned.new F1 hb7), ⟨⟨by omega, by omega, by omega⟩, by omega, by omega, by omega⟩, Nat.le_trans Hlv6.out.size hs7, Nat.le_trans HX6.out.2.size hs7⟩
 obtain ⟨N, hN⟩ : ∃ N, N = w7.heap.size := ⟨_, rfl⟩
 rw [← hN] at hlow
 have HN := hQ (show N ≤ w7.heap.size by omega)
 have Hlow := hQ hlow
 clear hlow hN hg7l hn7 hcell7 hg7 hb7 Hown7 Hgrow7 Hat7 Hlv6 HT6 Hsb6 Hsr6 Hl0 Hl1 Hl2 Htg6 Htu6 Hpa6 HX6 Hone Hgpl
 go_cut [13, 14, 21] (fun v13 v14 v21 wx => MkCut B s b c q g7 gl gt gu cu N F w v13 v14 v21 wx)
 case first =>
  go_wp2_with fail
  refine wp_loop_rounds 3 ?_
  rw [rounds_succ]
  have k0 := Hlow.out.x0.at'
  have k1 := Hlow.out.l0.at'
  go_wp2_with fail
  refine (snode_any s F1 L1 1 good1 (by decide) _ Hlow.out.lv.ps).mono ?_
  rintro e w8 ⟨rfl, F2, hx, hs, hTu⟩
  rw [node1.1] at hs
  rw [node1.2.1, node1.2.2.1, node1.2.2.2]
  have Hlow8 := hQ (Hlow.out.step hx hs hTu)
  have HN8 := hQ (show N ≤ w8.heap.size from Nat.le_trans HN.out hTu.size)
  clear Hlow HN hx hs hTu k0 k1
  have hnk : ∀ W : World, W.ownsRow 0 123 2 (.slice none 0 0) 0 [] := fun W => World.ownsRow_nil W 0 _ 2
  have Hnk := hQ hnk; clear hnk
  have hni : ∀ W : World, W.ownsRow 0 3 1 (.slice none 0 0) 0 [] := fun W => World.ownsRow_nil W 0 _ 1
  have Hni := hQ hni; clear hni
  go_wp2_with (first | (at_builtin; refine wpList_append_lies _ rfl (.tmp 143) (.tmp 147) 47 rfl 0 123 iK (.agg #[.int .i64 0, .int .i64 0]) 2 16 Tryz.underlying47 hiK hk0 hk1 hk2 rfl (by decide) (.slice none 0 0) 0 [] rfl (Hnk.out _) ⟨w8.heap.size, 0, none⟩ 1 1 (keyV (0, 7)) rfl rfl (keyV_cells w8 (0, 7) 123) (by intro u hu; simp [keyV] at hu; rcases hu with rfl | rfl <;> rfl) (by omega) (by unfold maxLen; omega) (by omega) (Nat.zero_le _) (w8.heap.size + 1) (by simp) ?_; intro gk ck w9 hown9 hgrow9 hat9 hlt9; have Hown9 := hQ hown9; have Hgrow9 := hQ hgrow9; have Hat9 := hQ hat9; clear hown9 hgrow9 hat9 hlt9) | (at_builtin; refine wpList_append_lies _ rfl (.tmp 149) (.tmp 151) 27 rfl 0 3 i0 (.int .i64 0) 1 8 Tryz.underlying27 hi0 hz0 hz1 hz2 rfl (by decide) (.slice none 0 0) 0 [] rfl (Hni.out _) ⟨w9.heap.size, 0, none⟩ 1 1 [intV 8] rfl rfl (cell_one_new _ _ _) (by intro u hu; simp [intV] at hu; rw [hu]; rfl) (by omega) (by unfold maxLen; omega) (by omega) (Nat.zero_le _) (w9.heap.size + 1) (by simp) ?_; intro gq cq w10 hown10 hgrow10 hat10 hlt10; have Hown10 := hQ hown10; have Hgrow10 := hQ hgrow10; have Hat10 := hQ hat10; clear hown10 hgrow10 hat10 hlt10))
  have hb9 := ((Below.refl w8.heap.size w8).alloc (Nat.le_refl _) (.cells #[.int .i64 0, .int .i64 7] 123)).grown Hgrow9.out (by simp) (fun j hj => by simp [Value.ownBlock] at hj)
  have hgk : gk = w8.heap.size + 1 := Hat9.out.elim (fun h => by simp [Value.ownBlock] at h) id
  have hb10 := ((Below.refl w9.heap.size w9).alloc (Nat.le_refl _) (.cells #[.int .i64 8] 3)).grown Hgrow10.out (by simp) (fun j hj => by simp [Value.ownBlock] at hj)
  have hgq : gq = w9.heap.size + 1 := Hat10.out.elim (fun h => by simp [Value.ownBlock] at h) id
  have hkey9 : StO F2 w9 123 2 (.slice (some ⟨gk, 0, none⟩) 1 ck) 1 (keyV (0, 7)) := by
   refine ⟨Hown9.out, fun g hg hf => ?_⟩
   have h1 : gk = g := by simpa [Value.ownBlock] using hg
   have h2 := Hlow8.out.lv.ps.lt _ hf
   omega
  have hpub10 : StO F2 w10 3 1 (.slice (some ⟨gq, 0, none⟩) 1 cq) 1 [intV 8] := by
   refine ⟨Hown10.out, fun g hg hf => ?_⟩
   have h1 : gq = g := by simpa [Value.ownBlock] using hg
   have h2 := Hlow8.out.lv.ps.lt _ hf
   have h3 := hb9.size
   omega
  have Hlow10 := hQ ((Hlow8.out.new hb9).new hb10)
  have Hkey10 := hQ (hkey9.new hb10)
  have Hpub10 := hQ hpub10
  have Hgg := hQ (show N ≤ gk ∧ gk < gq by
   have := HN8.out
   have := hkey9.lt (g := gk) rfl
   omega)
  have HN10 := hQ (show N ≤ w10.heap.size from Nat.le_trans HN8.out (Nat.le_trans hb9.size hb10.size))
  clear hkey9 hpub10 hgk hgq hb9 hb10 Hown9 Hgrow9 Hat9 Hown10 Hgrow10 Hat10 Hlow8 HN8
  rw [rounds_succ]
  have k0 := Hlow10.out.x1.at'
  have k1 := Hlow10.out.l1.at'
  go_wp2_with fail
  refine (snode_any s F2 L2 5 good2 (by decide) _ Hlow10.out.lv.ps).mono ?_
  rintro e w11 ⟨rfl, F3, hx, hs, hTu⟩
  rw [node2.1] at hs
  rw [node2.2.1, node2.2.2.1, node2.2.2.2]
  have Hlow11 := hQ (Hlow10.out.step hx hs hTu)
  have Hkey11 := hQ (Hkey10.out.step hx hTu)
  have Hpub11 := hQ (Hpub10.out.step hx hTu)
  have HN11 := hQ (show N ≤ w11.heap.size from Nat.le_trans HN10.out hTu.size)
  clear Hlow10 HN10 Hkey10 Hpub10 hx hs hTu k0 k1
  go_wp2_with (first | (at_builtin; refine wpList_append_lies _ rfl (.tmp 143) (.tmp 147) 47 rfl 0 123 iK (.agg #[.int .i64 0, .int .i64 0]) 2 16 Tryz.underlying47 hiK hk0 hk1 hk2 rfl (by decide) (.slice (some ⟨gk, 0, none⟩) 1 ck) 1 (keyV (0, 7)) rfl (Hkey11.out.own.alloc _) ⟨w11.heap.size, 0, none⟩ 1 1 (keyV (1, 9)) rfl rfl (keyV_cells w11 (1, 9) 123) (by intro u hu; simp [keyV] at hu; rcases hu with rfl | rfl <;> rfl) (by omega) (by unfold maxLen; omega) (by omega) (Nat.zero_le _) (w11.heap.size + 1) (by simp) ?_; intro gk2 ck2 w12 hown12 hgrow12 hat12 hlt12; have Hown12 := hQ hown12; have Hgrow12 := hQ hgrow12; have Hat12 := hQ hat12; have Hlt12 := hQ hlt12; clear hown12 hgrow12 hat12 hlt12; have hb12 := Turned.grown ((Turned.refl (fun k => k = gk) w11).alloc (.cells #[.int .i64 1, .int .i64 9] 123)) Hgrow12.out (fun k _ hk => by simp [Value.ownBlock] at hk; exact hk.symm); have Hpub12 := hQ (Hpub11.out.turn hb12 (fun g hg => by have := Hgg.out; have : gq = g := (by simpa [Value.ownBlock] using hg); omega)); have Hlow12 := hQ (Hlow11.out.turn hb12 (fun k hk e => Hkey11.out.out gk rfl (e ▸ hk)) (fun k hk => hk ▸ Hgg.out.1)); have Hkey12 := hQ (key_grown Hkey11.out Hlow11.out.lv.ps.lt Hown12.out Hat12.out Hgg.out.2 (Hpub11.out.lt rfl)); have HN12 := hQ (Nat.le_trans HN11.out hb12.size); clear hb12 Hlow11 Hkey11 Hpub11 HN11 Hown12 Hgrow12 Hat12 Hlt12) | (at_builtin; refine wpList_append_lies _ rfl (.tmp 149) (.tmp 151) 27 rfl 0 3 i0 (.int .i64 0) 1 8 Tryz.underlying27 hi0 hz0 hz1 hz2 rfl (by decide) (.slice (some ⟨gq, 0, none⟩) 1 cq) 1 [intV 8] rfl (Hpub12.out.own.alloc _) ⟨w12.heap.size, 0, none⟩ 1 1 [intV 10] rfl rfl (cell_one_new _ _ _) (by intro u hu; simp [intV] at hu; rw [hu]; rfl) (by omega) (by unfold maxLen; omega) (by omega) (Nat.zero_le _) (w12.heap.size + 1) (by simp) ?_; intro gq2 cq2 w13 hown13 hgrow13 hat13 hlt13; have Hown13 := hQ hown13; have Hgrow13 := hQ hgrow13; have Hat13 := hQ hat13; have Hlt13 := hQ hlt13; clear hown13 hgrow13 hat13 hlt13; have hb13 := Turned.grown ((Turned.refl (fun k => k = gq) w12).alloc (.cells #[.int .i64 10] 3)) Hgrow13.out (fun k _ hk => by simp [Value.ownBlock] at hk; exact hk.symm); have Hlow13 := hQ (Hlow12.out.turn hb13 (fun k hk e => Hpub12.out.out gq rfl (e ▸ hk)) (fun k hk => hk ▸ (Nat.le_trans Hgg.out.1 (Nat.le_of_lt Hgg.out.2)))); have Hkey13 := hQ (Hkey12.out.1.turn hb13 (fun g hg e => Hkey12.out.2 (e ▸ hg))); have Hpub13 := hQ (pub_grown Hpub12.out Hlow12.out.lv.ps.lt Hown13.out Hat13.out); have HN13 := hQ (Nat.le_trans HN12.out hb13.size); clear hb13 Hlow12 Hkey12 Hpub12 HN12 Hown13 Hgrow13 Hat13 Hlt13; have k5 := Hlow13.out.t0.at'))
  have k0 := Hlow13.out.u0.at'
  have k1 := Hlow13.out.l1.at'
  have k2 : w13.cell? ⟨q, 0, none⟩ = some (.slice (some ⟨b, 0, none⟩) 3 c) := cRw Hlow13.out.bx.at' 0
  have k3 := Hlow13.out.tr.at'.c8
  clear k5
  have hmk := fun (W : World) (hW : ProgStore W s F3 L3) => smake_any s F3 L3 ⟨6, 0, 4, 5⟩ (by simp [TermD.ok, i64ok]) good3 (by decide) W hW
  have Hmk := hQ hmk; clear hmk
  refine wp_loop_rounds 2 ?_
  rw [rounds_succ]
  go_wp2_with fail
  go_region_with (go_at_call 34; refine (Hmk.out _ (by exact Hlow13.out.lv.ps)).mono ?_; rintro e w14 ⟨rfl, F4, hx, hs, hTu⟩; have hx' : Ext F3 F4 w13 w14 := hx; have hT' : Turned F3 w13 w14 := ⟨hTu.os, hTu.tape, hTu.output, hTu.size, hTu.block⟩; have Hx := hQ hx'; have HT := hQ hT'; have Hs := hQ hs; clear hx hs hTu hx' hT')
  all_goals
   have hlow14 := Hlow13.out.step Hx.out Hs.out HT.out
   rw [seal3.1] at hlow14
   have Hlow14 := hQ hlow14
   have Hkey14 := hQ (Hkey13.out.step Hx.out HT.out)
   have Hpub14 := hQ (Hpub13.out.step Hx.out HT.out)
   have HN14 := hQ (Nat.le_trans HN13.out HT.out.size)
   clear hlow14 Hlow13 Hkey13 Hpub13 HN13 Hx HT Hs Hmk k0 k1 k2 k3
   rw [seal3.2.1, seal3.2.2]
   have hns : ∀ W : World, W.ownsRow 0 143 3 (.slice none 0 0) 0 [] := fun W => World.ownsRow_nil W 0 _ 3
   have Hns := hQ hns; clear hns
   go_wp2_with (at_builtin; refine wpList_append_lies _ rfl (.tmp 191) (.tmp 196) 55 rfl 0 143 iS (.agg #[.int .i64 0, .int .i64 0, .int .i64 0]) 3 24 Tryz.underlying55 hiS hs0 hs1 hs2 rfl (by decide) (.slice none 0 0) 0 [] rfl (Hns.out _) ⟨w14.heap.size, 0, none⟩ 1 1 (sealV 1 2 11) rfl rfl (sealV_cells w14 1 2 11 143) (by intro u hu; simp [sealV] at hu; rcases hu with rfl | rfl | rfl <;> rfl) (by omega) (by unfold maxLen; omega) (by omega) (Nat.zero_le _) (w14.heap.size + 1) (by simp) ?_; intro gs cs w15 hown15 hgrow15 hat15 hlt15; have Hown15 := hQ hown15; have Hgrow15 := hQ hgrow15; have Hat15 := hQ hat15; have Hlt15 := hQ hlt15; clear hown15 hgrow15 hat15 hlt15)
   rw [rounds_succ]
   go_wp2_with fail
   rw [rounds_succ]
   go_wp2_with fail
   go_meet
   have hb15 := ((Below.refl w14.heap.size w14).alloc (Nat.le_refl _) (.cells #[.int .i64 1, .int .i64 2, .int .i64 11] 143)).grown Hgrow15.out (by simp) (fun j hj => by simp [Value.ownBlock] at hj)
   have hgs : gs = w14.heap.size + 1 := Hat15.out.elim (fun h => by simp [Value.ownBlock] at h) id
   refine ⟨gk2, ck2, gq2, cq2, gs, cs, F4, rfl, rfl, rfl, Hlow14.out.new hb15, Hkey14.out.new hb15, Hpub14.out.new hb15, ⟨Hown15.out, fun g hg hf => ?_⟩, Nat.le_trans HN14.out hb15.size⟩
   have h1 : gs = g := by simpa [Value.ownBlock] using hg
   have h2 := Hlow14.out.lv.ps.lt _ hf
   omega
 case rest =>
  obtain ⟨gk, ck, gq, cq, gs, cs, F4, rfl, rfl, rfl, hlow, hkey, hpub, hseal, hN⟩ := hcut
  have hown : OwnI (.slice (some ⟨gq, 0, none⟩) 2 cq) [8, 10] wc := hpub.own
  obtain ⟨_, _, e1, hcq⟩ := ownI_len hown
  have hcq2 : 2 ≤ cq := by simp at e1; simp at hcq; omega
  have hcq1 : ¬ cq = 1 := by omega
  have hcqm : cq ≤ 9223372036854775807 := by
   rcases hown.2 with ⟨e, _⟩ | ⟨g', cap', cur', e, _, _, _, hm, _⟩
   · simp at e
   · have : cq = cap' := by simpa using (by simpa using e : gq = g' ∧ cq = cap').2
     unfold maxLen at hm
     omega
  have kp0 : wc.cell? ⟨gq, 0, none⟩ = some (.int .i64 8) := by
   obtain ⟨b0, o0, e0, k0⟩ := ownI_at hown 0 (by simp)
   obtain ⟨rfl, rfl⟩ : gq = b0 ∧ 0 = o0 := by simpa using e0
   exact k0
  have kp1 : wc.cell? ⟨gq, 1, none⟩ = some (.int .i64 10) := by
   obtain ⟨b0, o0, e0, k0⟩ := ownI_at hown 1 (by simp)
   obtain ⟨rfl, rfl⟩ : gq = b0 ∧ 0 = o0 := by simpa using e0
   exact k0
  have kq : wc.cell? ⟨q, 0, none⟩ = some (.slice (some ⟨b, 0, none⟩) 3 c) := cRw hlow.bx.at' 0
  have hWd : Below wc.heap.size wc wc.drew := ⟨rfl, rfl, rfl, Nat.le_refl _, fun _ _ => rfl⟩
  have hset := setpath_0 b c 3 5 0 0 4 6 0 (by omega) (by omega) (by omega) (by omega) (by omega) (by omega) (by omega) (by omega) wc.drew (hlow.lv.new hWd).tz (hlow.lv.new hWd).sz (hlow.tr.new hWd).at' gq 1 (cq - 1) 5 8 10 (by omega) (by omega) (by omega) ((hWd.cell (p := ⟨gq, 1, none⟩) (hpub.lt rfl)).trans kp1)
  have Hset := hQ hset
  have Hlow := hQ hlow
  have Hkey := hQ hkey
  have Hpub := hQ hpub
  have Hseal := hQ hseal
  have HN := hQ hN
  have Hrs := hQ hlow.rs
  clear hset hlow hkey hpub hseal hN hown e1 hcq kp1 hWd
  go_upto_region 33 with fail
  go_cut [16] (fun v wx => SetCut q wc v wx)
  case first =>
   go_region_with (go_at_call 59; refine Hset.out.mono ?_; intro e w2 h2; obtain ⟨g, rfl, hTg, hg, hb⟩ := h2; have hb2 : Below wc.heap.size wc w2 := ⟨hb.os, hb.tape, hb.output, hb.size, hb.block⟩; have hg2 : wc.heap.size ≤ g := hg; have hr2 := (hb2.block (q + 1) Hrs.out.lt).trans Hrs.out.at'; have kr2 := cRw hr2 0; have fr2 := fRw hr2 0; have HTg := hQ hTg; have Hg2 := hQ hg2; have Hb2 := hQ hb2; clear hTg hg hb hg2 hb2 hr2)
   all_goals
    go_wp2_with fail
    go_meet
    exact setcut_mk Hrs.out.at' rfl HTg.out Hg2.out Hb2.out
  case rest =>
   obtain ⟨rfl, g, hrg, hTg, hgw, hTu⟩ := hcut
   have hkk := Hkey.out
   have hne1 := row_apart (n := 1) hkk Hrs.out.at' (by decide)
   have hne2 := row_apart (n := 0) Hseal.out Hrs.out.at' (by decide)
   have hne3 : gl ≠ q + 1 := by
    intro e
    have h1 := Hlow.out.l0.at'
    rw [e, cRw Hrs.out.at'] at h1
    simp at h1
   have hkey2 := hkk.turn hTu (fun g' hg' e => hne1 (by have : gk = g' := by simpa [Value.ownBlock] using hg'
                                                        omega))
   have hseal2 := Hseal.out.turn hTu (fun g' hg' e => hne2 (by have : gs = g' := by simpa [Value.ownBlock] using hg'
                                                               omega))
   have hl2 := Hlow.out.l2.turn hTu hne3
   have hps2 := Hlow.out.lv.ps.kept hTu (fun k hk e => Hlow.out.rs.out (e ▸ hk))
   have hfp2 := Turned.trans Hlow.out.fp.2 hTu (fun k hk e => by have := Hq.out; omega)
   have hsz := hTu.size
   have hx2 : Ext F F4 w wc := fun k hk => (Hlow.out.fp.1 k hk).imp id fun h2 => ⟨h2.1, Nat.lt_of_lt_of_le h2.2 hsz⟩
   have hris := fun (W : World) (hW : W.heap[gk]? = wc.heap[gk]?) => rising_any (some ⟨gk, 0, none⟩) ck [(0, 7), (1, 9)] (by simp) (by simp) (by intro k hk; simp at hk; rcases hk with rfl | rfl <;> simp [i64ok]) W (fun i hi => by
    obtain ⟨b1, o1, e1, c0, c1⟩ := keys_at (l := [(0, 7), (1, 9)]) hkey2 rfl i hi
    obtain ⟨rfl, rfl⟩ : gk = b1 ∧ 0 = o1 := by simpa using e1
    exact ⟨gk, 0, rfl, (World.cell?_of_block (w := wc) hW).trans c0, (World.cell?_of_block (w := wc) hW).trans c1⟩)
   have hql : q + 1 < wc.heap.size := (Array.getElem?_eq_some_iff.1 hrg).1
   have hgll : gl < wc.heap.size := hl2.lt
   have kq := cRw hrg 0
   have fq := fRw hrg 0
   have kl := hl2.at'
   have hgF : ¬ F4 g := fun hf => by have := Hlow.out.lv.ps.lt _ hf; omega
   have hgq1 : g ≠ q + 1 := by have := Hrs.out.lt; omega
   have HYn := hQ (And.intro hgF (And.intro hgq1 (And.intro hne3 (And.intro hql hgll)))); clear hgF hgq1
   have HYk := hQ (hkey2.lt (g := gk) rfl)
   have Hris := hQ hris
   have HY := hQ (And.intro hrg (And.intro hTg (And.intro hgw (And.intro hseal2 (And.intro hps2 (And.intro hfp2 (And.intro hx2 (And.intro hne1 (And.intro hne2 hkey2)))))))))
   clear hris hrg hTg hgw hTu hseal2 hps2 hfp2 hx2 hne1 hne2 hkey2 hl2 hkk hsz
   go_wp2_with fail
   have w2 : IntKind.i64.wrap 2 = 2 := by decide
   refine wp_region_kinds [.fix ?_, .fix ?_, .loose (fun v _ => ∃ va vc, v = .slice va 2 vc), .fix ?_, .fix ?_, .fix ?_, .fix ?_, .fix ?_, .fix ?_, .fix ?_, .fix undef, .loose (fun v _ => ∃ va vc, v = .slice va 2 vc), .fix ?_, .fix ?_, .fix ?_]
    (fun W => W.heap[q + 1]? = some (.cells #[.slice (some ⟨g, 0, none⟩) 3 3] 44 (0, 0)) ∧ Turned (fun k => k = q + 1) wc W) (fun _ _ => True) (by kernel_rfl) (by kernel_rfl) (by kernel_rfl) ?_ ⟨HY.out.1, Turned.drew (Turned.refl _ _)⟩ ?_
   rotate_left 12
   · exact ⟨fun _ _ _ _ h => h, fun _ _ _ _ h => h, trivial⟩
   refine lex_fix _ rfl (fun W hC hf => ?_) (fun _ => trivial) ?_
   · (have kq := cRw hC.1 0; go_simp; rfl)
   refine lex_fix _ rfl (fun W hC hf => ?_) (fun _ => trivial) ?_
   · (go_simp; rfl)
   refine lex_call_loose 49 #[.slice (some ⟨gk, 0, none⟩) 2 ck] rfl (fun W _ _ => by go_simp) (fun W hC _ => Calls.mono (Hris.out W (hC.2.block gk HYk.out HY.out.2.2.2.2.2.2.2.1)) ?_) (fun v2 => ?_)
   · rintro e w3 ⟨v, rfl, hv, hvn, hb⟩
     exact ⟨v, rfl, trivial, ⟨(hb.block (q + 1) (Array.getElem?_eq_some_iff.1 hC.1).1).trans hC.1, hC.2.trans (Turned.new (fun _ => False) hb) (fun _ _ h => h.elim)⟩, two_of hv⟩
   refine lex_fix _ rfl (fun W hC hf => ?_) (fun _ => trivial) ?_
   · (go_simp; rfl)
   refine lex_fix _ rfl (fun W hC hf => ?_) (fun _ => trivial) ?_
   · (go_simp; rfl)
   refine lex_fix _ rfl (fun W hC hf => ?_) (fun _ => trivial) ?_
   · (go_simp; rfl)
   refine lex_fix _ rfl (fun W hC hf => ?_) (fun _ => trivial) ?_
   · (go_simp; rfl)
   refine lex_fix _ rfl (fun W hC hf => ?_) (fun _ => trivial) ?_
   · (go_simp; rfl)
   refine lex_fix _ rfl (fun W hC hf => ?_) (fun _ => trivial) ?_
   · (go_simp; rfl)
   have w2 : IntKind.i64.wrap 2 = 2 := by decide
   refine lex_fix _ rfl (fun W hC hf => ?_) (fun _ => trivial) ?_
   · (have kl := (hC.2.cell (p := ⟨gl, 2, none⟩) HYn.out.2.2.2.2 HYn.out.2.2.1).trans kl; go_simp; rfl)
   refine lex_do (fun W hC hf => ?_) ?_
   · have kq := cRw hC.1 0
     have fq := fRw hC.1 0
     unfold opRuns
     rw [if_pos (by rfl)]
     unfold runsTo
     go_simp
     exact ⟨rSc hC.1 0 _, Turned.setCell (F := fun k => k = q + 1) hC.2 (p := ⟨q + 1, 0, none⟩) (fun _ => rfl) _⟩
   refine lex_loose rfl (fun W hC hf => ?_) (fun _ => trivial) (fun v11 => ?_)
   · obtain ⟨⟨va, vc, rfl⟩, _⟩ := hf
     exact ⟨_, by go_simp, va, vc, rfl⟩
   refine lex_fix _ rfl (fun W hC hf => ?_) (fun _ => trivial) ?_
   · (go_simp; rfl)
   refine lex_fix _ rfl (fun W hC hf => ?_) (fun _ => trivial) ?_
   · (go_simp; rfl)
   refine lex_fix _ rfl (fun W hC hf => ?_) (fun _ => trivial) ?_
   · (go_simp; rfl)
   intro W hC hf
   obtain ⟨⟨va, vc, rfl⟩, _⟩ := hf
   go_wp2
   refine bodyPost_ret_by (five_results _ _ (q + 1) _ rfl hC.1) rfl ?_
   exact mk_end HY.out.2.1 HYn.out.1 HYn.out.2.1 HY.out.2.2.2.1 HY.out.2.2.2.2.1 HY.out.2.2.2.2.2.1 HY.out.2.2.2.2.2.2.1 HY.out.2.2.2.2.2.2.2.2.1 (by have := Hq.out; omega) Hlow.out.rs.out hC.2
end
section
open Go Go.RowKit
theorem rtree_1 (w : World) : Calls Tryz.prog 333 #[.int .i64 1] w fun e w' => e = .returned (.bool true) ∧ w' = w := by
 go_enter Tryz.func333, Tryz.ntmps333
 go_wp2
 refine wp_loop_rounds 1 ?_
 rw [rounds_succ]
 go_wp2
 go_ret
 exact ⟨rfl, rfl⟩
theorem rtree_2 (w : World) : Calls Tryz.prog 333 #[.int .i64 2] w fun e w' => e = .returned (.bool true) ∧ w' = w := by
 go_enter Tryz.func333, Tryz.ntmps333
 go_wp2
 refine wp_loop_rounds 2 ?_
 rw [rounds_succ]
 go_wp2
 rw [rounds_succ]
 go_wp2
 go_ret
 exact ⟨rfl, rfl⟩
theorem rin_01 (w : World) : Calls Tryz.prog 319 #[.int .i64 0, .int .i64 1] w fun e w' => e = .returned (.bool true) ∧ w' = w := by
 go_enter Tryz.func319, Tryz.ntmps319
 go_wp2_with (first | (go_at_call 333; refine (rtree_1 _).mono ?_; rintro e wx ⟨rfl, hwx⟩; subst wx))
 go_ret
 exact ⟨rfl, rfl⟩
theorem rin_22 (w : World) : Calls Tryz.prog 319 #[.int .i64 2, .int .i64 2] w fun e w' => e = .returned (.bool true) ∧ w' = w := by
 go_enter Tryz.func319, Tryz.ntmps319
 go_wp2_with (first | (go_at_call 333; refine (rtree_2 _).mono ?_; rintro e wx ⟨rfl, hwx⟩; subst wx))
 go_ret
 exact ⟨rfl, rfl⟩
theorem rin_12 (w : World) : Calls Tryz.prog 319 #[.int .i64 1, .int .i64 2] w fun e w' => e = .returned (.bool true) ∧ w' = w := by
 go_enter Tryz.func319, Tryz.ntmps319
 go_wp2_with (first | (go_at_call 333; refine (rtree_2 _).mono ?_; rintro e wx ⟨rfl, hwx⟩; subst wx))
 go_ret
 exact ⟨rfl, rfl⟩
theorem rlevel_1 (w : World) : Calls Tryz.prog 332 #[.int .i64 1] w fun e w' => e = .returned (.int .i64 1) ∧ w' = w := by
 go_enter Tryz.func332, Tryz.ntmps332
 go_wp2
 refine wp_loop_rounds 2 ?_
 rw [rounds_succ]
 go_wp2
 rw [rounds_succ]
 go_wp2
 go_ret
 exact ⟨rfl, rfl⟩
theorem rhalf_1 (w : World) : Calls Tryz.prog 318 #[.int .i64 1] w fun e w' => e = .returned (.int .i64 1) ∧ w' = w := by
 go_enter Tryz.func318, Tryz.ntmps318
 go_wp2_with (first | (go_at_call 332; refine (rlevel_1 _).mono ?_; rintro e wx ⟨rfl, hwx⟩; subst wx))
 refine wp_loop_rounds 1 ?_
 rw [rounds_succ]
 go_wp2_with (first | (go_at_call 332; refine (rlevel_1 _).mono ?_; rintro e wx ⟨rfl, hwx⟩; subst wx))
 go_ret
 exact ⟨rfl, rfl⟩
theorem rleft_1 (w : World) : Calls Tryz.prog 299 #[.int .i64 1] w fun e w' => e = .returned (.tuple #[.int .i64 0, .bool true]) ∧ w' = w := by
 go_enter Tryz.func299, Tryz.ntmps299
 go_wp2_with (first | (go_at_call 318; refine (rhalf_1 _).mono ?_; rintro e wx ⟨rfl, hwx⟩; subst wx))
 go_ret2
 exact ⟨rfl, rfl⟩
theorem rright_1 (w : World) : Calls Tryz.prog 300 #[.int .i64 1] w fun e w' => e = .returned (.tuple #[.int .i64 2, .bool true]) ∧ w' = w := by
 go_enter Tryz.func300, Tryz.ntmps300
 go_wp2_with (first | (go_at_call 318; refine (rhalf_1 _).mono ?_; rintro e wx ⟨rfl, hwx⟩; subst wx))
 go_ret2
 exact ⟨rfl, rfl⟩
theorem rparent_01 (w : World) : Calls Tryz.prog 292 #[.int .i64 0, .int .i64 1] w fun e w' => e = .returned (.tuple #[.int .i64 0, .bool false]) ∧ w' = w := by
 go_enter Tryz.func292, Tryz.ntmps292
 go_wp2_with (first | (go_at_call 319; refine (rin_01 _).mono ?_; rintro e wx ⟨rfl, hwx⟩; subst wx))
 go_ret2
 exact ⟨rfl, rfl⟩
theorem rparent_12 (w : World) : Calls Tryz.prog 292 #[.int .i64 1, .int .i64 2] w fun e w' => e = .returned (.tuple #[.int .i64 0, .bool false]) ∧ w' = w := by
 go_enter Tryz.func292, Tryz.ntmps292
 go_wp2_with (first | (go_at_call 319; refine (rin_12 _).mono ?_; rintro e wx ⟨rfl, hwx⟩; subst wx))
 go_ret2
 exact ⟨rfl, rfl⟩
theorem rparent_22 (w : World) : Calls Tryz.prog 292 #[.int .i64 2, .int .i64 2] w fun e w' => e = .returned (.tuple #[.int .i64 1, .bool true]) ∧ w' = w := by
 go_enter Tryz.func292, Tryz.ntmps292
 go_wp2_with (first | (go_at_call 319; refine (rin_22 _).mono ?_; rintro e wx ⟨rfl, hwx⟩; subst wx) | (go_at_call 299; refine (rleft_1 _).mono ?_; rintro e wx ⟨rfl, hwx⟩; subst wx) | (go_at_call 300; refine (rright_1 _).mono ?_; rintro e wx ⟨rfl, hwx⟩; subst wx))
 refine wp_loop_rounds 1 ?_
 rw [rounds_succ]
 go_wp2_with (first | (go_at_call 319; refine (rin_22 _).mono ?_; rintro e wx ⟨rfl, hwx⟩; subst wx) | (go_at_call 299; refine (rleft_1 _).mono ?_; rintro e wx ⟨rfl, hwx⟩; subst wx) | (go_at_call 300; refine (rright_1 _).mono ?_; rintro e wx ⟨rfl, hwx⟩; subst wx))
 go_ret2
 exact ⟨rfl, rfl⟩
theorem rdirect_01 (w : World) : Calls Tryz.prog 196 #[.int .i64 0, .int .i64 1] w fun e w' => e = .returned (.slice none 0 0) ∧ w' = w := by
 go_enter Tryz.func196, Tryz.ntmps196
 go_wp2_with (first | (go_at_call 292; refine (rparent_01 _).mono ?_; rintro e wx ⟨rfl, hwx⟩; subst wx))
 refine wp_loop_rounds 1 ?_
 rw [rounds_succ]
 go_wp2_with (first | (go_at_call 292; refine (rparent_01 _).mono ?_; rintro e wx ⟨rfl, hwx⟩; subst wx))
 go_ret
 exact ⟨rfl, rfl⟩
theorem rdirect_22 (w : World) : Calls Tryz.prog 196 #[.int .i64 2, .int .i64 2] w (NewI [1] w) := by
 obtain ⟨i0, hi0, hz0, hz1, hz2⟩ := info_parts infoI
 have hn1 : ∀ W : World, OwnI (.slice none 0 0) [] W := ownI_nil
 have Hn1 := hQ hn1; clear hn1
 have Hb := hQ ((Below.refl w.heap.size w).alloc (Nat.le_refl _) (.cells #[.int .i64 1] 3))
 go_enter Tryz.func196, Tryz.ntmps196
 go_wp2_with (go_at_call 292; refine (rparent_22 _).mono ?_; rintro e wx ⟨rfl, hwx⟩; subst wx)
 refine wp_loop_rounds 2 ?_
 rw [rounds_succ]
 go_wp2_with (first | (go_at_call 292; refine (rparent_12 _).mono ?_; rintro e wx ⟨rfl, hwx⟩; subst wx) | (at_builtin; refine wpList_append_lies _ rfl (.tmp 15) (.tmp 17) 27 rfl 0 3 i0 (.int .i64 0) 1 8 Tryz.underlying27 hi0 hz0 hz1 hz2 rfl (by decide) (.slice none 0 0) 0 [] rfl (Hn1.out _) ⟨w.heap.size, 0, none⟩ 1 1 [intV 1] rfl rfl (cell_one_new _ _ _) (by intro u hu; simp [intV] at hu; rw [hu]; rfl) (by omega) (by unfold maxLen; omega) (by omega) (Nat.zero_le _) (w.heap.size + 1) (by simp) ?_; intro g5 c5 w5 hown5 hgrow5 hat5 hlt5; have Hown5 := hQ hown5; have Hb5 := hQ (Hb.out.grown hgrow5 Hb.out.size (fun k hk => by simp [Value.ownBlock] at hk)); have Hg5 := hQ (hat5.elim (fun e => by simp [Value.ownBlock] at e) id : g5 = w.heap.size + 1); clear hown5 hgrow5 hat5 hlt5))
 rw [rounds_succ]
 go_wp2
 go_ret
 exact newI_mk Hown5.out (by have := Hg5.out; omega) Hb5.out
end
end Go.Proofs.YtedpljclnpiggaaGreatDoor
