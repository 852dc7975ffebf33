/- The map's Seals and Tree; TreeSize of any tree, Beyond of two sizes. -/
import Derived.Test.YtedpljclnpiggaaGreatDoorV38
import Derived.Test.YtedpljclnpiggaaGreatDoorV42
import Derived.Test.YtedpljclnpiggaaGreatDoorV40
set_option linter.unusedVariables false
set_option linter.unusedSimpArgs false
set_option maxRecDepth 100000
set_option maxHeartbeats 12800000
namespace Go.Proofs.YtedpljclnpiggaaGreatDoor
section
open Go Go.RowKit
def NoneP (e0 : Int) (w : World) (e : Ending) (w' : World) : Prop :=
 e = .returned (.tuple #[.agg #[.slice none 0 0], .slice none 0 0, .slice none 0 0, .int .i64 0, .int .i64 e0]) ∧ Below w.heap.size w w'
theorem ffive_results (tmps : Array Value) (w : World) (r : Nat) (v : Value) (h4 : tmps.getD 2 undef = .pointer (some ⟨r, 0, none⟩))
    (hg : w.heap[r]? = some (.cells #[v] 44 (0, 0))) : (results Tryz.f56 tmps).run Tryz.prog w = .ok (.tuple #[.agg #[v], tmps.getD 3 undef, tmps.getD 4 undef, tmps.getD 5 undef, tmps.getD 6 undef]) w := by
 have hl := run_loadVar_row (P := Tryz.prog) w r 44 44 #[v] (0, 0) _ hg Tryz.underlying44 rfl (by kernel_rfl)
 have ha : (asAddr (.pointer (some ⟨r, 0, none⟩))).run Tryz.prog w = .ok ⟨r, 0, none⟩ w := by simp [asAddr]
 have hr : Tryz.f56.results = #[.cell 2 44, .tmp 3, .tmp 4, .tmp 5, .tmp 6] := by kernel_rfl
 have h4' : tmps[2]?.getD undef = .pointer (some ⟨r, 0, none⟩) := by simpa using h4
 simp only [results, hr]
 simp [Sem.run_bind, h4', ha, hl]
theorem pfail_any (x : Int) (w : World) : Calls Tryz.prog 56 #[.int .i64 x] w (NoneP x w) := by
 have hb : Below w.heap.size w (w.alloc (.cells #[.slice none 0 0] 44)) := (Below.refl _ _).alloc (Nat.le_refl _) _
 have HT := hQ hb
 clear hb
 go_enter Tryz.func56, Tryz.ntmps56
 go_wp2
 refine bodyPost_ret_by (ffive_results _ _ w.heap.size (.slice none 0 0) rfl (by exact rAl _ _ _)) rfl ?_
 exact ⟨rfl, HT.out⟩
theorem pmake_nil (Tv : Value) (hTv : ∃ a n c, Tv = .agg #[.slice a n c]) (leaf ep seed : Int) (fv : Value) (w : World) :
    Calls Tryz.prog 22 #[.pointer none, Tv, .int .i64 leaf, .int .i64 ep, .int .i64 seed, fv] w (NoneP 2 w) := by
 obtain ⟨a, n, c, rfl⟩ := hTv
 have hres : ∀ v0, (((w.alloc (.cells #[v0] 44)).alloc (.cells #[.slice none 0 0] 44))).heap[w.heap.size + 1]? = some (boxT (.slice none 0 0)) := fun v0 => by
  have := rAl (w := w.alloc (.cells #[v0] 44)) #[.slice none 0 0] 44 (0, 0)
  simpa using this
 have Hres := hQ hres
 have hbel : ∀ v0, Below w.heap.size w ((w.alloc (.cells #[v0] 44)).alloc (.cells #[.slice none 0 0] 44)) := fun v0 => ((Below.refl w.heap.size w).alloc (Nat.le_refl _) _).alloc (by simp) _
 have Hbel := hQ hbel
 have Hal := hQ (fun W => palive_nil W)
 clear hres hbel
 go_enter Tryz.func22, Tryz.ntmps22
 go_wp2_with fail
 refine (Hal.out _).mono ?_
 rintro e wx ⟨rfl, hwx⟩
 subst wx
 go_wp2_with fail
 refine (pfail_any 2 _).mono ?_
 rintro e w2 ⟨rfl, hb2⟩
 have hrr := (hb2.block (w.heap.size + 1) (by simp)).trans (Hres.out _)
 have hb3 := (Hbel.out (.slice a n c)).trans (hb2.mono (Hbel.out (.slice a n c)).size)
 have hb4 := hb3.setCell (p := ⟨w.heap.size + 1, 0, none⟩) (show w.heap.size ≤ w.heap.size + 1 by omega) (.slice none 0 0)
 have Hb4 := hQ hb4
 have Hrr := hQ hrr
 have fr := fRw hrr 0
 have kr := (cRw hrr 0).trans rfl
 clear hb2 hb3 hb4 hrr
 go_wp2_with fail
 refine bodyPost_ret_by (five_results _ _ (w.heap.size + 1) (.slice none 0 0) rfl (by exact rSc Hrr.out 0 _)) rfl ?_
 exact ⟨rfl, Hb4.out⟩
theorem pmake_no (s N : Nat) (F : Nat → Prop) (L : List TermD) (hl : L.length ≤ 2000000) (T : List NodeD) (hfit : FitT T) (hlen : T.length ≤ 262144) (a : Option Addr) (c : Nat) (leaf ep seed : Int) (fresh : List Int) (fa : Option Addr) (fc : Nat) (w : World) (hw : MkW (PSt s) N F L a T fa fresh w) (hcond : ¬ MkCond T L leaf ep seed) :
    Calls Tryz.prog 22 #[.pointer (some ⟨s, 0, none⟩), .agg #[.slice a T.length c], .int .i64 leaf, .int .i64 ep, .int .i64 seed, .slice fa fresh.length fc] w (NoneP 1 w) := by
 have law := progLaw s
 obtain ⟨W0, hW⟩ : ∃ W0, W0 = (w.alloc (.cells #[.slice a T.length c] 44)).alloc (.cells #[.slice none 0 0] 44) := ⟨_, rfl⟩
 have hb1 : Below w.heap.size w W0 := by rw [hW]; exact ((Below.refl w.heap.size w).alloc (Nat.le_refl _) _).alloc (by simp) _
 have hrow : W0.heap[w.heap.size]? = some (boxT (.slice a T.length c)) := by rw [hW]; exact (Below.heap_alloc _ _ _ (by simp)).trans (rAl _ _ _)
 have hres : W0.heap[w.heap.size + 1]? = some (boxT (.slice none 0 0)) := by
  rw [hW]
  have := rAl (w := w.alloc (.cells #[.slice a T.length c] 44)) #[.slice none 0 0] 44 (0, 0)
  simpa using this
 have hal := fun (W : World) (h : ProgStore W s F L) => palive_any s F L W h
 have his := fun (W : World) (h : ProgStore W s F L) => sis_any s F L seed W h hl
 have hhe := fun (W : World) (h : MkW (PSt s) N F L a T fa fresh W) => aheld_any N s F L hl T hfit hlen a c W h.tz h.n3 h.size h.st h.tr.at'
 have hpa := fun (W : World) (h : MkW (PSt s) N F L a T fa fresh W) => ampath_any N h.n3 T hfit hlen a c leaf W h.tz h.size h.tr.at'
 unfold PathAns at hpa
 have H0 := hQ (hw.new law hb1)
 have Hb1 := hQ hb1
 have Hrow := hQ hrow
 have Hres := hQ hres
 have Hal := hQ hal
 have His := hQ his
 have Hhe := hQ hhe
 have Hpa := hQ hpa
 have Hcond := hQ hcond
 have hW2 := hW
 generalize (if askD T leaf = 0 then pthD T leaf.toNat else []) = pl at hpa Hpa
 obtain ⟨ak, hak⟩ : ∃ ak, ak = askD T leaf := ⟨_, rfl⟩
 rw [← hak] at Hpa
 have Hak := hQ hak
 obtain ⟨td, htd⟩ : ∃ td, td = thereD L.length seed := ⟨_, rfl⟩
 rw [← htd] at His
 have Htd := hQ htd
 clear hW hb1 hrow hres hal his hhe hpa hcond hw hfit hak htd
 go_enter Tryz.func22, Tryz.ntmps22
 go_wp2_with fail
 rw [← hW2]
 clear hW2
 refine (Hal.out _ H0.out.st).mono ?_
 rintro e wx ⟨rfl, hwx⟩
 subst wx
 obtain ⟨q, hq⟩ : ∃ q, q = w.heap.size := ⟨_, rfl⟩
 rw [← hq] at Hrow Hres ⊢
 have Hq := hQ hq; clear hq Hal
 by_cases hep : ep < 0
 · go_wp2_with fail
   refine (pfail_any 1 _).mono ?_
   rintro e wf ⟨rfl, hbf⟩
   have hrr := (hbf.block (q + 1) (Array.getElem?_eq_some_iff.1 Hres.out).1).trans Hres.out
   have hb3 := Hb1.out.trans (hbf.mono Hb1.out.size)
   have hb4 := hb3.setCell (p := ⟨q + 1, 0, none⟩) (show w.heap.size ≤ q + 1 by have := Hq.out; omega) (.slice none 0 0)
   have Hb4 := hQ hb4
   have Hrr := hQ hrr
   have fr := fRw hrr 0
   have kr := (cRw hrr 0).trans rfl
   clear hbf hb3 hb4 hrr
   go_wp2_with fail
   refine bodyPost_ret_by (five_results _ _ (q + 1) (.slice none 0 0) rfl (by exact rSc Hrr.out 0 _)) rfl ?_
   exact ⟨rfl, Hb4.out⟩
 · go_wp2_with fail
   refine (His.out _ H0.out.st).mono ?_
   rintro e w2 ⟨rfl, hb2⟩
   have hrow2 := (hb2.block q (Array.getElem?_eq_some_iff.1 Hrow.out).1).trans Hrow.out
   have hres2 := (hb2.block (q + 1) (Array.getElem?_eq_some_iff.1 Hres.out).1).trans Hres.out
   have H2 := hQ (H0.out.new law hb2)
   have Hb2 := hQ (Hb1.out.trans (hb2.mono Hb1.out.size))
   have Hrow2 := hQ hrow2
   have Hres2 := hQ hres2
   clear hb2 H0 Hb1 Hrow Hres hres2 His
   have k := (cRw hrow2 0).trans rfl
   clear hrow2
   rcases td with _ | _
   · clear k
     go_wp2_with fail
     refine (pfail_any 1 _).mono ?_
     rintro e wf ⟨rfl, hbf⟩
     have hrr := (hbf.block (q + 1) (Array.getElem?_eq_some_iff.1 Hres2.out).1).trans Hres2.out
     have hb3 := Hb2.out.trans (hbf.mono Hb2.out.size)
     have hb4 := hb3.setCell (p := ⟨q + 1, 0, none⟩) (show w.heap.size ≤ q + 1 by have := Hq.out; omega) (.slice none 0 0)
     have Hb4 := hQ hb4
     have Hrr := hQ hrr
     have fr := fRw hrr 0
     have kr := (cRw hrr 0).trans rfl
     clear hbf hb3 hb4 hrr
     go_wp2_with fail
     refine bodyPost_ret_by (five_results _ _ (q + 1) (.slice none 0 0) rfl (by exact rSc Hrr.out 0 _)) rfl ?_
     exact ⟨rfl, Hb4.out⟩
   · go_wp2_with fail
     refine (Hhe.out _ H2.out).mono ?_
     rintro e w3 ⟨⟨b, rfl, hb⟩, hb3⟩
     have hrow3 := (hb3.block q (Array.getElem?_eq_some_iff.1 Hrow2.out).1).trans Hrow2.out
     have hres3 := (hb3.block (q + 1) (Array.getElem?_eq_some_iff.1 Hres2.out).1).trans Hres2.out
     have H3 := hQ (H2.out.new law hb3)
     have Hb3 := hQ (Hb2.out.trans (hb3.mono Hb2.out.size))
     have Hres3 := hQ hres3
     have Hb := hQ hb
     clear hb3 H2 Hb2 Hrow2 Hres2 hres3 Hhe k hb
     have k := (cRw hrow3 0).trans rfl
     clear hrow3
     rcases b with _ | _
     · clear k
       go_wp2_with fail
       refine (pfail_any 1 _).mono ?_
       rintro e wf ⟨rfl, hbf⟩
       have hrr := (hbf.block (q + 1) (Array.getElem?_eq_some_iff.1 Hres3.out).1).trans Hres3.out
       have hb3 := Hb3.out.trans (hbf.mono Hb3.out.size)
       have hb4 := hb3.setCell (p := ⟨q + 1, 0, none⟩) (show w.heap.size ≤ q + 1 by have := Hq.out; omega) (.slice none 0 0)
       have Hb4 := hQ hb4
       have Hrr := hQ hrr
       have fr := fRw hrr 0
       have kr := (cRw hrr 0).trans rfl
       clear hbf hb3 hb4 hrr
       go_wp2_with fail
       refine bodyPost_ret_by (five_results _ _ (q + 1) (.slice none 0 0) rfl (by exact rSc Hrr.out 0 _)) rfl ?_
       exact ⟨rfl, Hb4.out⟩
     · have hak0 : ¬ ak = 0 := fun e => by
         have h1 := Hb.out.1 rfl
         exact Hcond.out ⟨h1.1, h1.2, by omega, Htd.out.symm, by rw [← Hak.out]; exact e⟩
       go_wp2_with fail
       refine (Hpa.out _ H3.out).mono ?_
       rintro e w4 ⟨na, nc, rfl, hown4, hg4, hb4⟩
       have hres4 := (hb4.block (q + 1) (Array.getElem?_eq_some_iff.1 Hres3.out).1).trans Hres3.out
       have Hb4' := hQ (Hb3.out.trans (hb4.mono Hb3.out.size))
       have Hres4 := hQ hres4
       clear hb4 H3 Hb3 Hres3 hres4 k hown4 hg4 Hpa
       go_wp2_with fail
       refine (pfail_any 1 _).mono ?_
       rintro e wf ⟨rfl, hbf⟩
       have hrr := (hbf.block (q + 1) (Array.getElem?_eq_some_iff.1 Hres4.out).1).trans Hres4.out
       have hb3 := Hb4'.out.trans (hbf.mono Hb4'.out.size)
       have hb4 := hb3.setCell (p := ⟨q + 1, 0, none⟩) (show w.heap.size ≤ q + 1 by have := Hq.out; omega) (.slice none 0 0)
       have Hb4 := hQ hb4
       have Hrr := hQ hrr
       have fr := fRw hrr 0
       have kr := (cRw hrr 0).trans rfl
       clear hbf hb3 hb4 hrr
       go_wp2_with fail
       refine bodyPost_ret_by (five_results _ _ (q + 1) (.slice none 0 0) rfl (by exact rSc Hrr.out 0 _)) rfl ?_
       exact ⟨rfl, Hb4.out⟩
theorem rmake_no (r N : Nat) (F : Nat → Prop) (L : List TermD) (hl : L.length ≤ 2000000) (T : List NodeD) (hfit : FitT T) (hlen : T.length ≤ 262144) (a : Option Addr) (c : Nat) (leaf ep seed : Int) (fresh : List Int) (fa : Option Addr) (fc : Nat) (w : World) (hw : MkW (RSt r) N F L a T fa fresh w) (hcond : ¬ MkCond T L leaf ep seed) :
    Calls Tryz.prog 23 #[.pointer (some ⟨r, 0, none⟩), .agg #[.slice a T.length c], .int .i64 leaf, .int .i64 ep, .int .i64 seed, .slice fa fresh.length fc] w (NoneP 1 w) := by
 have law := refLaw r
 obtain ⟨W0, hW⟩ : ∃ W0, W0 = (w.alloc (.cells #[.slice a T.length c] 44)).alloc (.cells #[.slice none 0 0] 44) := ⟨_, rfl⟩
 have hb1 : Below w.heap.size w W0 := by rw [hW]; exact ((Below.refl w.heap.size w).alloc (Nat.le_refl _) _).alloc (by simp) _
 have hrow : W0.heap[w.heap.size]? = some (boxT (.slice a T.length c)) := by rw [hW]; exact (Below.heap_alloc _ _ _ (by simp)).trans (rAl _ _ _)
 have hres : W0.heap[w.heap.size + 1]? = some (boxT (.slice none 0 0)) := by
  rw [hW]
  have := rAl (w := w.alloc (.cells #[.slice a T.length c] 44)) #[.slice none 0 0] 44 (0, 0)
  simpa using this
 have hck := fun (W : World) (h : MkW (RSt r) N F L a T fa fresh W) => archeck_any N T hfit hlen a c W h.size h.tr.at'
 have his := fun (W : World) (h : RefStore W r F L) => ris_any r F L seed W h hl
 have hhe := fun (W : World) (h : MkW (RSt r) N F L a T fa fresh W) => arheld_any N r F L hl T hlen a c W h.st h.size h.tr.at'
 have hpa := fun (W : World) (h : MkW (RSt r) N F L a T fa fresh W) => mrpath_any N T hfit hlen a c leaf W h.size h.tr.at'
 unfold PathAns at hpa
 have H0 := hQ (hw.new law hb1)
 have Hb1 := hQ hb1
 have Hrow := hQ hrow
 have Hres := hQ hres
 have Hck := hQ hck
 have His := hQ his
 have Hhe := hQ hhe
 have Hpa := hQ hpa
 have Hcond := hQ hcond
 have hW2 := hW
 generalize (if askD T leaf = 0 then pthD T leaf.toNat else []) = pl at hpa Hpa
 obtain ⟨ak, hak⟩ : ∃ ak, ak = askD T leaf := ⟨_, rfl⟩
 rw [← hak] at Hpa
 have Hak := hQ hak
 obtain ⟨td, htd⟩ : ∃ td, td = thereD L.length seed := ⟨_, rfl⟩
 rw [← htd] at His
 have Htd := hQ htd
 obtain ⟨er, her⟩ : ∃ er, er = errD T := ⟨_, rfl⟩
 rw [← her] at Hck
 have Her := hQ her
 clear hW hb1 hrow hres hck his hhe hpa hcond hw hfit hak htd her
 go_enter Tryz.func23, Tryz.ntmps23
 go_wp2_with fail
 rw [← hW2]
 clear hW2
 refine (Hck.out _ H0.out).mono ?_
 rintro e w1 ⟨rfl, hbc⟩
 obtain ⟨q, hq⟩ : ∃ q, q = w.heap.size := ⟨_, rfl⟩
 rw [← hq] at Hrow Hres ⊢
 have Hq := hQ hq; clear hq Hck
 have hrow1 := (hbc.block q (Array.getElem?_eq_some_iff.1 Hrow.out).1).trans Hrow.out
 have hres1 := (hbc.block (q + 1) (Array.getElem?_eq_some_iff.1 Hres.out).1).trans Hres.out
 have H1 := hQ (H0.out.new law hbc)
 have Hbc := hQ (Hb1.out.trans (hbc.mono Hb1.out.size))
 have Hrow1 := hQ hrow1
 have Hres1 := hQ hres1
 clear hbc hrow1 hres1 H0 Hb1 Hrow Hres
 by_cases her0 : ¬ er = 0
 · have hb4 := Hbc.out.setCell (p := ⟨q + 1, 0, none⟩) (show w.heap.size ≤ q + 1 by have := Hq.out; omega) (.slice none 0 0)
   have Hb4 := hQ hb4
   have fr := fRw Hres1.out 0
   have kr := (cRw Hres1.out 0).trans rfl
   clear hb4
   go_wp2_with fail
   refine bodyPost_ret_by (rfive_results _ _ (q + 1) (.slice none 0 0) rfl (by exact rSc Hres1.out 0 _)) rfl ?_
   exact ⟨rfl, Hb4.out⟩
 have her : er = 0 := Decidable.of_not_not her0
 have herI : (er == 0) = true := by rw [her]; rfl
 by_cases hep : ep < 0
 · have k := (cRw Hrow1.out 0).trans rfl
   clear k
   have hb4 := Hbc.out.setCell (p := ⟨q + 1, 0, none⟩) (show w.heap.size ≤ q + 1 by have := Hq.out; omega) (.slice none 0 0)
   have Hb4 := hQ hb4
   have fr := fRw Hres1.out 0
   have kr := (cRw Hres1.out 0).trans rfl
   clear hb4
   go_wp2_with fail
   refine bodyPost_ret_by (rfive_results _ _ (q + 1) (.slice none 0 0) rfl (by exact rSc Hres1.out 0 _)) rfl ?_
   exact ⟨rfl, Hb4.out⟩
 · go_wp2_with fail
   refine (His.out _ H1.out.st).mono ?_
   rintro e w2 ⟨rfl, hb2⟩
   have hrow2 := (hb2.block q (Array.getElem?_eq_some_iff.1 Hrow1.out).1).trans Hrow1.out
   have hres2 := (hb2.block (q + 1) (Array.getElem?_eq_some_iff.1 Hres1.out).1).trans Hres1.out
   have H2 := hQ (H1.out.new law hb2)
   have Hb2 := hQ (Hbc.out.trans (hb2.mono Hbc.out.size))
   have Hrow2 := hQ hrow2
   have Hres2 := hQ hres2
   clear hb2 H1 Hbc Hrow1 Hres1 hres2 His
   have k := (cRw hrow2 0).trans rfl
   clear hrow2
   rcases td with _ | _
   · clear k
     have hb4 := Hb2.out.setCell (p := ⟨q + 1, 0, none⟩) (show w.heap.size ≤ q + 1 by have := Hq.out; omega) (.slice none 0 0)
     have Hb4 := hQ hb4
     have fr := fRw Hres2.out 0
     have kr := (cRw Hres2.out 0).trans rfl
     clear hb4
     go_wp2_with fail
     refine bodyPost_ret_by (rfive_results _ _ (q + 1) (.slice none 0 0) rfl (by exact rSc Hres2.out 0 _)) rfl ?_
     exact ⟨rfl, Hb4.out⟩
   · go_wp2_with fail
     refine (Hhe.out _ H2.out).mono ?_
     rintro e w3 ⟨b, rfl, hb, hb3⟩
     have hrow3 := (hb3.block q (Array.getElem?_eq_some_iff.1 Hrow2.out).1).trans Hrow2.out
     have hres3 := (hb3.block (q + 1) (Array.getElem?_eq_some_iff.1 Hres2.out).1).trans Hres2.out
     have H3 := hQ (H2.out.new law hb3)
     have Hb3 := hQ (Hb2.out.trans (hb3.mono Hb2.out.size))
     have Hres3 := hQ hres3
     have Hb := hQ hb
     clear hb3 H2 Hb2 Hrow2 Hres2 hres3 Hhe k hb
     have k := (cRw hrow3 0).trans rfl
     clear hrow3
     rcases b with _ | _
     · clear k
       have hb4 := Hb3.out.setCell (p := ⟨q + 1, 0, none⟩) (show w.heap.size ≤ q + 1 by have := Hq.out; omega) (.slice none 0 0)
       have Hb4 := hQ hb4
       have fr := fRw Hres3.out 0
       have kr := (cRw Hres3.out 0).trans rfl
       clear hb4
       go_wp2_with fail
       refine bodyPost_ret_by (rfive_results _ _ (q + 1) (.slice none 0 0) rfl (by exact rSc Hres3.out 0 _)) rfl ?_
       exact ⟨rfl, Hb4.out⟩
     · have hak0 : ¬ ak = 0 := fun e => by
         have h1 := Hb.out.1 rfl
         have h2 := Her.out
         rw [her] at h2
         exact Hcond.out ⟨errD_zero h2.symm, h1, by omega, Htd.out.symm, by rw [← Hak.out]; exact e⟩
       go_wp2_with fail
       refine (Hpa.out _ H3.out).mono ?_
       rintro e w4 ⟨na, nc, rfl, hown4, hg4, hb4⟩
       have hres4 := (hb4.block (q + 1) (Array.getElem?_eq_some_iff.1 Hres3.out).1).trans Hres3.out
       have Hb4' := hQ (Hb3.out.trans (hb4.mono Hb3.out.size))
       have Hres4 := hQ hres4
       clear hb4 H3 Hb3 Hres3 hres4 k hown4 hg4 Hpa
       have hb4 := Hb4'.out.setCell (p := ⟨q + 1, 0, none⟩) (show w.heap.size ≤ q + 1 by have := Hq.out; omega) (.slice none 0 0)
       have Hb4 := hQ hb4
       have fr := fRw Hres4.out 0
       have kr := (cRw Hres4.out 0).trans rfl
       clear hb4
       go_wp2_with fail
       refine bodyPost_ret_by (rfive_results _ _ (q + 1) (.slice none 0 0) rfl (by exact rSc Hres4.out 0 _)) rfl ?_
       exact ⟨rfl, Hb4.out⟩
end
section
open Go Go.RowKit
structure MdAns where
 n : Nat
 nd : Nat → NodeD
 ks : List KeyP
 ss : List SealP
 cm : Int
 er : Int
 L : List TermD
noncomputable def mdAns (T : List NodeD) (L : List TermD) (leaf ep seed : Int) (fresh : List Int) : MdAns :=
 @ite _ (MkCond T L leaf ep seed) (Classical.propDecidable _)
  ⟨T.length, setF T leaf.toNat ep ((mkEnd T L leaf seed fresh).ps.getD 0 0) (mkEnd T L leaf seed fresh).ps.tail, rsD (mkEnd T L leaf seed fresh).ks, (mkEnd T L leaf seed fresh).ss, (mkL T L leaf seed).getD (mkM T leaf + 1) 0, 0, (mkEnd T L leaf seed fresh).L⟩
  ⟨0, fun _ => zeroN, [], [], 0, 1, L⟩
def TreeB (N0 : Nat) (w : World) (v : Value) (n : Nat) (nd : Nat → NodeD) (U : Nat → Value) : Prop :=
 (n = 0 ∧ v = .slice none 0 0) ∨ ∃ g c, v = .slice (some ⟨g, 0, none⟩) n c ∧ TreeO N0 w g n c nd U
theorem TreeB.form {N0 : Nat} {w : World} {v : Value} {n : Nat} {nd : Nat → NodeD} {U : Nat → Value} (h : TreeB N0 w v n nd U) : ∃ a c, v = .slice a n c := by
 rcases h with ⟨rfl, e⟩ | ⟨g, c, e, _⟩
 · exact ⟨none, 0, e⟩
 · exact ⟨_, c, e⟩
theorem TreeB.kept {N0 : Nat} {w w' : World} {v : Value} {n : Nat} {nd : Nat → NodeD} {U : Nat → Value} {F : Nat → Prop} (h : TreeB N0 w v n nd U) (hT : Turned F w w') (hv : ∀ x, v.ownBlock = some x → ¬ F x) (hu : ∀ i, i < n → ∀ b, (U i).ownBlock = some b → ¬ F b) : TreeB N0 w' v n nd U := by
 rcases h with h | ⟨g, c, e, h⟩
 · exact .inl h
 · exact .inr ⟨g, c, e, h.kept hT (hv g (by rw [e]; rfl)) hu⟩
def MdOut (St : World → (Nat → Prop) → List TermD → Prop) (N : Nat) (F : Nat → Prop) (a : Option Addr) (T : List NodeD) (fa : Option Addr) (fresh : List Int) (A : MdAns) (w : World) (e : Ending) (w' : World) : Prop :=
 ∃ v vk vs U F', e = .returned (.tuple #[.agg #[v], vk, vs, .int .i64 A.cm, .int .i64 A.er]) ∧ TreeB w.heap.size w' v A.n A.nd U ∧ OwnK vk A.ks w' ∧ OwnS vs A.ss w' ∧ MkW St N F' A.L a T fa fresh w' ∧ Ext F F' w w' ∧ Turned F w w' ∧
  (∀ x, (v.ownBlock = some x ∨ vk.ownBlock = some x ∨ vs.ownBlock = some x ∨ ∃ i, i < A.n ∧ (U i).ownBlock = some x) → w.heap.size ≤ x ∧ ¬ F' x) ∧
  (∀ x, vk.ownBlock = some x → vs.ownBlock ≠ some x ∧ v.ownBlock ≠ some x ∧ ∀ i, i < A.n → (U i).ownBlock ≠ some x) ∧
  (∀ x, vs.ownBlock = some x → v.ownBlock ≠ some x ∧ ∀ i, i < A.n → (U i).ownBlock ≠ some x)
theorem md_made {St : World → (Nat → Prop) → List TermD → Prop} {N : Nat} {F : Nat → Prop} {L : List TermD} {a fa : Option Addr} {T : List NodeD} {fresh : List Int} {leaf ep seed : Int} {w : World} (hc : MkCond T L leaf ep seed) {e : Ending} {w' : World} (h : MadeP St N F L a T fa fresh leaf ep seed w e w') :
    MdOut St N F a T fa fresh (mdAns T L leaf ep seed fresh) w e w' := by
 unfold mdAns
 rw [if_pos hc]
 obtain ⟨g, cap, U, ka, kc, sa, sc, F', he, ht, hk, hs, hw, hx, hT, h1, h2, h3⟩ := h
 refine ⟨_, _, _, U, F', he, .inr ⟨g, cap, rfl, ht⟩, hk, hs, hw, hx, hT, fun x hx => h1 x ?_, fun x hx => ⟨(h2 x hx).1, fun e => (h2 x hx).2.1 ?_, (h2 x hx).2.2⟩, fun x hx => ⟨fun e => (h3 x hx).1 ?_, (h3 x hx).2⟩⟩
 · rcases hx with h | h | h | h
   · exact .inl (by simpa [Value.ownBlock] using h.symm)
   · exact .inr (.inl h)
   · exact .inr (.inr (.inl h))
   · exact .inr (.inr (.inr h))
 · simpa [Value.ownBlock] using e.symm
 · simpa [Value.ownBlock] using e.symm
theorem md_none {St : World → (Nat → Prop) → List TermD → Prop} (law : StoreLaw St) {N : Nat} {F : Nat → Prop} {L : List TermD} {a fa : Option Addr} {T : List NodeD} {fresh : List Int} {leaf ep seed : Int} {w : World} (hc : ¬ MkCond T L leaf ep seed) (hw : MkW St N F L a T fa fresh w) {e : Ending} {w' : World} (h : NoneP 1 w e w') :
    MdOut St N F a T fa fresh (mdAns T L leaf ep seed fresh) w e w' := by
 unfold mdAns
 rw [if_neg hc]
 have n0 : ∀ g, (Value.slice none 0 0).ownBlock = some g → False := fun g hg => by simp [Value.ownBlock] at hg
 refine ⟨.slice none 0 0, .slice none 0 0, .slice none 0 0, fun _ => .slice none 0 0, F, h.1, .inl ⟨rfl, rfl⟩, ⟨rfl, .inl ⟨rfl, rfl⟩⟩, ⟨rfl, .inl ⟨rfl, rfl⟩⟩, hw.new law h.2, Ext.refl _ _ _, Turned.new F h.2, fun x hx => ?_, fun x hx => (n0 x hx).elim, fun x hx => (n0 x hx).elim⟩
 rcases hx with h | h | h | ⟨i, hi, _⟩
 · exact (n0 x h).elim
 · exact (n0 x h).elim
 · exact (n0 x h).elim
 · exact absurd hi (Nat.not_lt_zero _)
theorem pmd_any (s N : Nat) (F : Nat → Prop) (L : List TermD) (hG : Good L) (hM : AllMay L) (hl : L.length ≤ 3000) (T : List NodeD) (hfit : FitT T) (hlen : T.length ≤ 262144) (a : Option Addr) (c : Nat) (leaf ep seed : Int) (fresh : List Int) (hfl : fresh.length ≤ 1000000000) (fa : Option Addr) (fc : Nat) (w : World) (hw : MkW (PSt s) N F L a T fa fresh w) :
    Calls Tryz.prog 22 #[.pointer (some ⟨s, 0, none⟩), .agg #[.slice a T.length c], .int .i64 leaf, .int .i64 ep, .int .i64 seed, .slice fa fresh.length fc] w (MdOut (PSt s) N F a T fa fresh (mdAns T L leaf ep seed fresh) w) := by
 by_cases hc : MkCond T L leaf ep seed
 · exact (pmake_any s N F L hG hM hl T hfit hlen a c leaf ep seed fresh hfl fa fc w hw hc).mono fun e w' h => md_made hc h
 · exact (pmake_no s N F L (by omega) T hfit hlen a c leaf ep seed fresh fa fc w hw hc).mono fun e w' h => md_none (progLaw s) hc hw h
theorem rmd_any (r N : Nat) (F : Nat → Prop) (L : List TermD) (hG : Good L) (hM : AllMay L) (hl : L.length ≤ 3000) (T : List NodeD) (hfit : FitT T) (hlen : T.length ≤ 262144) (a : Option Addr) (c : Nat) (leaf ep seed : Int) (fresh : List Int) (hfl : fresh.length ≤ 1000000000) (fa : Option Addr) (fc : Nat) (w : World) (hw : MkW (RSt r) N F L a T fa fresh w) :
    Calls Tryz.prog 23 #[.pointer (some ⟨r, 0, none⟩), .agg #[.slice a T.length c], .int .i64 leaf, .int .i64 ep, .int .i64 seed, .slice fa fresh.length fc] w (MdOut (RSt r) N F a T fa fresh (mdAns T L leaf ep seed fresh) w) := by
 by_cases hc : MkCond T L leaf ep seed
 · exact (rmake_path r N F L hG hM hl T hfit hlen a c leaf ep seed fresh hfl fa fc w hw hc).mono fun e w' h => md_made hc h
 · exact (rmake_no r N F L (by omega) T hfit hlen a c leaf ep seed fresh fa fc w hw hc).mono fun e w' h => md_none (refLaw r) hc hw h
structure MdFacts (A : MdAns) : Prop where
 good : Good A.L
 may : AllMay A.L
 len : A.L.length ≤ 4000
 few : A.n ≤ 15
 kfew : A.ks.length ≤ 100
 sfew : A.ss.length ≤ 1000
 nodes : ∀ x, x < A.n → (0 ≤ (A.nd x).pub ∧ (A.nd x).pub ≤ A.L.length) ∧ (A.nd x).um.length ≤ 8
 keys : ∀ k ∈ A.ks, 0 ≤ k.2 ∧ k.2 ≤ A.L.length
 seals : ∀ s ∈ A.ss, 0 ≤ s.2.2 ∧ s.2.2 ≤ A.L.length
 cm : 0 ≤ A.cm ∧ A.cm ≤ A.L.length
theorem zeroF_all {Q : NodeD → Prop} (h0 : Q ⟨0, 0, 0, []⟩) : ∀ (l : List Nat) (nd : Nat → NodeD) (n : Nat), (∀ x, x < n → Q (nd x)) → ∀ x, x < n → Q (zeroF nd l x)
 | [], _, _, h => h
 | y :: l, nd, n, h => by
  show ∀ x, x < n → Q (zeroF (updF nd y ⟨0, 0, 0, []⟩) l x)
  refine zeroF_all h0 l _ n (fun x hx => ?_)
  by_cases e : x = y
  · subst e; rw [uSm]; exact h0
  · rw [uOt e]; exact h x hx
theorem pubF_all {Q : NodeD → Prop} : ∀ (l : List (Nat × Int)) (nd : Nat → NodeD) (n : Nat), (∀ p ∈ l, Q ⟨p.2, 0, 0, []⟩) → (∀ x, x < n → Q (nd x)) → ∀ x, x < n → Q (pubF nd l x)
 | [], _, _, _, h => h
 | y :: l, nd, n, hp, h => by
  show ∀ x, x < n → Q (pubF (updF nd y.1 ⟨y.2, 0, 0, []⟩) l x)
  refine pubF_all l _ n (fun p hp2 => hp p (List.mem_cons_of_mem _ hp2)) (fun x hx => ?_)
  by_cases e : x = y.1
  · subst e; rw [uSm]; exact hp y (List.mem_cons_self ..)
  · rw [uOt e]; exact h x hx
theorem md_facts {T : List NodeD} {L : List TermD} {leaf ep seed : Int} (fresh : List Int) (hG : Good L) (hM : AllMay L) (hl : L.length ≤ 3000) : MdFacts (mdAns T L leaf ep seed fresh) := by
 unfold mdAns
 by_cases hc : MkCond T L leaf ep seed
 · rw [if_pos hc]
   have hmf := mk_facts fresh hG hM hl hc
   have m3 := hmf.m3
   obtain ⟨h1, h2, h3⟩ := mkGo_ok hmf.good hmf.may hmf.len (n := mkM T leaf + 1) (by omega) hmf.rows (mkM T leaf + 1) (Nat.le_refl _)
   have hlen := h1.len
   have hgr := h1.grow
   have hgr2 := hmf.grow
   obtain ⟨hok, hheld, hep, hseed, hask⟩ := hc
   obtain ⟨_, _, _, hn, hT, _⟩ := ask_zero hask
   have hl1 := hmf.len
   have hTl : T.length ≤ 15 := by rcases hn with h | h | h | h <;> omega
   have hps : ∀ p ∈ (mkEnd T L leaf seed fresh).ps, 1 ≤ p ∧ p ≤ (mkEnd T L leaf seed fresh).L.length := h1.pubs
   refine ⟨h1.good, h1.may, ?_, hTl, ?_, ?_, ?_, fun k hk => h1.keys k (mem_risingD hk), h1.seals, ?_⟩
   · show (mkGo _ _ _ _).L.length ≤ 4000
     omega
   · refine Nat.le_trans (risingD_len _) ?_
     show (mkGo _ _ _ _).ks.length ≤ 100
     omega
   · show (mkGo _ _ _ _).ss.length ≤ 1000
     omega
   · have hp0 : 0 ≤ (mkEnd T L leaf seed fresh).ps.getD 0 0 ∧ (mkEnd T L leaf seed fresh).ps.getD 0 0 ≤ (mkEnd T L leaf seed fresh).L.length := by
       have hpl : 0 < (mkEnd T L leaf seed fresh).ps.length := by
        have := h1.lenp
        show 0 < (mkGo _ _ _ _).ps.length
        omega
       have := hps _ (get_list (i := 0) 0 hpl)
       omega
     have hold : ∀ x, x < T.length → (0 ≤ (nodeD T x).pub ∧ (nodeD T x).pub ≤ (mkEnd T L leaf seed fresh).L.length) ∧ (nodeD T x).um.length ≤ 8 := fun x hx => by
      have hu := um_ok hok hx
      refine ⟨⟨hu.1, ?_⟩, hu.2.1⟩
      rcases hheld x hx with h | h
      · rw [h]; exact Int.natCast_nonneg _
      · have := tBd h
        show _ ≤ ((mkGo _ _ _ _).L.length : Int)
        omega
     have z0 : (0 : Int) ≤ ((mkEnd T L leaf seed fresh).L.length : Int) := Int.natCast_nonneg _
     show ∀ x, x < T.length → (fun d : NodeD => (0 ≤ d.pub ∧ d.pub ≤ ((mkEnd T L leaf seed fresh).L.length : Int)) ∧ d.um.length ≤ 8) (setF T leaf.toNat ep ((mkEnd T L leaf seed fresh).ps.getD 0 0) (mkEnd T L leaf seed fresh).ps.tail x)
     unfold setF
     have hz : (fun d : NodeD => (0 ≤ d.pub ∧ d.pub ≤ ((mkEnd T L leaf seed fresh).L.length : Int)) ∧ d.um.length ≤ 8) ⟨0, 0, 0, []⟩ := ⟨⟨Int.le_refl 0, z0⟩, by simp⟩
     refine pubF_all (Q := (fun d : NodeD => (0 ≤ d.pub ∧ d.pub ≤ ((mkEnd T L leaf seed fresh).L.length : Int)) ∧ d.um.length ≤ 8)) _ _ _ (fun p hp => ?_) (zeroF_all (Q := (fun d : NodeD => (0 ≤ d.pub ∧ d.pub ≤ ((mkEnd T L leaf seed fresh).L.length : Int)) ∧ d.um.length ≤ 8)) hz _ _ _ (fun x hx => ?_))
     · have := hps _ (List.mem_of_mem_tail (List.of_mem_zip hp).2)
       exact ⟨⟨by show 0 ≤ p.2; omega, this.2⟩, by simp⟩
     · unfold leafF
       by_cases e : x = 2 * leaf.toNat
       · subst e
         rw [uSm]
         exact ⟨hp0, (hold _ hx).2⟩
       · rw [uOt e, uOt e]
         exact hold x hx
   · have := tBd (hmf.there _ (get_list (i := mkM T leaf + 1) 0 (by rw [hmf.llen]; omega)))
     show 0 ≤ (mkL T L leaf seed).getD (mkM T leaf + 1) 0 ∧ (mkL T L leaf seed).getD (mkM T leaf + 1) 0 ≤ ((mkGo _ _ _ _).L.length : Int)
     omega
 · rw [if_neg hc]
   exact ⟨hG, hM, by show L.length ≤ 4000; omega, by simp, by simp, by simp, fun x hx => absurd hx (Nat.not_lt_zero _), fun k hk => by simp at hk, fun k hk => by simp at hk, by simp⟩
end
section
open Go Go.RowKit
def SealsAt (w : World) (a : Option Addr) (l : List SealP) : Prop := ∀ i, i < l.length → ∃ b o, a = some ⟨b, o, none⟩ ∧ w.cell? ⟨b, o + i * 3, none⟩ = some (.int .i64 ((l.getD i (0, 0, 0)).1 : Nat)) ∧ w.cell? ⟨b, o + i * 3 + 1, none⟩ = some (.int .i64 ((l.getD i (0, 0, 0)).2.1 : Nat)) ∧ w.cell? ⟨b, o + i * 3 + 2, none⟩ = some (.int .i64 (l.getD i (0, 0, 0)).2.2)
theorem slV_get (l : List SealP) {i j : Nat} (hi : i < l.length) (hj : j < 3) : (l.flatMap slV)[i * 3 + j]? = (slV (l.getD i (0, 0, 0)))[j]? := by
 have e : l.flatMap slV = (List.range l.length).flatMap fun k => slV (l.getD k (0, 0, 0)) := by
  rw [show (List.range l.length).flatMap (fun k => slV (l.getD k (0, 0, 0))) = ((List.range l.length).map fun k => l.getD k (0, 0, 0)).flatMap slV by rw [List.flatMap_map]]
  congr 1
  apply List.ext_getElem?
  intro k
  by_cases h : k < l.length
  · simp [h]
  · rw [List.getElem?_eq_none (by omega), List.getElem?_eq_none (by simp; omega)]
 rw [e]
 exact flat_get (fun k => slV (l.getD k (0, 0, 0))) 3 (fun _ => rfl) _ i j hi hj
theorem seals_own {w : World} {a : Option Addr} {n c : Nat} {l : List SealP} (h : OwnS (.slice a n c) l w) : SealsAt w a l := fun i hi => by
 rcases h.2 with ⟨e, h2⟩ | ⟨g, cap, cur, e, hB, hg, h4, h5, hsz, ht⟩
 · omega
 · obtain ⟨rfl, rfl, rfl⟩ : a = some ⟨g, 0, none⟩ ∧ n = l.length ∧ c = cap := by simpa using e
   have hc : ∀ j, j < 3 → w.cell? ⟨g, 0 + i * 3 + j, none⟩ = (slV (l.getD i (0, 0, 0)))[j]? := fun j hj => by
    rw [Nat.zero_add, cRw hg, ← slV_get l hi hj, ← ht, List.getElem?_take, if_pos (by omega), Array.getElem?_toList]
   exact ⟨g, 0, rfl, hc 0 (by omega), hc 1 (by omega), hc 2 (by omega)⟩
theorem mseals_any (mp n : Nat) (ss : List SealP) (aa ab : Option Addr) (ca cb : Nat) (hn : n ≤ 100000) (hl : ∀ y ∈ ss, 0 ≤ y.2.2 ∧ y.2.2 < n) (hll : ss.length ≤ 1000) (w : World) (h : MapAt w mp n) (ha : SealsAt w aa ss) (hb : SealsAt w ab ss) :
    Calls Tryz.prog 25 #[.pointer (some ⟨mp, 0, none⟩), .slice aa ss.length ca, .slice ab ss.length cb] w fun e w' => e = .returned (.bool true) ∧ ∃ d, w' = w.drewN d := by
 have HA := hQ ha; clear ha
 have HB := hQ hb; clear hb
 have H := hQ h; clear h
 have Hl := hQ hl; clear hl
 have hlI : (ss.length : Int) ≤ 1000 := by omega
 go_enter Tryz.func25, Tryz.ntmps25
 go_wp2
 go_loopw [7] (fun i wr => NumRel ss.length w i wr) (fun i _ => ss.length - (intOf i).toNat)
 case atStart => exact ⟨0, 0, Nat.zero_le _, rfl, rfl⟩
 case round =>
  obtain ⟨k, d, hk, rfl, hwr⟩ := hrel
  have hcell : ∀ p, wr.cell? p = w.cell? p := fun p => by rw [hwr]; rfl
  have hmap : MapAt wr mp n := by rw [hwr]; exact H.out
  have Hwr := hQ hwr; clear hwr
  by_cases hlt : k < ss.length
  · obtain ⟨ga, oa, rfl, xa0, xa1, xa2⟩ := HA.out k hlt
    obtain ⟨gb, ob, rfl, xb0, xb1, xb2⟩ := HB.out k hlt
    rw [← hcell] at xa0 xa1 xa2 xb0 xb1 xb2
    clear hcell
    have hy := Hl.out (ss.getD k (0, 0, 0)) (by rw [List.getD_eq_getElem?_getD, List.getElem?_eq_getElem hlt]; exact List.getElem_mem _)
    generalize ss.getD k (0, 0, 0) = y at xa0 xa1 xa2 xb0 xb1 xb2 hy
    obtain ⟨y1, y2, y3⟩ := y
    simp only at xa0 xa1 xa2 xb0 xb1 xb2 hy
    obtain ⟨x, rfl⟩ : ∃ x : Nat, y3 = x := ⟨y3.toNat, by omega⟩
    have hs := fun d' => same_any mp n x (by omega) hn (wr.drewN d') hmap
    have Hs := hQ hs; clear hs hy hmap
    have hkl : (k : Int) < ss.length := by omega
    generalize (y1 : Int) = z1 at xa0 xb0
    generalize (y2 : Int) = z2 at xa1 xb1
    go_wp2_with fail
    go_quiet ((go_at_call 13; exact Calls.quiet_of_same (Hs.out _)))
    go_wp2
    exact ⟨⟨k + 1, d + nq, by omega, by go_num, by rw [Hwr.out, World.drewN_drewN]⟩, by simp [intOf]; omega⟩
  · obtain rfl : k = ss.length := by omega
    clear hcell hmap
    go_wp2
    go_ret
    exact ⟨rfl, d, Hwr.out⟩
theorem MapAt.new {w w' : World} {mp n : Nat} (h : MapAt w mp n) (hb : Below w.heap.size w w') : MapAt w' mp n := by
 obtain ⟨v, h1, h2, h3⟩ := h
 exact ⟨v, (hb.block mp (Array.getElem?_eq_some_iff.1 h1).1).trans h1, ownI_below h2 hb, h3⟩
def TrRel (n : Nat) (w : World) (i : Value) (wr : World) : Prop := ∃ k : Nat, k ≤ n ∧ i = .int .i64 k ∧ Below w.heap.size w wr
def TrIn (n : Nat) (w : World) (i : Value) (wr : World) : Prop := ∃ k d : Nat, k ≤ n ∧ i = .int .i64 k ∧ wr = w.drewN d
theorem mtree_any (mp n : Nat) (T : List NodeD) (aa ab : Option Addr) (ca cb : Nat) (hn : n ≤ 100000) (hT : T.length ≤ 100) (hp : ∀ x, x < T.length → (0 ≤ (nodeD T x).pub ∧ (nodeD T x).pub < n) ∧ (nodeD T x).um.length ≤ 1000) (w : World) (h : MapAt w mp n) (ha : TreeAt w.heap.size w aa T) (hb : TreeAt w.heap.size w ab T) :
    Calls Tryz.prog 24 #[.pointer (some ⟨mp, 0, none⟩), .agg #[.slice aa T.length ca], .agg #[.slice ab T.length cb]] w fun e w' => e = .returned (.bool true) ∧ Below w.heap.size w w' := by
 obtain ⟨w1, hw1⟩ : ∃ w1, w1 = (w.alloc (boxT (.slice aa T.length ca))).alloc (boxT (.slice ab T.length cb)) := ⟨_, rfl⟩
 have hb1 : Below w.heap.size w w1 := by rw [hw1]; exact ((Below.refl w.heap.size w).alloc (Nat.le_refl _) _).alloc (by simp) _
 have r0 : w1.heap[w.heap.size]? = some (boxT (.slice aa T.length ca)) := by rw [hw1]; exact (Below.heap_alloc _ _ _ (by simp)).trans (rAl _ _ _)
 have r1 : w1.heap[w.heap.size + 1]? = some (boxT (.slice ab T.length cb)) := by
  rw [hw1]
  have := rAl (w := w.alloc (boxT (.slice aa T.length ca))) #[.slice ab T.length cb] 44 (0, 0)
  simpa using this
 have Hb1 := hQ hb1
 have HA := hQ (ha.below hb1)
 have HB := hQ (hb.below hb1)
 have HM := hQ (h.new hb1)
 have Hp := hQ hp
 have hTI : (T.length : Int) ≤ 100 := by omega
 have R0 := hQ r0
 have R1 := hQ r1
 have Hw1 := hQ hw1
 clear ha hb h hp hb1 r0 r1 hw1
 go_enter Tryz.func24, Tryz.ntmps24
 go_wp2
 obtain ⟨q, hq⟩ : ∃ q, q = w.heap.size := ⟨_, rfl⟩
 have Hq := hQ hq
 rw [← Hw1.out, ← hq]
 clear hq Hw1
 go_loopw [7] (fun i wr => TrRel T.length w1 i wr) (fun i _ => T.length - (intOf i).toNat)
 case atStart => exact ⟨0, Nat.zero_le _, rfl, Below.refl _ _⟩
 case round =>
  obtain ⟨k, hk, rfl, hbr⟩ := hrel
  have hq1 : q + 1 < w1.heap.size := by rw [Hq.out]; exact (Array.getElem?_eq_some_iff.1 R1.out).1
  have x0 : wr.cell? ⟨q, 0, none⟩ = some (.slice aa T.length ca) := (hbr.cell (p := ⟨q, 0, none⟩) (by simp only; omega)).trans ((cRw (by rw [Hq.out]; exact R0.out) 0).trans rfl)
  have x1 : wr.cell? ⟨q + 1, 0, none⟩ = some (.slice ab T.length cb) := (hbr.cell (p := ⟨q + 1, 0, none⟩) hq1).trans ((cRw (by rw [Hq.out]; exact R1.out) 0).trans rfl)
  have hqw : q + 1 < wr.heap.size := Nat.lt_of_lt_of_le hq1 hbr.size
  have Hbr := hQ hbr
  by_cases hlt : k < T.length
  · have hsz : w.heap.size ≤ w1.heap.size := Hb1.out.size
    obtain ⟨ga, oa, rfl, hna⟩ := HA.out.below (hbr.mono hsz) k hlt
    obtain ⟨gb, ob, rfl, hnb⟩ := HB.out.below (hbr.mono hsz) k hlt
    have hgal : ga < wr.heap.size := Nat.lt_of_lt_of_le hna.lt (Nat.le_trans hsz hbr.size)
    have hgbl : gb < wr.heap.size := Nat.lt_of_lt_of_le hnb.lt (Nat.le_trans hsz hbr.size)
    obtain ⟨ua, uca, a3, hua⟩ := hna.c3
    obtain ⟨ub, ucb, b3, hub⟩ := hnb.c3
    have a0 := hna.c0
    have a1 := hna.c1
    have a2 := hna.c2
    have b0 := hnb.c0
    have b1 := hnb.c1
    have b2 := hnb.c2
    have hpk := Hp.out k hlt
    have HUA := hQ hua
    have HUB := hQ hub
    have hmap : MapAt wr mp n := HM.out.new hbr
    generalize nodeD T k = d at a0 a1 a2 a3 b0 b1 b2 b3 hpk HUA HUB
    obtain ⟨dp, dm, de, du⟩ := d
    simp only at a0 a1 a2 a3 b0 b1 b2 b3 hpk
    obtain ⟨x, rfl⟩ : ∃ x : Nat, dp = x := ⟨dp.toNat, by omega⟩
    have hs := fun (W : World) (hW : Below wr.heap.size wr W) => same_any mp n x (by omega) hn W (hmap.new hW)
    have Hs := hQ hs
    have hkI : (k : Int) < T.length := by omega
    have hdl := hpk.2
    have hdI : (du.length : Int) ≤ 1000 := by omega
    clear hbr hna hnb hua hub hmap hs hpk
    go_wp2_with fail
    obtain ⟨w2, hw2⟩ : ∃ w2, w2 = (wr.alloc (.cells #[.int .i64 x, .int .i64 dm, .int .i64 de, .slice ua du.length uca] 125)).alloc (.cells #[.int .i64 x, .int .i64 dm, .int .i64 de, .slice ub du.length ucb] 125) := ⟨_, rfl⟩
    rw [← hw2]
    have hb2 : Below wr.heap.size wr w2 := by rw [hw2]; exact ((Below.refl wr.heap.size wr).alloc (Nat.le_refl _) _).alloc (by simp) _
    have ra : w2.heap[wr.heap.size]? = some (.cells #[.int .i64 x, .int .i64 dm, .int .i64 de, .slice ua du.length uca] 125 (0, 0)) := by rw [hw2]; exact (Below.heap_alloc _ _ _ (by simp)).trans (rAl _ _ _)
    have rb : w2.heap[wr.heap.size + 1]? = some (.cells #[.int .i64 x, .int .i64 dm, .int .i64 de, .slice ub du.length ucb] 125 (0, 0)) := by
     rw [hw2]
     have := rAl (w := wr.alloc (.cells #[.int .i64 x, .int .i64 dm, .int .i64 de, .slice ua du.length uca] 125)) #[.int .i64 x, .int .i64 dm, .int .i64 de, .slice ub du.length ucb] 125 (0, 0)
     simpa using this
    obtain ⟨p, hpq⟩ : ∃ p, p = wr.heap.size := ⟨_, rfl⟩
    rw [← hpq] at ra rb ⊢
    refine (Hs.out w2 hb2).mono ?_
    rintro e wx ⟨rfl, hwx⟩
    subst wx
    have p1 := (cRw ra 1).trans (show _ = some (Value.int .i64 dm) from rfl)
    have p2 := (cRw ra 2).trans (show _ = some (Value.int .i64 de) from rfl)
    have p3 := (cRw ra 3).trans (show _ = some (Value.slice ua du.length uca) from rfl)
    have r1 := (cRw rb 1).trans (show _ = some (Value.int .i64 dm) from rfl)
    have r2 := (cRw rb 2).trans (show _ = some (Value.int .i64 de) from rfl)
    have r3 := (cRw rb 3).trans (show _ = some (Value.slice ub du.length ucb) from rfl)
    have Hb2 := hQ hb2
    have HUA2 := hQ (HUA.out.below (hb2.mono (Nat.le_trans hsz Hbr.out.size)))
    have HUB2 := hQ (HUB.out.below (hb2.mono (Nat.le_trans hsz Hbr.out.size)))
    clear hw2 hb2 ra rb hpq Hs a0 a1 a2 a3 b0 b1 b2 b3
    go_wp2_with fail
    go_loopw [10] (fun i wq => TrIn du.length w2 i wq) (fun i _ => du.length - (intOf i).toNat)
    case atStart => exact ⟨0, 0, Nat.zero_le _, rfl, rfl⟩
    case round =>
     obtain ⟨j, dd, hj, rfl, hwq⟩ := hrel
     have hcell : ∀ p, wr.cell? p = w2.cell? p := fun p => by rw [hwq]; rfl
     have Hwq := hQ hwq; clear hwq
     rw [← hcell] at p1 p2 p3 r1 r2 r3
     by_cases hjl : j < du.length
     · obtain ⟨ba, oa', rfl, _, xa⟩ := HUA2.out j hjl
       obtain ⟨bb, ob', rfl, _, xb⟩ := HUB2.out j hjl
       have hjI : (j : Int) < du.length := by omega
       rw [← hcell] at xa xb
       clear hcell
       generalize du.getD j 0 = y at xa xb
       have hxx : (y != y) = false := by simp
       go_wp2_with fail
       go_quiet (fail)
       go_wp2
       exact ⟨⟨j + 1, dd + nq, by omega, by go_num, by rw [Hwq.out, World.drewN_drewN]⟩, by simp [intOf]; omega⟩
     · obtain rfl : j = du.length := by omega
       have hjI : ¬ (du.length : Int) < du.length := by omega
       clear hcell
       go_wp2
       exact ⟨⟨k + 1, by omega, by go_num, by rw [Hwq.out]; exact bDr (Hbr.out.trans (Hb2.out.mono Hbr.out.size)) dd⟩, by simp [intOf]; omega⟩
  · obtain rfl : k = T.length := by omega
    have hkI : ¬ (T.length : Int) < T.length := by omega
    clear hbr
    go_wp2
    go_ret
    exact ⟨rfl, Hb1.out.trans (Hbr.out.mono Hb1.out.size)⟩
def TszRel2 (T : List NodeD) (W : World) (n i : Value) (wr : World) : Prop :=
 ∃ (k : Nat) (N : Int), k ≤ T.length ∧ i = .int .i64 k ∧ n = .int .i64 N ∧ wr = W ∧ (T.length : Int) ≤ N ∧ N ≤ 100000000000000 ∧ ∀ x, x < k → ((nodeD T x).um.length : Int) ≤ N
theorem treesize_full (B : Nat) (T : List NodeD) (hlen : T.length ≤ 20000000000000) (hul : ∀ x, x < T.length → (nodeD T x).um.length ≤ 20000000000000) (a : Option Addr) (c : Nat) (w : World) (hB : B ≤ w.heap.size) (hT : TreeAt B w a T) :
    Calls Tryz.prog 16 #[.agg #[.slice a T.length c]] w fun e w' => ∃ N : Int, e = .returned (.int .i64 N) ∧ ((T.length : Int) ≤ N ∧ N ≤ 100000000000000) ∧ (N ≤ 262144 → ∀ x, x < T.length → (nodeD T x).um.length ≤ 262144) ∧ Below w.heap.size w w' := by
 have hb := (Below.refl w.heap.size w).alloc (Nat.le_refl _) (boxT (.slice a T.length c))
 have hrow := rAl (w := w) #[.slice a T.length c] 44 (0, 0)
 have hT1 := hT.below (hb.mono hB)
 have hlI : (T.length : Int) ≤ 20000000000000 := by omega
 have Hul := hQ hul
 clear hul
 go_enter Tryz.func16, Tryz.ntmps16
 go_wp2
 obtain ⟨q, hq⟩ : ∃ q, q = w.heap.size := ⟨_, rfl⟩
 rw [← hq] at hrow ⊢
 have kb := (cRw hrow 0).trans rfl
 have Hb := hQ hb
 clear hb hq hT hB
 generalize w.alloc (boxT (.slice a T.length c)) = w1 at Hb hT1 hrow kb ⊢
 have HT := hQ hT1; clear hT1 hrow
 go_loopw [3, 4] (fun n i wr => TszRel2 T w1 n i wr) (fun _ i _ => T.length - (intOf i).toNat)
 case atStart => exact ⟨0, _, Nat.zero_le _, rfl, rfl, rfl, Int.le_refl _, by omega, fun x hx => absurd hx (Nat.not_lt_zero _)⟩
 case round =>
  obtain ⟨k, N, hk, rfl, rfl, rfl, hTN, hNb, hall⟩ := hrel
  have Hall := hQ hall; clear hall
  by_cases hgo : k < T.length ∧ N ≤ 262144
  · obtain ⟨hlt, hN⟩ := hgo
    obtain ⟨b, o, rfl, hnode⟩ := HT.out k hlt
    obtain ⟨ua, uc, k3, _⟩ := hnode.c3
    have hkI : (k : Int) < T.length := by omega
    have hu := Hul.out k hlt
    obtain ⟨ul, hule⟩ : ∃ ul, ul = (nodeD T k).um.length := ⟨_, rfl⟩
    rw [← hule] at k3 hu
    have Hule := hQ hule
    have hulI : (ul : Int) ≤ 20000000000000 := by omega
    have hul0 : (0 : Int) ≤ ul := by omega
    have hN0 : (0 : Int) ≤ N := by omega
    clear hnode hule
    go_wp2
    refine ⟨⟨k + 1, _, by omega, by go_num, rfl, rfl, by omega, by omega, fun x hx => ?_⟩, by simp [intOf]; omega⟩
    by_cases e : x = k
    · subst e
      rw [← Hule.out]
      omega
    · have := Hall.out x (by omega)
      omega
  · have hres : N ≤ 262144 → ∀ x, x < T.length → (nodeD T x).um.length ≤ 262144 := fun h x hx => by
      have hk2 : ¬ k < T.length := fun h2 => hgo ⟨h2, h⟩
      have := Hall.out x (by omega)
      omega
    have Hres := hQ hres; clear hres
    by_cases hlt : k < T.length
    · have hkI : (k : Int) < T.length := by omega
      have hN : ¬ N ≤ 262144 := fun h => hgo ⟨hlt, h⟩
      clear hgo
      go_wp2
      go_ret
      exact ⟨N, rfl, ⟨hTN, hNb⟩, Hres.out, Hb.out⟩
    · have hkI : ¬ (k : Int) < T.length := by omega
      clear hgo
      go_wp2
      go_ret
      exact ⟨N, rfl, ⟨hTN, hNb⟩, Hres.out, Hb.out⟩
theorem beyond_two (g : Nat) (N M : Int) (hN : 0 ≤ N) (hM : 0 ≤ M) (hM2 : M ≤ 20000000000000) (hN2 : N ≤ 9223372036854775807) (w : World) (h : w.cell? ⟨g, 0, none⟩ = some (.int .i64 N)) (h2 : w.cell? ⟨g, 1, none⟩ = some (.int .i64 M)) :
    Calls Tryz.prog 15 #[.slice (some ⟨g, 0, none⟩) 2 2] w fun e w' => e = .returned (.bool (decide (262144 < N + M))) ∧ w' = w := by
 have h0 : ¬ N < 0 := by omega
 have h0' : ¬ M < 0 := by omega
 by_cases h1 : 262144 < N
 · go_enter Tryz.func15, Tryz.ntmps15
   go_wp2
   refine wp_loop_rounds 1 ?_
   rw [rounds_succ]
   go_wp2
   go_ret
   exact ⟨by simp; omega, rfl⟩
 · have hNs : N ≤ 262144 := by omega
   by_cases h3 : 262144 < M
   · go_enter Tryz.func15, Tryz.ntmps15
     go_wp2
     refine wp_loop_rounds 2 ?_
     rw [rounds_succ]
     go_wp2
     rw [rounds_succ]
     go_wp2
     go_ret
     exact ⟨by simp; omega, rfl⟩
   · by_cases h4 : 262144 < N + M
     · go_enter Tryz.func15, Tryz.ntmps15
       go_wp2
       refine wp_loop_rounds 2 ?_
       rw [rounds_succ]
       go_wp2
       rw [rounds_succ]
       go_wp2
       go_ret
       exact ⟨by simp [h4], rfl⟩
     · go_enter Tryz.func15, Tryz.ntmps15
       go_wp2
       refine wp_loop_rounds 3 ?_
       rw [rounds_succ]
       go_wp2
       rw [rounds_succ]
       go_wp2
       rw [rounds_succ]
       go_wp2
       go_ret
       exact ⟨by simp [h4], rfl⟩
end
end Go.Proofs.YtedpljclnpiggaaGreatDoor
