/- path.Make of any tree, where a path may be made: the walk. -/
import Derived.Test.YtedpljclnpiggaaGreatDoorV30
import Derived.Deep.RegionHeld3
import Derived.Test.YtedpljclnpiggaaGreatDoorV31
import Derived.Test.YtedpljclnpiggaaGreatDoorV37
import Derived.Test.YtedpljclnpiggaaGreatDoorV36
set_option linter.unusedVariables false
set_option linter.unusedSimpArgs false
set_option maxRecDepth 100000
set_option maxHeartbeats 12800000
namespace Go.Proofs.YtedpljclnpiggaaGreatDoor
open Go Go.RowKit
abbrev PSt (s : Nat) : World → (Nat → Prop) → List TermD → Prop := fun w F L => ProgStore w s F L
def MpRel (s N : Nat) (F : Nat → Prop) (a : Option Addr) (T : List NodeD) (fa : Option Addr) (fresh : List Int) (f : Nat → MkRow) (L1 : List TermD) (m : Nat) (w1 : World) (vk vs vp i : Value) (wr : World) : Prop :=
 ∃ (k : Nat) (F' : Nat → Prop), k ≤ m + 1 ∧ i = .int .i64 k ∧ MkIn (PSt s) N F F' a T fa fresh (mkGo T f L1 k).ks (mkGo T f L1 k).ps (mkGo T f L1 k).ss (mkGo T f L1 k).L vk vp vs w1 wr
def MsRel (s N : Nat) (F : Nat → Prop) (a : Option Addr) (T : List NodeD) (fa : Option Addr) (fresh : List Int) (x : Nat) (sec : Int) (st : MkS) (l : List Nat) (vk vp : Value) (w1 : World) (vs i : Value) (wr : World) : Prop :=
 ∃ (j : Nat) (F' : Nat → Prop), j ≤ l.length ∧ i = .int .i64 j ∧ MkIn (PSt s) N F F' a T fa fresh st.ks st.ps (sealsGo T x sec st (l.take j)).ss (sealsGo T x sec st (l.take j)).L vk vp vs w1 wr
theorem TgIn.kept {N0 : Nat} {G : Nat → Prop} {w w' : World} {v : Value} {Ts : List TgV} (h : TgIn N0 w v Ts) (hT : Turned G w w') (hd : ∀ g, N0 ≤ g → ¬ G g) : TgIn N0 w' v Ts :=
 ⟨oKp h.own hT (fun g hg => hd g (h.far g hg)), h.far, fun t ht => ⟨oIk (h.each t ht).1 hT (fun g hg => hd g ((h.each t ht).2 g hg).1), (h.each t ht).2⟩⟩
theorem pmake_any (s N : Nat) (F : Nat → Prop) (L : List TermD) (hG : Good L) (hM : AllMay L) (hl : L.length ≤ 3000) (T : List NodeD) (hfit : FitT T) (hlen : T.length ≤ 262144) (a : Option Addr) (c : Nat) (leaf ep seed : Int) (fresh : List Int) (hfl : fresh.length ≤ 1000000000) (fa : Option Addr) (fc : Nat) (w : World) (hw : MkW (PSt s) N F L a T fa fresh w) (hcond : MkCond T L leaf ep seed) :
    Calls Tryz.prog 22 #[.pointer (some ⟨s, 0, none⟩), .agg #[.slice a T.length c], .int .i64 leaf, .int .i64 ep, .int .i64 seed, .slice fa fresh.length fc] w (MadeP (PSt s) N F L a T fa fresh leaf ep seed w) := by
 obtain ⟨i0, hi0, hz0, hz1, hz2⟩ := info_parts infoI
 obtain ⟨iS, hiS, hs0, hs1, hs2⟩ := info_parts slInfo
 obtain ⟨iK, hiK, hk0, hk1, hk2⟩ := info_parts infoKey
 have law := progLaw s
 have hmf := mk_facts fresh hG hM hl hcond
 obtain ⟨hok, hheld, hep, hseed, hask⟩ := hcond
 have HNq := hQ hw.size
 obtain ⟨P, hPd⟩ : ∃ P, P = MadeP (PSt s) N F L a T fa fresh leaf ep seed w := ⟨_, rfl⟩
 rw [← hPd]
 have hP : P = fun e w' => ∃ g cap U ka kc sa sc F', e = .returned (.tuple #[.agg #[.slice (some ⟨g, 0, none⟩) T.length cap], .slice ka (rsD (mkGo T (mkRows T L leaf seed fresh) (mkL1 T L leaf seed) (mkM T leaf + 1)).ks).length kc, .slice sa (mkGo T (mkRows T L leaf seed fresh) (mkL1 T L leaf seed) (mkM T leaf + 1)).ss.length sc, .int .i64 ((mkL T L leaf seed).getD (mkM T leaf + 1) 0), .int .i64 0]) ∧
  TreeO w.heap.size w' g T.length cap (setF T leaf.toNat ep ((mkGo T (mkRows T L leaf seed fresh) (mkL1 T L leaf seed) (mkM T leaf + 1)).ps.getD 0 0) (mkGo T (mkRows T L leaf seed fresh) (mkL1 T L leaf seed) (mkM T leaf + 1)).ps.tail) U ∧
  OwnK (.slice ka (rsD (mkGo T (mkRows T L leaf seed fresh) (mkL1 T L leaf seed) (mkM T leaf + 1)).ks).length kc) (rsD (mkGo T (mkRows T L leaf seed fresh) (mkL1 T L leaf seed) (mkM T leaf + 1)).ks) w' ∧
  OwnS (.slice sa (mkGo T (mkRows T L leaf seed fresh) (mkL1 T L leaf seed) (mkM T leaf + 1)).ss.length sc) (mkGo T (mkRows T L leaf seed fresh) (mkL1 T L leaf seed) (mkM T leaf + 1)).ss w' ∧
  MkW (PSt s) N F' (mkGo T (mkRows T L leaf seed fresh) (mkL1 T L leaf seed) (mkM T leaf + 1)).L a T fa fresh w' ∧ Ext F F' w w' ∧ Turned F w w' ∧
  (∀ x, (x = g ∨ (Value.slice ka (rsD (mkGo T (mkRows T L leaf seed fresh) (mkL1 T L leaf seed) (mkM T leaf + 1)).ks).length kc).ownBlock = some x ∨ (Value.slice sa (mkGo T (mkRows T L leaf seed fresh) (mkL1 T L leaf seed) (mkM T leaf + 1)).ss.length sc).ownBlock = some x ∨ ∃ i, i < T.length ∧ (U i).ownBlock = some x) → w.heap.size ≤ x ∧ ¬ F' x) ∧
  (∀ x, (Value.slice ka (rsD (mkGo T (mkRows T L leaf seed fresh) (mkL1 T L leaf seed) (mkM T leaf + 1)).ks).length kc).ownBlock = some x → (Value.slice sa (mkGo T (mkRows T L leaf seed fresh) (mkL1 T L leaf seed) (mkM T leaf + 1)).ss.length sc).ownBlock ≠ some x ∧ x ≠ g ∧ ∀ i, i < T.length → (U i).ownBlock ≠ some x) ∧
  (∀ x, (Value.slice sa (mkGo T (mkRows T L leaf seed fresh) (mkL1 T L leaf seed) (mkM T leaf + 1)).ss.length sc).ownBlock = some x → x ≠ g ∧ ∀ i, i < T.length → (U i).ownBlock ≠ some x) := by rw [hPd]; rfl
 clear hPd
 have hset := fun (W : World) (pa : Option Addr) (pc : Nat) (pub : Int) (pubs : List Int) (htz : TzF W) (h : TreeAt N W a T) (hN : N ≤ W.heap.size) (h1 : 1 ≤ pub) (h2 : pubs.length = (pthD T leaf.toNat).length) (h3 : ∀ i, i < pubs.length → 1 ≤ pubs.getD i 0) (h4 : NumsAt W.heap.size W pa pubs) => amsetpath_any N hw.n3 T hfit hlen a c leaf ep pub hask hep h1 pubs h2 h3 pa pc W htz hN h h4
 have hhead := fun k => mkGo_head T (mkRows T L leaf seed fresh) (mkL1 T L leaf seed) k
 have hFl := fun k hk => law.lt hw.st k hk
 obtain ⟨W0, hW⟩ : ∃ W0, W0 = (w.alloc (.cells #[.slice a T.length c] 44)).alloc (.cells #[.slice none 0 0] 44) := ⟨_, rfl⟩
 have hb1 : Below w.heap.size w W0 := by rw [hW]; exact ((Below.refl w.heap.size w).alloc (Nat.le_refl _) _).alloc (by simp) _
 have hrow : W0.heap[w.heap.size]? = some (.cells #[.slice a T.length c] 44 (0, 0)) := by rw [hW]; exact (heap_alloc_old _ _ (by simp)).trans (rAl _ _ _)
 have hres : W0.heap[w.heap.size + 1]? = some (.cells #[.slice none 0 0] 44 (0, 0)) := by
  rw [hW]
  have := rAl (w := w.alloc (.cells #[.slice a T.length c] 44)) #[.slice none 0 0] 44 (0, 0)
  simpa using this
 have hB0 : MkB (PSt s) N F F L a c T fa fresh w.heap.size w W0 :=
  ⟨hw.new law hb1, ⟨hrow, fun hf => by have := hFl _ hf; omega⟩, ⟨hres, fun hf => by have := hFl _ hf; omega⟩, Ext.refl _ _ _, Turned.new F hb1⟩
 have hal := fun (W : World) (h : ProgStore W s F L) => palive_any s F L W h
 have his := fun (W : World) (h : ProgStore W s F L) => sis_any s F L seed W h (by omega)
 rw [hseed] at his
 have hhe := fun (W : World) (h : MkW (PSt s) N F L a T fa fresh W) => aheld_any N s F L (by omega) T hfit hlen a c W h.tz h.n3 h.size h.st h.tr.at'
 have hpa := fun (W : World) (h : MkW (PSt s) N F L a T fa fresh W) => ampath_any N h.n3 T hfit hlen a c leaf W h.tz h.size h.tr.at'
 unfold PathAns at hpa
 rw [hask, if_pos rfl] at hpa
 have hta := fun (W : World) (h : MkW (PSt s) N F L a T fa fresh W) => amtargets_any N h.n3 T hfit hlen a c leaf fresh hfl fa fc W h.tz h.size h.tr.at' h.nm.at'
 unfold TgtAns at hta
 rw [hask, if_pos rfl] at hta
 have hse := fun (W : World) (h : ProgStore W s F L) => psecrets_any s F L seed (mkM T leaf + 1 : Nat) hG (by omega) W h
 have hse0 : secretsE L seed (mkM T leaf + 1 : Nat) = 0 := by unfold secretsE; rw [hmf.bad]; rfl
 unfold SecPost at hse
 rw [hse0] at hse
 change ∀ W, _ → Calls _ _ _ _ (fun e w' => ∃ v F', _ ∧ OwnI v (mkL T L leaf seed) w' ∧ _ ∧ ProgStore w' s F' (mkL1 T L leaf seed) ∧ _) at hse
 rw [show ((mkM T leaf + 1 : Nat) : Int) = (mkM T leaf : Int) + 1 from by omega] at hse
 obtain ⟨_, hl0, hlt, hn, hTn, _⟩ := ask_zero hask
 have hxs := mk_xs (T := T) (L := L) (seed := seed) (fresh := fresh) hl0
 have hxsB := mkRows_lt (T := T) (L := L) (leaf := leaf) (seed := seed) (fresh := fresh) hask
 have hls := mk_ls (T := T) (L := L) (leaf := leaf) (seed := seed) (fresh := fresh)
 have hts := mk_ts (T := T) (L := L) (leaf := leaf) (seed := seed) (fresh := fresh)
 have hgo := mkGo_ok (f := mkRows T L leaf seed fresh) hmf.good hmf.may hmf.len (show mkM T leaf + 1 ≤ 4 by have := hmf.m3; omega) hmf.rows
 have hmid := fun k (hk : k < mkM T leaf + 1) j => mkGo_mid (f := mkRows T L leaf seed fresh) hmf.good hmf.may hmf.len (show mkM T leaf + 1 ≤ 4 by have := hmf.m3; omega) hmf.rows hk j
 have hrows := hmf.rows
 have hL1 := hmf.len
 have hllen := hmf.llen
 have hm3 := hmf.m3
 have hep0 : ¬ ep < 0 := by omega
 have hlfI : leaf ≤ 8 := by omega
 have hT15 : T.length ≤ 15 := by rcases hn with h | h | h | h <;> omega
 have hTI : (T.length : Int) ≤ 15 := by omega
 have hplm : (pthD T leaf.toNat).length = mkM T leaf := rfl
 have htlm : (tgtD T leaf.toNat fresh).length = mkM T leaf := tgt_len _ _ _
 have hf0 : (mkRows T L leaf seed fresh 0).2.1 = [] := rfl
 have HF := hQ (And.intro hok hheld)
 have HL1 := hQ hL1
 clear hL1
 generalize mkRows T L leaf seed fresh = f at hP hhead hxs hxsB hls hts hgo hmid hrows hf0
 generalize mkL1 T L leaf seed = L1 at hP hhead hse hgo hmid hrows HL1
 generalize mkL T L leaf seed = ll at hP hse hls hllen
 generalize mkM T leaf = m at hP hse hse0 hxs hxsB hgo hmid hrows hllen hm3 hplm htlm
 generalize pthD T leaf.toNat = pl at hset hpa hxs hplm
 generalize tgtD T leaf.toNat fresh = tl at hta hts htlm
 have HP := hQ hP
 have Hset := hQ hset
 have hhd := hhead m
 generalize nodeP L1 (f 0).2.2 = pv0 at hhd
 have Hhd := hQ hhd
 clear hP hset hhead hhd
 have HplI := hQ (show (pl.length : Int) = m by omega)
 have HB0 := hQ hB0
 have Hal := hQ hal
 have His := hQ his
 have Hhe := hQ hhe
 have Hpa := hQ hpa
 have Hta := hQ hta
 have Hse := hQ hse
 have Hxs := hQ hxs
 have HxsB := hQ hxsB
 have Hls := hQ hls
 have Hts := hQ hts
 have Hgo := hQ hgo
 have Hmid := hQ hmid
 have Hrows := hQ hrows
 have Hllen := hQ hllen
 have Hplm := hQ hplm
 have Htlm := hQ htlm
 have Hf0 := hQ hf0
 have HFl := hQ hFl
 have hmI : (m : Int) ≤ 3 := by omega
 have hplI : (pl.length : Int) = m := by omega
 have hW2 := hW
 clear hW hb1 hrow hres hB0 hal his hhe hpa hta hse hse0 hxs hxsB hls hts hgo hmid hrows hllen hplm htlm hf0 hFl hmf hok hheld hep hseed hask hlt hn hTn hw hfit hG hM
 go_enter Tryz.func22, Tryz.ntmps22
 go_wp2_with fail
 rw [← hW2]
 clear hW2
 refine (Hal.out _ HB0.out.mw.st).mono ?_
 rintro e wx ⟨rfl, hwx⟩
 subst wx
 obtain ⟨q, hq⟩ : ∃ q, q = w.heap.size := ⟨_, rfl⟩
 rw [← hq] at HB0 ⊢
 have Hq := hQ hq; clear hq Hal
 go_wp2_with fail
 refine (His.out _ HB0.out.mw.st).mono ?_
 rintro e w2 ⟨rfl, hb2⟩
 have HB2 := hQ (HB0.out.new law hb2); clear hb2 HB0 His
 have k := (cRw HB2.out.bx.at' 0).trans rfl
 go_wp2_with fail
 refine (Hhe.out _ HB2.out.mw).mono ?_
 rintro e w3 ⟨⟨b, rfl, hb⟩, hb3⟩
 have hbt : b = true := hb.2 HF.out
 subst hbt
 have HB3 := hQ (HB2.out.new law hb3); clear hb3 HB2 k hb Hhe HF
 have k := (cRw HB3.out.bx.at' 0).trans rfl
 go_wp2_with fail
 refine (Hpa.out _ HB3.out.mw).mono ?_
 rintro e w4 ⟨na, nc, rfl, hown4, hg4, hb4⟩
 have HB4 := hQ (HB3.out.new law hb4)
 have hg4' : ∀ g, (Value.slice na pl.length nc).ownBlock = some g → q ≤ g := fun g hg => by have := hg4 g hg; have := HB3.out.tur.size; have := Hq.out; omega
 have Hg4 := hQ hg4'
 have Hown4 := hQ hown4
 have Hqs4 := hQ (show q ≤ w4.heap.size from by have := HB4.out.tur.size; have := Hq.out; omega)
 clear hb4 HB3 k hg4 Hpa hown4 hg4'
 have k := (cRw HB4.out.bx.at' 0).trans rfl
 go_wp2_with fail
 refine (Hta.out _ HB4.out.mw).mono ?_
 rintro e w5 ⟨tv, Ts, rfl, hti, htm, hb5⟩
 obtain ⟨ta, tc, rfl⟩ := hti.len
 have hown5 := ownI_below Hown4.out hb5
 have Hown5 := hQ hown5
 have HB5 := hQ (HB4.out.new law hb5)
 have Htl5 := hQ (show (∀ g, (Value.slice ta Ts.length tc).ownBlock = some g → g < w5.heap.size) ∧ ∀ t ∈ Ts, ∀ g, t.val.ownBlock = some g → g < w5.heap.size from ⟨fun g hg => (hti.own.lt g hg).2, fun t ht g hg => ownI_lt (hti.each t ht).1 hg⟩)
 have Hti := hQ (hti.base Hqs4.out)
 have Htm := hQ htm
 have hTsl : Ts.length = m := by
  have e := congrArg List.length htm
  rw [List.length_map] at e
  have := Htlm.out
  omega
 have HTsl := hQ hTsl
 clear hb5 k hti htm hown5 Hown4 Hta HB4 hTsl
 go_wp2_with fail
 refine (Hse.out _ HB5.out.mw.st).mono ?_
 rintro e w6 ⟨lv, F1, rfl, hlv, hx, hs, hTu, hlfar⟩
 obtain ⟨la, lc, rfl, _⟩ := ownI_len hlv
 have hdF : ∀ g, q ≤ g → ¬ F g := fun g hg hf => by have := HFl.out g hf; have := Hq.out; omega
 have hown6 := oIk Hown5.out hTu (fun g hg => hdF g (Hg4.out g hg))
 have hti6 := Hti.out.kept hTu (fun g hg => hdF g hg)
 have hF1n : ∀ g, g < w5.heap.size → q ≤ g → ¬ F1 g := fun g h1 h2 hf => (hx g hf).elim (hdF g h2) (fun h => by omega)
 have hgown := fun g hg => hF1n g (ownI_lt Hown5.out hg) (Hg4.out g hg)
 have HB6 := hQ (HB5.out.step hx hs hTu)
 have hlt6 := fun g (hg : (Value.slice la ll.length lc).ownBlock = some g) => ownI_lt hlv hg
 have Hlv := hQ (And.intro hlv (And.intro (fun g hg => (hlfar g hg).2) hlt6))
 have Hown6 := hQ (And.intro hown6 hgown)
 have Hti6 := hQ hti6
 have hs56 := hTu.size
 have Hs56 := hQ hs56
 have HF1n := hQ hF1n
 clear hlv hx hs hTu hlfar hdF hown6 hti6 hF1n hgown hlt6 hs56 HB5 Hown5 Hti Hse Hg4
 have hone := ownI_one w6 (2 * leaf)
 have hnums : NumsAt w6.heap.size (w6.alloc (.cells #[.int .i64 (2 * leaf)] 3)) na (natI pl) := ((ownI_nums Hown6.out.1).2).below ((Below.refl _ _).alloc (Nat.le_refl _) _)
 have Hone := hQ hone
 have Hnums := hQ hnums
 have Hpl3 := hQ (show pl.length ≤ 3 by omega)
 clear hone hnums
 have Hlx := hQ (show ([2 * leaf] ++ natI pl).length = m + 1 by rw [List.length_append, nIl, Hplm.out]; simp; omega)
 go_wp2_with (at_builtin; refine wpList_append_nums rfl (.tmp 114) (.tmp 115) rfl rfl Hone.out Hnums.out rfl (by rw [nIl]; rfl) (by have := Hpl3.out; rw [nIl]; simp; omega) ?_; intro v7 w7 hown7 hgrow7 hat7; obtain ⟨ra, rc, rfl, _⟩ := ownI_len hown7; rw [Hlx.out] at hown7 hat7 ⊢; have HA7 := hQ (And.intro hown7 (And.intro hgrow7 hat7)); clear hown7 hgrow7 hat7)
 obtain ⟨hown7, hgrow7, hat7⟩ := HA7.out
 have hb7 : Below w6.heap.size w6 w7 := ((Below.refl w6.heap.size w6).alloc (Nat.le_refl _) (.cells #[.int .i64 (2 * leaf)] 3)).grown hgrow7 (by simp) (fun j hj => by simp [Value.ownBlock] at hj; omega)
 have hg7 : ∀ g, (Value.slice ra (m + 1) rc).ownBlock = some g → w6.heap.size ≤ g := fun g hg => by
  rcases hat7 with e | e
  · rw [hg] at e; simp [Value.ownBlock] at e; omega
  · rw [hg] at e; simp at e; omega
 have hF1l : ∀ k, F1 k → k < w6.heap.size := fun k hk => law.lt HB6.out.mw.st k hk
 have HB7 := hQ (HB6.out.new law hb7)
 have hxS : XsS F1 w7 (fun i => ((f i).1 : Nat)) (m + 1) ra := xs_own hown7 (fun g hg hf => by have := hg7 g hg; have := hF1l g hf; omega) (by rw [Hlx.out]; exact Nat.le_refl _) (fun i hi => Hxs.out i hi)
 have hlS : XsS F1 w7 (fun i => ll.getD i 0) (m + 2) la := xs_own (ownI_below Hlv.out.1 hb7) (fun g hg => Hlv.out.2.1 g hg) (by rw [Hllen.out]; exact Nat.le_refl _) (fun i hi => rfl)
 have htS : TsS F1 w7 f m ta := ts_own (N0 := q) (Hti6.out.kept (Turned.new (fun _ => False) hb7) (fun _ _ h => h)) (fun g hg => HF1n.out g (Htl5.out.1 g hg) (Hti6.out.far g hg)) (fun t ht g hg => HF1n.out g (Htl5.out.2 t ht g hg) ((Hti6.out.each t ht).2 g hg).1) (by rw [HTsl.out]; exact Nat.le_refl _) (fun i hi => by rw [Htm.out]; exact Hts.out i)
 have Hlo := hQ (And.intro hxS (And.intro hlS htS))
 have hin0 := MkIn.start law HB7.out.mw
 have Hin0 := hQ hin0
 have htrS : ∀ W, Turned F1 w7 W → TreeAt N W a T := fun W hW => HB7.out.mw.tr W (hW.mono (fun _ _ h => .inl h))
 have HtrS := hQ htrS
 clear htrS
 have hbr : ∀ W, Turned F1 w7 W → W.heap[q + 1]? = some (boxT (.slice none 0 0)) := fun W hW => (hW.block (q + 1) HB7.out.rs.lt HB7.out.rs.out).trans HB7.out.rs.at'
 have Hbr := hQ hbr
 have HQ := hQ (And.intro HB7.out.ext (And.intro HB7.out.tur (And.intro HB7.out.rs.out HB7.out.rs.lt)))
 clear hbr
 have hbx : ∀ W, Turned F1 w7 W → W.heap[q]? = some (boxT (.slice a T.length c)) := fun W hW => (hW.block q HB7.out.bx.lt HB7.out.bx.out).trans HB7.out.bx.at'
 have Hbx := hQ hbx
 clear hown7 hgrow7 hat7 hb7 hg7 hF1l hxS hlS htS hin0 hbx HA7 Hnums Hone Hown6 Hti6 HF1n HB6 Hlv Htl5
 go_loopw [13, 14, 21, 118] (fun vk vs vp i wr => MpRel s N F1 a T fa fresh f L1 m w7 vk vs vp i wr) (fun _ _ _ i _ => m + 1 - (intOf i).toNat)
 case atStart => exact ⟨0, F1, Nat.zero_le _, rfl, Hin0.out⟩
 case round =>
  obtain ⟨k, F', hk, rfl, hin⟩ := hrel
  obtain ⟨ka, kc, rfl⟩ := hin.klen
  obtain ⟨pa, pc, rfl⟩ := hin.plen
  obtain ⟨sa, sc, rfl⟩ := hin.slen
  have Hin := hQ hin
  by_cases hkm : k < m + 1
  · obtain ⟨hxS, hlS, htS⟩ := Hlo.out
    obtain ⟨xb, xo, e1, cx⟩ := hxS wr hin.tur k hkm
    obtain ⟨lb, lo, e2, cl⟩ := hlS wr hin.tur k (by omega)
    subst e1
    subst e2
    dsimp only at cx cl
    rw [Hls.out k] at cl
    obtain ⟨hok1, hkl, hsl⟩ := Hgo.out k hk
    have hsec := Hrows.out.sec k hkm
    have hlen1 := hok1.len
    have hth : thereD (mkGo T f L1 k).L.length (f k).2.2 = true := there_mono hsec hok1.grow
    have hL5 : (mkGo T f L1 k).L.length ≤ 5000 := by have := HL1.out; omega
    have hnode := fun (W : World) (h : ProgStore W s F' (mkGo T f L1 k).L) => snode_any s F' _ (f k).2.2 hok1.good hL5 W h
    rw [node_e hth] at hnode
    have hpsl : (mkGo T f L1 k).ps.length = k := by rw [hok1.lenp, hkl]
    have hkI : (k : Int) < m + 1 := by omega
    obtain ⟨st, hst⟩ : ∃ st, st = mkGo T f L1 k := ⟨_, rfl⟩
    have hgoS : mkGo T f L1 (k + 1) = sealsGo T (f k).1 (f k).2.2 (nodeStep st (f k).1 (f k).2.2) (f k).2.1 := by rw [hst]; rfl
    have hmidk := Hmid.out k hkm
    rw [← hst] at hnode hkl hpsl hsl Hin hmidk ⊢
    have hsecL := hsec
    have hptr := Hrows.out.pub k hkm
    have hlty := Hrows.out.lt k hkm
    obtain ⟨fk, hfk⟩ : ∃ fk, fk = f k := ⟨_, rfl⟩
    rw [← hfk] at cx cl hnode hgoS hmidk hsecL hptr hlty
    have Hfk := hQ hfk
    obtain ⟨x, l, sec⟩ := fk
    simp only at cx cl hnode hgoS hmidk hsecL hptr hlty
    have hnd1 : nodeStep st x sec = ⟨st.ks ++ [((x : Int), nodeK st.L sec)], st.ps ++ [nodeP st.L sec], st.ss, nodeT st.L sec⟩ := rfl
    generalize nodeStep st x sec = st2 at hnd1 hgoS hmidk
    generalize nodeT st.L sec = L2 at hnd1 hnode
    generalize nodeK st.L sec = kv at hnd1 hnode
    generalize nodeP st.L sec = pv at hnd1 hnode
    have Hnode := hQ hnode
    have HgoS := hQ hgoS
    have Hmidk := hQ hmidk
    have Hsec := hQ hsecL
    have Hptr := hQ hptr
    have Hlty := hQ hlty
    have Hnd1 := hQ hnd1
    have hkll : k < ll.length := by have := Hllen.out; omega
    have hkllI : (k : Int) < ll.length := by omega
    have Hkl := hQ hkl
    have Hpsl := hQ hpsl
    have Hsl := hQ hsl
    have Hkm := hQ (show k ≤ 3 by omega)
    have Hkm2 := hQ hkm
    clear hnode hgoS hmidk hsec hsecL hptr hlty hnd1 hkl hpsl hsl hok1 hlen1 hth hL5 hin hfk hst hxS hlS htS
    go_wp2_with fail
    refine (Hnode.out _ Hin.out.mw.st).mono ?_
    rintro e w8 ⟨rfl, F2, hx, hs, hTu⟩
    have HIn8 := hQ (Hin.out.store hx hs hTu)
    clear hx hs hTu Hnode cx cl Hin
    rcases Nat.eq_zero_or_pos k with hk00 | hkpos
    · subst hk00
      have hl0 : l = [] := by
       have e := Hf0.out
       rw [← Hfk.out] at e
       exact e
      have hgz := HgoS.out
      rw [hl0, show sealsGo T x sec st2 [] = st2 from rfl, Hnd1.out] at hgz
      have Hgz := hQ hgz
      clear hl0 hgz
      go_wp2_with (first
      | (at_builtin; refine wpList_append_lies _ rfl (.tmp 143) (.tmp 147) 47 rfl 0 123 iK (.agg #[.int .i64 0, .int .i64 0]) 2 16 Tryz.underlying47 hiK hk0 hk1 hk2 rfl (by decide) (.slice ka st.ks.length kc) st.ks.length (st.ks.flatMap keyV) rfl (World.ownsRow.alloc HIn8.out.kown _) ⟨w8.heap.size, 0, none⟩ 1 1 (keyV ((x : Int), kv)) rfl rfl (keyV_cells w8 ((x : Int), kv) 123) (by intro u hu; simp [keyV] at hu; rcases hu with rfl | rfl <;> rfl) (by omega) (by have := Hkl.out; have := Hkm.out; unfold maxLen; omega) (by have := Hkl.out; have := Hkm.out; omega) (Nat.zero_le _) (w8.heap.size + 1) (by simp) ?_; intro gk ck w9 hown9 hgrow9 hat9 hlt9; have HIn9 := hQ (HIn8.out.key law (k := ((x : Int), kv)) ((Below.refl _ _).alloc (Nat.le_refl _) _) hown9 hgrow9 (hat9.imp id (fun e => by rw [e]; simp))); clear hown9 hgrow9 hat9 hlt9)
      | (at_builtin; refine wpList_append_lies _ rfl (.tmp 149) (.tmp 151) 27 rfl 0 3 i0 (.int .i64 0) 1 8 Tryz.underlying27 hi0 hz0 hz1 hz2 rfl (by decide) (.slice pa st.ps.length pc) st.ps.length (st.ps.map intV) rfl (World.ownsRow.alloc HIn9.out.pown _) ⟨w9.heap.size, 0, none⟩ 1 1 [intV pv] rfl rfl (cell_one_new _ _ _) (by intro u hu; simp [intV] at hu; rw [hu]; rfl) (by omega) (by have := Hpsl.out; have := Hkm.out; unfold maxLen; omega) (by have := Hpsl.out; have := Hkm.out; omega) (Nat.zero_le _) (w9.heap.size + 1) (by simp) ?_; intro gq cq w10 hown10 hgrow10 hat10 hlt10; have HIn10 := hQ (HIn9.out.pub law (x := pv) ((Below.refl _ _).alloc (Nat.le_refl _) _) hown10 hgrow10 (hat10.imp id (fun e => by rw [e]; simp))); clear hown10 hgrow10 hat10 hlt10))
      exact ⟨⟨0 + 1, F2, by omega, by go_num, by rw [Hgz.out]; exact HIn10.out⟩, by simp [intOf]⟩
    · obtain ⟨i, rfl⟩ : ∃ i, k = i + 1 := ⟨k - 1, by omega⟩
      have hki0 : (((i + 1 : Nat) : Int) == 0) = false := beq_eq_false_iff_ne.2 (by omega)
      have him : i < m := by omega
      have hiN : i < Ts.length := by have := HTsl.out; omega
      have hiI : (i : Int) < Ts.length := by omega
      obtain ⟨tg, ua, uc, e3, hTs⟩ := Hlo.out.2.2 i him
      subst e3
      rw [← Hfk.out] at hTs
      simp only at hTs
      have HTs := hQ hTs
      clear hTs
      go_wp2_with (first
      | (at_builtin; refine wpList_append_lies _ rfl (.tmp 143) (.tmp 147) 47 rfl 0 123 iK (.agg #[.int .i64 0, .int .i64 0]) 2 16 Tryz.underlying47 hiK hk0 hk1 hk2 rfl (by decide) (.slice ka st.ks.length kc) st.ks.length (st.ks.flatMap keyV) rfl (World.ownsRow.alloc HIn8.out.kown _) ⟨w8.heap.size, 0, none⟩ 1 1 (keyV ((x : Int), kv)) rfl rfl (keyV_cells w8 ((x : Int), kv) 123) (by intro u hu; simp [keyV] at hu; rcases hu with rfl | rfl <;> rfl) (by omega) (by have := Hkl.out; have := Hkm.out; unfold maxLen; omega) (by have := Hkl.out; have := Hkm.out; omega) (Nat.zero_le _) (w8.heap.size + 1) (by simp) ?_; intro gk ck w9 hown9 hgrow9 hat9 hlt9; have HIn9 := hQ (HIn8.out.key law (k := ((x : Int), kv)) ((Below.refl _ _).alloc (Nat.le_refl _) _) hown9 hgrow9 (hat9.imp id (fun e => by rw [e]; simp))); clear hown9 hgrow9 hat9 hlt9)
      | (at_builtin; refine wpList_append_lies _ rfl (.tmp 149) (.tmp 151) 27 rfl 0 3 i0 (.int .i64 0) 1 8 Tryz.underlying27 hi0 hz0 hz1 hz2 rfl (by decide) (.slice pa st.ps.length pc) st.ps.length (st.ps.map intV) rfl (World.ownsRow.alloc HIn9.out.pown _) ⟨w9.heap.size, 0, none⟩ 1 1 [intV pv] rfl rfl (cell_one_new _ _ _) (by intro u hu; simp [intV] at hu; rw [hu]; rfl) (by omega) (by have := Hpsl.out; have := Hkm.out; unfold maxLen; omega) (by have := Hpsl.out; have := Hkm.out; omega) (Nat.zero_le _) (w9.heap.size + 1) (by simp) ?_; intro gq cq w10 hown10 hgrow10 hat10 hlt10; have HIn10 := hQ (HIn9.out.pub law (x := pv) ((Below.refl _ _).alloc (Nat.le_refl _) _) hown10 hgrow10 (hat10.imp id (fun e => by rw [e]; simp))); clear hown10 hgrow10 hat10 hlt10; have ct := (HTs.out w10 HIn10.out.tur).1))
      have hl144 := Hrows.out.few (i + 1) Hkm2.out
      rw [← Hfk.out] at hl144
      simp only at hl144
      have hl144I : (l.length : Int) ≤ 144 := by omega
      have hst0 : MsRel s N F1 a T fa fresh x sec st2 l (.slice (some ⟨gk, 0, none⟩) (st.ks.length + 1) ck) (.slice (some ⟨gq, 0, none⟩) (st.ps.length + 1) cq) w7 (.slice sa st.ss.length sc) (.int .i64 0) w10 :=
       ⟨0, F2, Nat.zero_le _, rfl, by show MkIn _ _ _ _ _ _ _ _ st2.ks st2.ps st2.ss st2.L _ _ _ _ _; rw [Hnd1.out]; exact HIn10.out⟩
      have Hst0 := hQ hst0
      clear hst0 ct HIn9
      go_loopw [13, 14, 161] (fun vk vs i wr => vk = .slice (some ⟨gk, 0, none⟩) (st.ks.length + 1) ck ∧ MsRel s N F1 a T fa fresh x sec st2 l (.slice (some ⟨gk, 0, none⟩) (st.ks.length + 1) ck) (.slice (some ⟨gq, 0, none⟩) (st.ps.length + 1) cq) w7 vs i wr) (fun _ _ i _ => l.length - (intOf i).toNat)
      case atStart => exact ⟨rfl, Hst0.out⟩
      case round =>
       obtain ⟨rfl, j, F3, hj, rfl, hin⟩ := hrel
       obtain ⟨sb, sd, rfl⟩ := hin.slen
       have Hin := hQ hin
       by_cases hjl : j < l.length
       · obtain ⟨ub, uo, rfl, cu⟩ := (HTs.out wr hin.tur).2 j hjl
         dsimp only at cu
         have cl := Hlo.out.2.1 wr hin.tur (i + 1) (by omega)
         obtain ⟨lb2, lo2, e5, cl⟩ := cl
         obtain ⟨rfl, rfl⟩ : lb = lb2 ∧ lo = lo2 := by simpa using e5
         dsimp only at cl
         rw [Hls.out (i + 1), ← Hfk.out] at cl
         simp only at cl
         have kb := (cRw (Hbx.out wr hin.tur) 0).trans rfl
         have hmem := get_list (l := l) (i := j) 0 hjl
         have hyt := Hlty.out _ hmem
         have hyp := Hptr.out _ hmem
         obtain ⟨ob, oo, e6, hnd⟩ := hin.mw.tr.at' _ hyt
         have c0 := hnd.c0
         have hmj := Hmidk.out j
         obtain ⟨hok2, hkl2, hsl2, hL37⟩ := hmj
         have hsec2 := there_mono Hsec.out hok2.grow
         have hpub2 := there_mono hyp hok2.grow
         have hsok : (sealT (pubD T (l.getD j 0)) sec).ok := seal_ok (there_i64 hpub2 (by omega)) (there_i64 hsec2 (by omega))
         have hmk := fun (W : World) (h : ProgStore W s F3 (sealsGo T x sec st2 (l.take j)).L) => smake_any s F3 _ (sealT (pubD T (l.getD j 0)) sec) hsok hok2.good (by omega) W h
         unfold SMakePost at hmk
         rw [(make_ok (may_seal hpub2 hsec2) (by omega)).1] at hmk
         have hstep := sealsGo_take (T := T) (x := x) (sec := sec) (st := st2) hjl
         have hssl : (sealsGo T x sec st2 (l.take j)).ss.length ≤ 1000 := by have := Hkm.out; omega
         unfold pubD at hmk hstep
         have hstep2 : ∀ y p, y = l.getD j 0 → p = (nodeD T (l.getD j 0)).pub → sealsGo T x sec st2 (l.take (j + 1)) = ⟨(sealsGo T x sec st2 (l.take j)).ks, (sealsGo T x sec st2 (l.take j)).ps, (sealsGo T x sec st2 (l.take j)).ss ++ [(x, y, makeN (sealsGo T x sec st2 (l.take j)).L (sealT p sec))], makeL (sealsGo T x sec st2 (l.take j)).L (sealT p sec)⟩ := fun y p e1 e2 => by rw [hstep, e1, e2]; rfl
         clear hstep
         obtain ⟨y, hy⟩ : ∃ y, y = l.getD j 0 := ⟨_, rfl⟩
         rw [← hy] at cu c0 hmk hyt hstep2
         obtain ⟨p, hp⟩ : ∃ p, p = (nodeD T y).pub := ⟨_, rfl⟩
         rw [← hp] at c0 hmk hstep2
         have hyp2 := hp
         have hsn := hstep2 y p rfl rfl
         obtain ⟨stj, hstj⟩ : ∃ stj, stj = sealsGo T x sec st2 (l.take j) := ⟨_, rfl⟩
         rw [← hstj] at Hin hmk hsn hssl ⊢
         generalize makeL stj.L (sealT p sec) = L3 at hmk hsn
         generalize makeN stj.L (sealT p sec) = nv at hmk hsn
         have Hmk := hQ hmk
         have Hsn := hQ hsn
         have Hssl := hQ hssl
         have hjI : (j : Int) < l.length := by omega
         have hyI : (y : Int) < T.length := by omega
         subst e6
         clear hmk hsn hssl hstep2 hok2 hkl2 hsl2 hL37 hsec2 hpub2 hsok hy hp hstj hmem hyp hin e5
         have hkq : i + 1 < ll.length := hkll
         have htrS := HtrS.out
         have hrd : ∀ W, Turned F1 w7 W → W.cell? ⟨q, 0, none⟩ = some (.slice (some ⟨ob, oo, none⟩) T.length c) ∧ W.cell? ⟨ob, oo + y * 4, none⟩ = some (.int .i64 p) ∧ W.cell? ⟨lb, lo + (i + 1), none⟩ = some (.int .i64 sec) := fun W hW => by
          obtain ⟨b7, o7, e77, c7⟩ := Hlo.out.2.1 W hW (i + 1) (by omega)
          obtain ⟨rfl, rfl⟩ : lb = b7 ∧ lo = o7 := by simpa using e77
          obtain ⟨b6, o6, e66, n6⟩ := htrS W hW y hyt
          obtain ⟨rfl, rfl⟩ : ob = b6 ∧ oo = o6 := by simpa using e66
          try dsimp only at c7
          rw [Hls.out (i + 1), ← Hfk.out] at c7
          simp only at c7
          exact ⟨(cRw (Hbx.out W hW) 0).trans rfl, n6.c0.trans (by rw [hyp2]), c7⟩
         have Hrd := hQ hrd
         clear hrd htrS hyp2
         (try clear HIn8)
         (try clear HIn10)
         (try clear Hst0)
         (try clear HB7)
         (try clear Hin0)
         (try clear Hlo)
         (try clear HTs)
         (try clear Hls)
         (try clear Hts)
         (try clear Hxs HxsB)
         (try clear Hgo)
         (try clear Hmid)
         (try clear Hmidk)
         (try clear Hrows)
         (try clear Hllen)
         (try clear Hplm)
         (try clear Htlm)
         (try clear Htm)
         (try clear HTsl)
         (try clear HgoS)
         (try clear Hnd1)
         (try clear Hsec)
         (try clear Hptr)
         (try clear Hlty)
         (try clear Hkl)
         (try clear Hpsl)
         (try clear Hsl)
         (try clear Hkm)
         (try clear Hkm2)
         (try clear Hfk)
         (try clear Hf0)
         (try clear HFl)
         (try clear Hbx)
         (try clear HL1)
         (try clear HIn9)
         (try clear hki0)
         (try clear him)
         (try clear hiN)
         (try clear hiI)
         (try clear hl144)
         (try clear hkpos)
         (try clear hj)
         (try clear hi0)
         (try clear hz0)
         (try clear hz1)
         (try clear hz2)
         (try clear hiK)
         (try clear hk0)
         (try clear hk1)
         (try clear hk2)
         (try clear hlfI)
         (try clear hmI)
         (try clear hplI)
         (try clear hkI)
         (try clear hep0)
         (try clear hlen)
         (try clear hfl)
         (try clear Hq)
         (try clear Hlx)
         (try clear Hpl3)
         (try clear Hs56)
         (try clear Hqs4)
         (try clear hl)
         (try clear hm3)
         (try clear hl0)
         (try clear hyt)
         (try clear hkm)
         (try clear hk)
         go_upto_block 3 with fail
         go_cut [13, 14] (fun v13 v14 wx => v13 = .slice (some ⟨gk, 0, none⟩) (st.ks.length + 1) ck ∧ ∃ F4, MkIn (PSt s) N F1 F4 (some ⟨ob, oo, none⟩) T fa fresh st2.ks st2.ps (stj.ss ++ [(x, y, nv)]) L3 (.slice (some ⟨gk, 0, none⟩) (st.ks.length + 1) ck) (.slice (some ⟨gq, 0, none⟩) (st.ps.length + 1) cq) v14 w7 wx)
         case first =>
          have hi0' : (0 : Int) ≤ (i : Int) := Int.natCast_nonneg _
          have hkA : i + 1 < ll.length := hkq
          have hkB : (i : Int) + 1 < ll.length := by omega
          have hkB0 : (0 : Int) ≤ (i : Int) + 1 := by omega
          have hy0' : (0 : Int) ≤ (y : Int) := Int.natCast_nonneg _
          have HS0 := hQ (Hrd.out wr Hin.out.tur)
          go_wp2_with fail
          clear c0 cu cl kb
          go_region_held3 (fun w' => w'.cell? ⟨q, 0, none⟩ = some (.slice (some ⟨ob, oo, none⟩) T.length c) ∧ w'.cell? ⟨ob, oo + y * 4, none⟩ = some (.int .i64 p) ∧ w'.cell? ⟨lb, lo + (i + 1), none⟩ = some (.int .i64 sec))
           (first
            | exact HS0.out
            | exact Hrd.out _ HIn14.out.tur)
           (first
            | (go_at_call 34; refine (Hmk.out _ (by exact Hin.out.mw.st)).mono ?_; rintro e w14 ⟨rfl, F4, hx, hs, hTu⟩; have hx' : Ext F3 F4 wr w14 := hx; have hT' : Turned F3 wr w14 := ⟨hTu.os, hTu.tape, hTu.output, hTu.size, hTu.block⟩; have HIn14 := hQ (Hin.out.store hx' hs hT'); clear hx hs hTu hx' hT')
            | fail)
          go_wp2_with (at_builtin; refine wpList_append_lies _ rfl (.tmp 191) (.tmp 196) 55 rfl 0 143 iS (.agg #[.int .i64 0, .int .i64 0, .int .i64 0]) 3 24 Tryz.underlying55 hiS hs0 hs1 hs2 rfl (by decide) (.slice sb stj.ss.length sd) stj.ss.length (stj.ss.flatMap slV) rfl (World.ownsRow.alloc HIn14.out.sown _) ⟨w14.heap.size, 0, none⟩ 1 1 (slV (x, y, nv)) rfl rfl (seal_cells w14 (x, y, nv) 143) (seal_one (x, y, nv)) (by omega) (by have := Hssl.out; unfold maxLen; omega) (by have := Hssl.out; omega) (Nat.zero_le _) (w14.heap.size + 1) (by simp) ?_; intro gs cs w15 hown15 hgrow15 hat15 hlt15; have HIn15 := hQ (HIn14.out.sl law (s := (x, y, nv)) ((Below.refl _ _).alloc (Nat.le_refl _) _) hown15 hgrow15 (hat15.imp id (fun e => by rw [e]; simp))); clear hown15 hgrow15 hat15 hlt15)
          go_meet
          exact ⟨rfl, F4, HIn15.out⟩
         case rest =>
          obtain ⟨rfl, F4, hin4⟩ := hcut
          have Hin4 := hQ hin4
          clear hin4 c0 cu cl kb Hmk Hin
          go_wp2
          exact ⟨⟨rfl, j + 1, F4, by omega, by go_num, by rw [Hsn.out]; exact Hin4.out⟩, by simp [intOf]; omega⟩
       · obtain rfl : j = l.length := by omega
         have hjI : ¬ (l.length : Int) < l.length := by omega
         rw [List.take_length] at Hin ⊢
         clear hin
         go_wp2
         exact ⟨⟨i + 1 + 1, F3, by omega, by go_num, by rw [HgoS.out, (sealsGo_kp T x sec l st2).1, (sealsGo_kp T x sec l st2).2]; exact Hin.out⟩, by simp [intOf]; omega⟩
  · obtain rfl : k = m + 1 := by omega
    have hkI : ¬ ((m + 1 : Nat) : Int) < m + 1 := by omega
    obtain ⟨hokE, hklE, hslE⟩ := Hgo.out (m + 1) (Nat.le_refl _)
    obtain ⟨pr, hpr⟩ := Hhd.out
    have hksok : ∀ k ∈ (mkGo T f L1 (m + 1)).ks, i64ok k.1 ∧ i64ok k.2 := fun k hk => by
     have h2 := hokE.keys k hk
     have h3 := (Hgo.out (m + 1) (Nat.le_refl _)).1.len
     obtain ⟨i, hi, e⟩ := mkGo_nodes (m + 1) k hk
     have h4 := HxsB.out i hi
     have h5 := HL1.out
     refine ⟨by rw [e]; unfold i64ok; omega, by unfold i64ok; omega⟩
    have hpsE : (mkGo T f L1 (m + 1)).ps.length = m + 1 := by rw [hokE.lenp, hklE]
    have hpubsE := hokE.pubs
    obtain ⟨st, hst⟩ : ∃ st, st = mkGo T f L1 (m + 1) := ⟨_, rfl⟩
    have HPE := HP.out
    rw [← hst] at Hin hpr hpsE hpubsE HPE hklE hslE hksok ⊢
    rw [hpr] at Hin hpsE hpubsE HPE ⊢
    rw [show (pv0 :: pr).tail = pr from rfl, show (pv0 :: pr).getD 0 0 = pv0 from rfl] at HPE
    simp only [List.length_cons] at hpsE
    have hprl : pr.length = pl.length := by rw [Hplm.out]; omega
    have hpv1 : 1 ≤ pv0 := (hpubsE pv0 (by simp)).1
    have hpr1 : ∀ i, i < pr.length → 1 ≤ pr.getD i 0 := fun i hi => (hpubsE _ (List.mem_cons_of_mem _ (get_list 0 hi))).1
    obtain ⟨lb2, lo2, e2, cl⟩ := Hlo.out.2.1 wr Hin.out.tur (m + 1) (by omega)
    subst e2
    dsimp only at cl
    generalize ll.getD (m + 1) 0 = cm at cl HPE
    have kb : wr.cell? ⟨q, 0, none⟩ = some (.slice a T.length c) := (cRw (Hbx.out wr Hin.out.tur) 0).trans rfl
    obtain ⟨gp, pcap, pcur, epa, hrowp, hpc1, hpc2, hpcs⟩ : ∃ gp pcap cur, (pa = some ⟨gp, 0, none⟩ ∧ pc = pcap) ∧ wr.heap[gp]? = some (.cells cur 3 (0, 0)) ∧ pr.length + 1 ≤ pcap ∧ pcap ≤ maxLen ∧ ∀ i, i < pr.length + 1 → cur[i]? = some (.int .i64 ((pv0 :: pr).getD i 0)) := by
     have hp := Hin.out.pown
     rcases hp.2 with ⟨e, h0⟩ | ⟨g, cap, cur, e, hB, hg, h4, h5, hs, ht⟩
     · simp at h0
     · obtain ⟨e1, e3⟩ : pa = some ⟨g, 0, none⟩ ∧ pc = cap := by simpa using e
       refine ⟨g, cap, cur, ⟨e1, e3⟩, hg, by simpa using h4, h5, fun i hi => ?_⟩
       obtain ⟨b1, o1, e4, c4⟩ := ownI_at hp i (by simpa using hi)
       rw [e1] at e4
       obtain ⟨rfl, rfl⟩ : g = b1 ∧ 0 = o1 := by simpa using e4
       rw [Nat.zero_add, cRw hg] at c4
       exact c4
    obtain ⟨rfl, rfl⟩ := epa
    have kp0 : wr.cell? ⟨gp, 0, none⟩ = some (.int .i64 pv0) := (cRw hrowp 0).trans (hpcs 0 (by omega))
    have hnr : NumsAt wr.heap.size wr (some ⟨gp, 1, none⟩) pr := fun i hi => ⟨gp, 1, rfl, (Array.getElem?_eq_some_iff.1 hrowp).1, by
     rw [show 1 + i = i + 1 by omega, cRw hrowp, hpcs (i + 1) (by omega)]
     rfl⟩
    have hset1 := fun (W : World) (hW : Below wr.heap.size wr W) (pa1 : Option Addr) (pc1 : Nat) (hpa : NumsAt wr.heap.size wr pa1 pr) => Hset.out W pa1 pc1 pv0 pr (Hin.out.new law hW).mw.tz (Hin.out.new law hW).mw.tr.at' (Hin.out.new law hW).mw.size hpv1 hprl hpr1 ((hpa.below hW).mono' hW.size)
    have Hset1 := hQ hset1
    have Hst := hQ hst
    have HPE2 := hQ HPE
    have hpcI : (pc : Int) ≤ 9223372036854775807 := by unfold maxLen at hpc2; omega
    have hprI : (pr.length : Int) + 1 ≤ pc := by omega
    have hprN : pr.length + 1 ≤ pc := hpc1
    have Hnr := hQ hnr
    have hpr3 : (pr.length : Int) ≤ 3 := by omega
    have hpr01 : (1 : Int) ≤ (pr.length : Int) + 1 := by omega
    have HklE := hQ hklE
    clear hset1 hst HPE hokE hpsE hpubsE hpr hprl hpv1 hpr1 hnr hrowp hpcs hklE hslE
    have hql1 := HQ.out.2.2.2
    have hlt3 := Hin.out.tur.size
    have hqr : q < wr.heap.size := by omega
    have hqr2 : q + 1 < wr.heap.size := by omega
    have Hksok := hQ hksok
    clear hksok
    have hgpr : gp < wr.heap.size := World.block_lt_of_cell? wr _ kp0
    have hgpq : gp ≠ q + 1 := by have := (Hin.out.pout gp rfl).1; omega
    have hrr := Hbr.out wr Hin.out.tur
    have Hrr := hQ hrr
    clear hrr hlt3
    by_cases hpc11 : pc = 1
    · subst hpc11
      have hpr0 : pr.length = 0 := by omega
      go_wp2_with fail
      go_region_held3 (fun w' => w'.cell? ⟨q, 0, none⟩ = some (.slice a T.length c) ∧ w'.cell? ⟨gp, 0, none⟩ = some (.int .i64 pv0))
       (first
        | exact ⟨kb, kp0⟩
        | exact ⟨Hk9.out.1, Hk9.out.2⟩
        | exact ⟨Hks.out.1, Hks.out.2⟩)
       (first
        | (go_at_call 59; have hs0 := Hset1.out wr.drew ⟨rfl, rfl, rfl, Nat.le_refl _, fun _ _ => rfl⟩ (some ⟨gp, 0, none⟩) 0 (fun i hi => absurd hi (by omega)); rw [hpr0] at hs0; refine hs0.mono ?_; clear hs0; rintro e w9 ⟨g, cap, U, rfl, hTO, hb9x⟩; have hb9 : Below wr.heap.size wr w9 := ⟨hb9x.os, hb9x.tape, hb9x.output, hb9x.size, hb9x.block⟩; have hTO2 : TreeO wr.heap.size w9 g T.length cap _ U := hTO; have hrr9 := (hb9.block (q + 1) (Array.getElem?_eq_some_iff.1 Hrr.out).1).trans Hrr.out; have hk9 := And.intro ((hb9.cell (p := ⟨q, 0, none⟩) hqr).trans kb) ((hb9.cell (p := ⟨gp, 0, none⟩) hgpr).trans kp0); have hTs : Turned (fun k => k = q + 1) w9 (w9.setCell ⟨q + 1, 0, none⟩ (.slice (some ⟨g, 0, none⟩) T.length cap)) := Turned.setCell (F := fun k => k = q + 1) (Turned.refl _ _) (p := ⟨q + 1, 0, none⟩) (fun _ => rfl) _; have Hks := hQ (And.intro ((hTs.cell (p := ⟨q, 0, none⟩) (Nat.lt_of_lt_of_le hqr hb9.size) (show q ≠ q + 1 by omega)).trans hk9.1) ((hTs.cell (p := ⟨gp, 0, none⟩) (Nat.lt_of_lt_of_le hgpr hb9.size) hgpq).trans hk9.2)); have Hk9 := hQ hk9; have kr9 := (cRw hrr9 0).trans rfl; have fr9 := fRw hrr9 0; have HTO := hQ hTO2; have Hb9 := hQ hb9; have Hrr9 := hQ hrr9; clear hTO hTO2 hb9x hb9 hk9 hTs hrr9))
      all_goals
       go_wp2_with fail
       obtain ⟨wS, hwS⟩ : ∃ wS, wS = w9.setCell ⟨q + 1, 0, none⟩ (.slice (some ⟨g, 0, none⟩) T.length cap) := ⟨_, rfl⟩
       rw [← hwS]
       have hTs : Turned (fun k => k = q + 1) w9 wS := by rw [hwS]; exact Turned.setCell (F := fun k => k = q + 1) (Turned.refl _ _) (p := ⟨q + 1, 0, none⟩) (fun _ => rfl) _
       have hrrS : wS.heap[q + 1]? = some (boxT (.slice (some ⟨g, 0, none⟩) T.length cap)) := by rw [hwS]; exact rSc Hrr9.out 0 _
       have hlb : lb2 < wr.heap.size := World.block_lt_of_cell? wr _ cl
       have hne2 : lb2 ≠ q + 1 := fun e => by
        have h1 := cl
        rw [e, cRw Hrr.out] at h1
        simp at h1
       have clS : wS.cell? ⟨lb2, lo2 + (m + 1), none⟩ = some (.int .i64 cm) := (hTs.cell (p := ⟨lb2, lo2 + (m + 1), none⟩) (Nat.lt_of_lt_of_le hlb Hb9.out.size) hne2).trans ((Hb9.out.cell (p := ⟨lb2, lo2 + (m + 1), none⟩) hlb).trans cl)
       have kS : wS.cell? ⟨q + 1, 0, none⟩ = some (.slice (some ⟨g, 0, none⟩) T.length cap) := (cRw hrrS 0).trans rfl
       have hlbS : lb2 < wS.heap.size := Nat.lt_of_lt_of_le (Nat.lt_of_lt_of_le hlb Hb9.out.size) hTs.size
       have hinS := (((Hin.out.new law Hb9.out).wide (G := fun k => F1 k ∨ k = q + 1) (fun _ h => .inl h)).boxed law (.inr rfl) (by have := HNq.out; have := Hq.out; omega) HQ.out.2.2.2 (fun h => (Hin.out.ext _ h).elim HQ.out.2.2.1 (fun h2 => by have := h2.1; have := HQ.out.2.2.2; omega)) (.slice (some ⟨g, 0, none⟩) T.length cap))
       have hris : ∀ W', Below wS.heap.size wS W' → Calls Tryz.prog 49 #[.slice ka st.ks.length kc] W' (RisPost st.ks W') := fun W' hW' => rising_any ka kc st.ks (fun e => by have := HklE.out; rw [e] at this; simp at this) (by have := HklE.out; omega) Hksok.out W' ((keysC (by rw [hwS]; exact hinS.kown)).below hW' (Nat.le_refl _))
       have Hris := hQ hris
       have HrrS := hQ hrrS
       have HwS := hQ hwS
       have hqS : q + 1 < wS.heap.size := Nat.lt_of_lt_of_le (Nat.lt_of_lt_of_le hqr2 Hb9.out.size) hTs.size
       have hllI : (m : Int) + 1 < ll.length := by rw [Hllen.out]; omega
       have hllN : m + 1 < ll.length := by rw [Hllen.out]; omega
       have hplE2 : (pl.length : Int) = m := HplI.out
       have hplN2 : pl.length = m := Hplm.out
       have hkW2 : IntKind.i64.wrap ((m : Int) + 1) = (m : Int) + 1 := IntWalk.i64_in _ (by omega)
       have hm01 : (0 : Int) ≤ (m : Int) + 1 := by omega
       have HplN2 := hQ hplN2
       rw [hplN2]
       clear hris hrrS hwS hinS hTs hplE2 hplN2 kb kp0 kr9 cl
       (try clear fr9)
       go_region_held3 (fun w' => w'.cell? ⟨q + 1, 0, none⟩ = some (.slice (some ⟨g, 0, none⟩) T.length cap) ∧ w'.cell? ⟨lb2, lo2 + (m + 1), none⟩ = some (.int .i64 cm))
        (first
         | exact ⟨kS, clS⟩
         | exact ⟨Hk10.out.1, Hk10.out.2⟩
         | exact ⟨Hkt.out.1, Hkt.out.2⟩)
        (first
         | (go_at_call 49; refine (Hris.out wS.drew ⟨rfl, rfl, rfl, Nat.le_refl _, fun _ _ => rfl⟩).mono ?_; rintro e w10 ⟨v2, rfl, hown2, hfar2, hb10x⟩; obtain ⟨ra, rc, rfl⟩ := ownK_lenC hown2; have hb10 : Below wS.heap.size wS w10 := ⟨hb10x.os, hb10x.tape, hb10x.output, hb10x.size, hb10x.block⟩; have hk10 := And.intro ((hb10.cell (p := ⟨q + 1, 0, none⟩) hqS).trans kS) ((hb10.cell (p := ⟨lb2, lo2 + (m + 1), none⟩) hlbS).trans clS); have hrr10 := (hb10.block (q + 1) hqS).trans HrrS.out; have fr10 := fRw hrr10 0; have kr10 := (cRw hrr10 0).trans rfl; have Hown2 := hQ hown2; have Hfar2 := hQ hfar2; have Hb10 := hQ hb10; have Hrr10 := hQ hrr10; have hTt : Turned (fun k => k = q + 1) w10 (w10.setCell ⟨q + 1, 0, none⟩ (.slice (some ⟨g, 0, none⟩) T.length cap)) := Turned.setCell (F := fun k => k = q + 1) (Turned.refl _ _) (p := ⟨q + 1, 0, none⟩) (fun _ => rfl) _; have Hkt := hQ (And.intro ((cRw (rSc hrr10 0 (.slice (some ⟨g, 0, none⟩) T.length cap)) 0).trans rfl) ((hTt.cell (p := ⟨lb2, lo2 + (m + 1), none⟩) (Nat.lt_of_lt_of_le hlbS hb10.size) hne2).trans hk10.2)); have Hk10 := hQ hk10; clear hown2 hfar2 hb10 hb10x hk10 hrr10 hTt))
       all_goals
        go_wp2_with fail
        refine bodyPost_ret_by (five_results _ _ (q + 1) (.slice (some ⟨g, 0, none⟩) T.length cap) rfl (by exact rSc Hrr10.out 0 _)) rfl ?_
        obtain ⟨m1, m2, m3, m4, m5, m6, m7, m8, m9⟩ := made_endP law (q := q) Hq.out (by rw [Hq.out]; exact HNq.out) HQ.out.1 HQ.out.2.1 HQ.out.2.2.1 HQ.out.2.2.2 Hin.out HTO.out Hb9.out Hown2.out (by rw [← HwS.out]; exact Hfar2.out) (by rw [← HwS.out]; exact Hb10.out) (.slice (some ⟨g, 0, none⟩) T.length cap)
        rw [HPE2.out]
        exact ⟨g, cap, U, ra, rc, sa, sc, F', rfl, m1, m2, m3, m4, m5, m6, m7, m8, m9⟩
    · go_wp2_with fail
      go_region_held3 (fun w' => w'.cell? ⟨q, 0, none⟩ = some (.slice a T.length c) ∧ w'.cell? ⟨gp, 0, none⟩ = some (.int .i64 pv0))
       (first
        | exact ⟨kb, kp0⟩
        | exact ⟨Hk9.out.1, Hk9.out.2⟩
        | exact ⟨Hks.out.1, Hks.out.2⟩)
       (first
        | (go_at_call 59; refine (Hset1.out wr.drew ⟨rfl, rfl, rfl, Nat.le_refl _, fun _ _ => rfl⟩ (some ⟨gp, 1, none⟩) (pc - 1) Hnr.out).mono ?_; rintro e w9 ⟨g, cap, U, rfl, hTO, hb9x⟩; have hb9 : Below wr.heap.size wr w9 := ⟨hb9x.os, hb9x.tape, hb9x.output, hb9x.size, hb9x.block⟩; have hTO2 : TreeO wr.heap.size w9 g T.length cap _ U := hTO; have hrr9 := (hb9.block (q + 1) (Array.getElem?_eq_some_iff.1 Hrr.out).1).trans Hrr.out; have hk9 := And.intro ((hb9.cell (p := ⟨q, 0, none⟩) hqr).trans kb) ((hb9.cell (p := ⟨gp, 0, none⟩) hgpr).trans kp0); have hTs : Turned (fun k => k = q + 1) w9 (w9.setCell ⟨q + 1, 0, none⟩ (.slice (some ⟨g, 0, none⟩) T.length cap)) := Turned.setCell (F := fun k => k = q + 1) (Turned.refl _ _) (p := ⟨q + 1, 0, none⟩) (fun _ => rfl) _; have Hks := hQ (And.intro ((hTs.cell (p := ⟨q, 0, none⟩) (Nat.lt_of_lt_of_le hqr hb9.size) (show q ≠ q + 1 by omega)).trans hk9.1) ((hTs.cell (p := ⟨gp, 0, none⟩) (Nat.lt_of_lt_of_le hgpr hb9.size) hgpq).trans hk9.2)); have Hk9 := hQ hk9; have kr9 := (cRw hrr9 0).trans rfl; have fr9 := fRw hrr9 0; have HTO := hQ hTO2; have Hb9 := hQ hb9; have Hrr9 := hQ hrr9; clear hTO hTO2 hb9x hb9 hk9 hTs hrr9))
      all_goals
       go_wp2_with fail
       obtain ⟨wS, hwS⟩ : ∃ wS, wS = w9.setCell ⟨q + 1, 0, none⟩ (.slice (some ⟨g, 0, none⟩) T.length cap) := ⟨_, rfl⟩
       rw [← hwS]
       have hTs : Turned (fun k => k = q + 1) w9 wS := by rw [hwS]; exact Turned.setCell (F := fun k => k = q + 1) (Turned.refl _ _) (p := ⟨q + 1, 0, none⟩) (fun _ => rfl) _
       have hrrS : wS.heap[q + 1]? = some (boxT (.slice (some ⟨g, 0, none⟩) T.length cap)) := by rw [hwS]; exact rSc Hrr9.out 0 _
       have hlb : lb2 < wr.heap.size := World.block_lt_of_cell? wr _ cl
       have hne2 : lb2 ≠ q + 1 := fun e => by
        have h1 := cl
        rw [e, cRw Hrr.out] at h1
        simp at h1
       have clS : wS.cell? ⟨lb2, lo2 + (m + 1), none⟩ = some (.int .i64 cm) := (hTs.cell (p := ⟨lb2, lo2 + (m + 1), none⟩) (Nat.lt_of_lt_of_le hlb Hb9.out.size) hne2).trans ((Hb9.out.cell (p := ⟨lb2, lo2 + (m + 1), none⟩) hlb).trans cl)
       have kS : wS.cell? ⟨q + 1, 0, none⟩ = some (.slice (some ⟨g, 0, none⟩) T.length cap) := (cRw hrrS 0).trans rfl
       have hlbS : lb2 < wS.heap.size := Nat.lt_of_lt_of_le (Nat.lt_of_lt_of_le hlb Hb9.out.size) hTs.size
       have hinS := (((Hin.out.new law Hb9.out).wide (G := fun k => F1 k ∨ k = q + 1) (fun _ h => .inl h)).boxed law (.inr rfl) (by have := HNq.out; have := Hq.out; omega) HQ.out.2.2.2 (fun h => (Hin.out.ext _ h).elim HQ.out.2.2.1 (fun h2 => by have := h2.1; have := HQ.out.2.2.2; omega)) (.slice (some ⟨g, 0, none⟩) T.length cap))
       have hris : ∀ W', Below wS.heap.size wS W' → Calls Tryz.prog 49 #[.slice ka st.ks.length kc] W' (RisPost st.ks W') := fun W' hW' => rising_any ka kc st.ks (fun e => by have := HklE.out; rw [e] at this; simp at this) (by have := HklE.out; omega) Hksok.out W' ((keysC (by rw [hwS]; exact hinS.kown)).below hW' (Nat.le_refl _))
       have Hris := hQ hris
       have HrrS := hQ hrrS
       have HwS := hQ hwS
       have hqS : q + 1 < wS.heap.size := Nat.lt_of_lt_of_le (Nat.lt_of_lt_of_le hqr2 Hb9.out.size) hTs.size
       have hllI : (m : Int) + 1 < ll.length := by rw [Hllen.out]; omega
       have hllN : m + 1 < ll.length := by rw [Hllen.out]; omega
       have hplE2 : (pl.length : Int) = m := HplI.out
       have hplN2 : pl.length = m := Hplm.out
       have hkW2 : IntKind.i64.wrap ((m : Int) + 1) = (m : Int) + 1 := IntWalk.i64_in _ (by omega)
       have hm01 : (0 : Int) ≤ (m : Int) + 1 := by omega
       have HplN2 := hQ hplN2
       rw [hplN2]
       clear hris hrrS hwS hinS hTs hplE2 hplN2 kb kp0 kr9 cl
       (try clear fr9)
       go_region_held3 (fun w' => w'.cell? ⟨q + 1, 0, none⟩ = some (.slice (some ⟨g, 0, none⟩) T.length cap) ∧ w'.cell? ⟨lb2, lo2 + (m + 1), none⟩ = some (.int .i64 cm))
        (first
         | exact ⟨kS, clS⟩
         | exact ⟨Hk10.out.1, Hk10.out.2⟩
         | exact ⟨Hkt.out.1, Hkt.out.2⟩)
        (first
         | (go_at_call 49; refine (Hris.out wS.drew ⟨rfl, rfl, rfl, Nat.le_refl _, fun _ _ => rfl⟩).mono ?_; rintro e w10 ⟨v2, rfl, hown2, hfar2, hb10x⟩; obtain ⟨ra, rc, rfl⟩ := ownK_lenC hown2; have hb10 : Below wS.heap.size wS w10 := ⟨hb10x.os, hb10x.tape, hb10x.output, hb10x.size, hb10x.block⟩; have hk10 := And.intro ((hb10.cell (p := ⟨q + 1, 0, none⟩) hqS).trans kS) ((hb10.cell (p := ⟨lb2, lo2 + (m + 1), none⟩) hlbS).trans clS); have hrr10 := (hb10.block (q + 1) hqS).trans HrrS.out; have fr10 := fRw hrr10 0; have kr10 := (cRw hrr10 0).trans rfl; have Hown2 := hQ hown2; have Hfar2 := hQ hfar2; have Hb10 := hQ hb10; have Hrr10 := hQ hrr10; have hTt : Turned (fun k => k = q + 1) w10 (w10.setCell ⟨q + 1, 0, none⟩ (.slice (some ⟨g, 0, none⟩) T.length cap)) := Turned.setCell (F := fun k => k = q + 1) (Turned.refl _ _) (p := ⟨q + 1, 0, none⟩) (fun _ => rfl) _; have Hkt := hQ (And.intro ((cRw (rSc hrr10 0 (.slice (some ⟨g, 0, none⟩) T.length cap)) 0).trans rfl) ((hTt.cell (p := ⟨lb2, lo2 + (m + 1), none⟩) (Nat.lt_of_lt_of_le hlbS hb10.size) hne2).trans hk10.2)); have Hk10 := hQ hk10; clear hown2 hfar2 hb10 hb10x hk10 hrr10 hTt))
       all_goals
        go_wp2_with fail
        refine bodyPost_ret_by (five_results _ _ (q + 1) (.slice (some ⟨g, 0, none⟩) T.length cap) rfl (by exact rSc Hrr10.out 0 _)) rfl ?_
        obtain ⟨m1, m2, m3, m4, m5, m6, m7, m8, m9⟩ := made_endP law (q := q) Hq.out (by rw [Hq.out]; exact HNq.out) HQ.out.1 HQ.out.2.1 HQ.out.2.2.1 HQ.out.2.2.2 Hin.out HTO.out Hb9.out Hown2.out (by rw [← HwS.out]; exact Hfar2.out) (by rw [← HwS.out]; exact Hb10.out) (.slice (some ⟨g, 0, none⟩) T.length cap)
        rw [HPE2.out]
        exact ⟨g, cap, U, ra, rc, sa, sc, F', rfl, m1, m2, m3, m4, m5, m6, m7, m8, m9⟩
end Go.Proofs.YtedpljclnpiggaaGreatDoor
