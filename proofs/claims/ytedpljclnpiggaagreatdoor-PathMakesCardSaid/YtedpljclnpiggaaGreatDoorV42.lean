/- The document's Make of any tree, where a path may be made: the walk. -/
import Derived.Test.YtedpljclnpiggaaGreatDoorV40
import Derived.Test.YtedpljclnpiggaaGreatDoorV30
import Derived.Deep.RegionHeld3
import Derived.Test.YtedpljclnpiggaaGreatDoorV41
import Derived.Test.YtedpljclnpiggaaGreatDoorV36
set_option linter.unusedVariables false
set_option linter.unusedSimpArgs false
set_option maxRecDepth 100000
set_option maxHeartbeats 12800000
namespace Go.Proofs.YtedpljclnpiggaaGreatDoor
open Go Go.RowKit
abbrev RSt (r : Nat) : World → (Nat → Prop) → List TermD → Prop := fun w F L => RefStore w r F L
theorem rfive_results (tmps : Array Value) (w : World) (r : Nat) (v : Value) (h4 : tmps.getD 12 undef = .pointer (some ⟨r, 0, none⟩))
    (hg : w.heap[r]? = some (.cells #[v] 44 (0, 0))) : (results Tryz.f23 tmps).run Tryz.prog w = .ok (.tuple #[.agg #[v], tmps.getD 13 undef, tmps.getD 14 undef, tmps.getD 15 undef, tmps.getD 16 undef]) w := by
 have hl := run_loadVar_row (P := Tryz.prog) w r 44 44 #[v] (0, 0) _ hg Tryz.underlying44 rfl (by kernel_rfl)
 have ha : (asAddr (.pointer (some ⟨r, 0, none⟩))).run Tryz.prog w = .ok ⟨r, 0, none⟩ w := by simp [asAddr]
 have hr : Tryz.f23.results = #[.cell 12 44, .tmp 13, .tmp 14, .tmp 15, .tmp 16] := by kernel_rfl
 have h4' : tmps[12]?.getD undef = .pointer (some ⟨r, 0, none⟩) := by simpa using h4
 simp only [results, hr]
 simp [Sem.run_bind, h4', ha, hl]
theorem keysB {w : World} {a : Option Addr} {n c : Nat} {l : List KeyP} (h : w.ownsRow 0 123 2 (.slice a n c) l.length (l.flatMap keyV)) : KeysAt w a l := by
 rcases h.2 with ⟨e, h2⟩ | ⟨g, cap, cur, e, _⟩
 · intro i hi; omega
 · obtain ⟨rfl, rfl, rfl⟩ : a = some ⟨g, 0, none⟩ ∧ n = l.length ∧ c = cap := by simpa using e
   exact keys_at (F := fun _ => False) ⟨h, fun _ _ h => h⟩ rfl
theorem TgIn.kept' {N0 : Nat} {G : Nat → Prop} {w w' : World} {v : Value} {Ts : List TgV} (h : TgIn N0 w v Ts) (hT : Turned G w w') (hd : ∀ g, N0 ≤ g → ¬ G g) : TgIn N0 w' v Ts :=
 ⟨oKp h.own hT (fun g hg => hd g (h.far g hg)), h.far, fun t ht => ⟨oIk (h.each t ht).1 hT (fun g hg => hd g ((h.each t ht).2 g hg).1), (h.each t ht).2⟩⟩
def RmRel (r N : Nat) (F : Nat → Prop) (a : Option Addr) (T : List NodeD) (fa : Option Addr) (fresh : List Int) (f : Nat → MkRow) (L1 : List TermD) (m : Nat) (w1 : World) (vk vp vs i : Value) (wr : World) : Prop :=
 ∃ (k : Nat) (F' : Nat → Prop), k ≤ m ∧ i = .int .i64 k ∧ MkIn (RSt r) N F F' a T fa fresh (rsD (mkGo T f L1 (k + 1)).ks) (mkGo T f L1 (k + 1)).ps.tail (mkGo T f L1 (k + 1)).ss (mkGo T f L1 (k + 1)).L vk vp vs w1 wr
def RvRel (r N : Nat) (F : Nat → Prop) (a : Option Addr) (T : List NodeD) (fa : Option Addr) (fresh : List Int) (x : Nat) (sec : Int) (st : MkS) (l : List Nat) (vk vp : Value) (w1 : World) (vs i : Value) (wr : World) : Prop :=
 ∃ (j : Nat) (F' : Nat → Prop), j ≤ l.length ∧ i = .int .i64 j ∧ MkIn (RSt r) N F F' a T fa fresh (rsD st.ks) st.ps.tail (sealsGo T x sec st (l.take j)).ss (sealsGo T x sec st (l.take j)).L vk vp vs w1 wr
theorem rmake_path (r N : Nat) (F : Nat → Prop) (L : List TermD) (hG : Good L) (hM : AllMay L) (hl : L.length ≤ 3000) (T : List NodeD) (hfit : FitT T) (hlen : T.length ≤ 262144) (a : Option Addr) (c : Nat) (leaf ep seed : Int) (fresh : List Int) (hfl : fresh.length ≤ 1000000000) (fa : Option Addr) (fc : Nat) (w : World) (hw : MkW (RSt r) N F L a T fa fresh w) (hcond : MkCond T L leaf ep seed) :
    Calls Tryz.prog 23 #[.pointer (some ⟨r, 0, none⟩), .agg #[.slice a T.length c], .int .i64 leaf, .int .i64 ep, .int .i64 seed, .slice fa fresh.length fc] w (MadeP (RSt r) N F L a T fa fresh leaf ep seed w) := by
 obtain ⟨i0, hi0, hz0, hz1, hz2⟩ := info_parts infoI
 obtain ⟨iS, hiS, hs0, hs1, hs2⟩ := info_parts slInfo
 have law := refLaw r
 have hmf := mk_facts fresh hG hM hl hcond
 obtain ⟨hok, hheld, hep, hseed, hask⟩ := hcond
 have HNq := hQ hw.size
 obtain ⟨P, hPd⟩ : ∃ P, P = MadeP (RSt r) N F L a T fa fresh leaf ep seed w := ⟨_, rfl⟩
 rw [← hPd]
 have hP : P = fun e w' => ∃ g cap U ka kc sa sc F', e = .returned (.tuple #[.agg #[.slice (some ⟨g, 0, none⟩) T.length cap], .slice ka (rsD (mkGo T (mkRows T L leaf seed fresh) (mkL1 T L leaf seed) (mkM T leaf + 1)).ks).length kc, .slice sa (mkGo T (mkRows T L leaf seed fresh) (mkL1 T L leaf seed) (mkM T leaf + 1)).ss.length sc, .int .i64 ((mkL T L leaf seed).getD (mkM T leaf + 1) 0), .int .i64 0]) ∧
  TreeO w.heap.size w' g T.length cap (setF T leaf.toNat ep ((mkGo T (mkRows T L leaf seed fresh) (mkL1 T L leaf seed) (mkM T leaf + 1)).ps.getD 0 0) (mkGo T (mkRows T L leaf seed fresh) (mkL1 T L leaf seed) (mkM T leaf + 1)).ps.tail) U ∧
  OwnK (.slice ka (rsD (mkGo T (mkRows T L leaf seed fresh) (mkL1 T L leaf seed) (mkM T leaf + 1)).ks).length kc) (rsD (mkGo T (mkRows T L leaf seed fresh) (mkL1 T L leaf seed) (mkM T leaf + 1)).ks) w' ∧
  OwnS (.slice sa (mkGo T (mkRows T L leaf seed fresh) (mkL1 T L leaf seed) (mkM T leaf + 1)).ss.length sc) (mkGo T (mkRows T L leaf seed fresh) (mkL1 T L leaf seed) (mkM T leaf + 1)).ss w' ∧
  MkW (RSt r) N F' (mkGo T (mkRows T L leaf seed fresh) (mkL1 T L leaf seed) (mkM T leaf + 1)).L a T fa fresh w' ∧ Ext F F' w w' ∧ Turned F w w' ∧
  (∀ x, (x = g ∨ (Value.slice ka (rsD (mkGo T (mkRows T L leaf seed fresh) (mkL1 T L leaf seed) (mkM T leaf + 1)).ks).length kc).ownBlock = some x ∨ (Value.slice sa (mkGo T (mkRows T L leaf seed fresh) (mkL1 T L leaf seed) (mkM T leaf + 1)).ss.length sc).ownBlock = some x ∨ ∃ i, i < T.length ∧ (U i).ownBlock = some x) → w.heap.size ≤ x ∧ ¬ F' x) ∧
  (∀ x, (Value.slice ka (rsD (mkGo T (mkRows T L leaf seed fresh) (mkL1 T L leaf seed) (mkM T leaf + 1)).ks).length kc).ownBlock = some x → (Value.slice sa (mkGo T (mkRows T L leaf seed fresh) (mkL1 T L leaf seed) (mkM T leaf + 1)).ss.length sc).ownBlock ≠ some x ∧ x ≠ g ∧ ∀ i, i < T.length → (U i).ownBlock ≠ some x) ∧
  (∀ x, (Value.slice sa (mkGo T (mkRows T L leaf seed fresh) (mkL1 T L leaf seed) (mkM T leaf + 1)).ss.length sc).ownBlock = some x → x ≠ g ∧ ∀ i, i < T.length → (U i).ownBlock ≠ some x) := by rw [hPd]; rfl
 clear hPd
 have hset := fun (W : World) (pa : Option Addr) (pc : Nat) (pub : Int) (pubs : List Int) (h : TreeAt N W a T) (hN : N ≤ W.heap.size) (h1 : 1 ≤ pub) (h2 : pubs.length = (pthD T leaf.toNat).length) (h3 : ∀ i, i < pubs.length → 1 ≤ pubs.getD i 0) (h4 : NumsAt W.heap.size W pa pubs) => mrsetpath_any N T hfit hlen a c leaf ep pub hask hep h1 pubs h2 h3 pa pc W hN h h4
 have hhead := fun k => mkGo_head T (mkRows T L leaf seed fresh) (mkL1 T L leaf seed) k
 have hFl := fun k hk => law.lt hw.st k hk
 obtain ⟨W0, hW⟩ : ∃ W0, W0 = (w.alloc (.cells #[.slice a T.length c] 44)).alloc (.cells #[.slice none 0 0] 44) := ⟨_, rfl⟩
 have hb1 : Below w.heap.size w W0 := by rw [hW]; exact ((Below.refl w.heap.size w).alloc (Nat.le_refl _) _).alloc (by simp) _
 have hrow : W0.heap[w.heap.size]? = some (.cells #[.slice a T.length c] 44 (0, 0)) := by rw [hW]; exact (Below.heap_alloc _ _ _ (by simp)).trans (rAl _ _ _)
 have hres : W0.heap[w.heap.size + 1]? = some (.cells #[.slice none 0 0] 44 (0, 0)) := by
  rw [hW]
  have := rAl (w := w.alloc (.cells #[.slice a T.length c] 44)) #[.slice none 0 0] 44 (0, 0)
  simpa using this
 have hB0 : MkB (RSt r) N F F L a c T fa fresh w.heap.size w W0 :=
  ⟨hw.new law hb1, ⟨hrow, fun hf => by have := hFl _ hf; omega⟩, ⟨hres, fun hf => by have := hFl _ hf; omega⟩, Ext.refl _ _ _, Turned.new F hb1⟩
 have hck := fun (W : World) (h : MkW (RSt r) N F L a T fa fresh W) => archeck_any N T hfit hlen a c W h.size h.tr.at'
 rw [errD_ok hok] at hck
 have his := fun (W : World) (h : RefStore W r F L) => ris_any r F L seed W h (by omega)
 rw [hseed] at his
 have hhe := fun (W : World) (h : MkW (RSt r) N F L a T fa fresh W) => arheld_any N r F L (by omega) T hlen a c W h.st h.size h.tr.at'
 have hpa := fun (W : World) (h : MkW (RSt r) N F L a T fa fresh W) => mrpath_any N T hfit hlen a c leaf W h.size h.tr.at'
 unfold PathAns at hpa
 rw [hask, if_pos rfl] at hpa
 have hta := fun (W : World) (h : MkW (RSt r) N F L a T fa fresh W) => mrtargets_any N T hfit hlen a c leaf hask fresh hfl fa fc W h.size h.tr.at' h.nm.at'
 unfold TgtAns at hta
 rw [hask, if_pos rfl] at hta
 have hse := fun (W : World) (h : RefStore W r F L) => rsecrets_any r F L seed (mkM T leaf + 1 : Nat) hG (by omega) W h
 have hse0 : secretsE L seed (mkM T leaf + 1 : Nat) = 0 := by unfold secretsE; rw [hmf.bad]; rfl
 unfold SecPost at hse
 rw [hse0] at hse
 change ∀ W, _ → Calls _ _ _ _ (fun e w' => ∃ v F', _ ∧ OwnI v (mkL T L leaf seed) w' ∧ _ ∧ RefStore w' r F' (mkL1 T L leaf seed) ∧ _) at hse
 rw [show ((mkM T leaf + 1 : Nat) : Int) = (mkM T leaf : Int) + 1 from by omega] at hse
 obtain ⟨_, hl0, hlt, hn, hTn, _⟩ := ask_zero hask
 have hns := mk_ns (T := T) (L := L) (leaf := leaf) (seed := seed) (fresh := fresh)
 have hls := mk_ls (T := T) (L := L) (leaf := leaf) (seed := seed) (fresh := fresh)
 have hts := mk_ts (T := T) (L := L) (leaf := leaf) (seed := seed) (fresh := fresh)
 have hgo := mkGo_ok (f := mkRows T L leaf seed fresh) hmf.good hmf.may hmf.len (show mkM T leaf + 1 ≤ 4 by have := hmf.m3; omega) hmf.rows
 have hmid := fun k (hk : k < mkM T leaf + 1) j => mkGo_mid (f := mkRows T L leaf seed fresh) hmf.good hmf.may hmf.len (show mkM T leaf + 1 ≤ 4 by have := hmf.m3; omega) hmf.rows hk j
 have hrows := hmf.rows
 have hL1 := hmf.len
 have hllen := hmf.llen
 have hm3 := hmf.m3
 have hep0 : ¬ ep < 0 := by omega
 have hlfI : leaf ≤ 8 := by omega
 have hl0I : 0 ≤ leaf := hl0
 have hT15 : T.length ≤ 15 := by rcases hn with h | h | h | h <;> omega
 have hTI : (T.length : Int) ≤ 15 := by omega
 have hplm : (pthD T leaf.toNat).length = mkM T leaf := rfl
 have htlm : (tgtD T leaf.toNat fresh).length = mkM T leaf := tgt_len _ _ _
 have hf0 : mkRows T L leaf seed fresh 0 = (2 * leaf.toNat, [], (mkL T L leaf seed).getD 0 0) := rfl
 have h2l : ((2 * leaf.toNat : Nat) : Int) = 2 * leaf := by omega
 have HF := hQ hheld
 have HL1 := hQ hL1
 clear hL1
 generalize mkRows T L leaf seed fresh = f at hP hhead hns hls hts hgo hmid hrows hf0
 generalize mkL1 T L leaf seed = L1 at hP hhead hse hgo hmid hrows HL1
 generalize mkL T L leaf seed = ll at hP hse hls hllen hf0
 generalize mkM T leaf = m at hP hse hse0 hns hgo hmid hrows hllen hm3 hplm htlm
 generalize pthD T leaf.toNat = pl at hset hpa hns hplm
 generalize tgtD T leaf.toNat fresh = tl at hta hts htlm
 have HP := hQ hP
 have Hset := hQ hset
 have Hhead := hQ hhead
 clear hP hset hhead
 have HB0 := hQ hB0
 have Hck := hQ hck
 have His := hQ his
 have Hhe := hQ hhe
 have Hpa := hQ hpa
 have Hta := hQ hta
 have Hse := hQ hse
 have Hns := hQ hns
 have Hls := hQ hls
 have Hts := hQ hts
 have Hgo := hQ hgo
 have Hmid := hQ hmid
 have Hrows := hQ hrows
 have Hllen := hQ hllen
 have Hplm := hQ hplm
 have Htlm := hQ htlm
 have Hf0 := hQ hf0
 have HFl := hQ hFl
 have H2l := hQ h2l
 have hmI : (m : Int) ≤ 3 := by omega
 have hplI : (pl.length : Int) = m := by omega
 have HplI := hQ hplI
 have hW2 := hW
 clear hW hb1 hrow hres hB0 hck his hhe hpa hta hse hse0 hns hls hts hgo hmid hrows hllen hplm htlm hf0 hFl hmf hok hheld hep hseed hask hlt hn hTn hw hfit hG hM h2l
 go_enter Tryz.func23, Tryz.ntmps23
 go_wp2_with fail
 rw [← hW2]
 clear hW2
 refine (Hck.out _ HB0.out.mw).mono ?_
 rintro e w2 ⟨rfl, hb2⟩
 obtain ⟨q, hq⟩ : ∃ q, q = w.heap.size := ⟨_, rfl⟩
 rw [← hq] at HB0 ⊢
 have Hq := hQ hq; clear hq
 have HB2 := hQ (HB0.out.new law hb2); clear hb2 HB0 Hck
 go_wp2_with fail
 refine (His.out _ HB2.out.mw.st).mono ?_
 rintro e w3 ⟨rfl, hb3⟩
 have HB3 := hQ (HB2.out.new law hb3); clear hb3 HB2 His
 have k := (cRw HB3.out.bx.at' 0).trans rfl
 go_wp2_with fail
 refine (Hhe.out _ HB3.out.mw).mono ?_
 rintro e w3b ⟨b, rfl, hb, hb3⟩
 have hbt : b = true := hb.2 HF.out
 subst hbt
 have HB3b := hQ (HB3.out.new law hb3); clear hb3 HB3 k hb Hhe HF
 have k := (cRw HB3b.out.bx.at' 0).trans rfl
 go_wp2_with fail
 refine (Hpa.out _ HB3b.out.mw).mono ?_
 rintro e w4 ⟨na, nc, rfl, hown4, hg4, hb4⟩
 have HB4 := hQ (HB3b.out.new law hb4)
 have hg4' : ∀ g, (Value.slice na pl.length nc).ownBlock = some g → q ≤ g := fun g hg => by have := hg4 g hg; have := HB3b.out.tur.size; have := Hq.out; omega
 have Hg4 := hQ hg4'
 have Hown4 := hQ hown4
 have Hqs4 := hQ (show q ≤ w4.heap.size from by have := HB4.out.tur.size; have := Hq.out; omega)
 clear hb4 HB3b k hg4 Hpa hown4 hg4'
 have k := (cRw HB4.out.bx.at' 0).trans rfl
 go_wp2_with fail
 refine (Hta.out _ HB4.out.mw).mono ?_
 rintro e w5 ⟨tv, Ts, rfl, hti, htm, hb5⟩
 obtain ⟨ta, tc, rfl⟩ := hti.len
 have hown5 := ownI_below Hown4.out hb5
 have Hown5 := hQ hown5
 have HB5 := hQ (HB4.out.new law hb5)
 have Htl5 := hQ (show (∀ g, (Value.slice ta Ts.length tc).ownBlock = some g → g < w5.heap.size) ∧ ∀ t ∈ Ts, ∀ g, t.val.ownBlock = some g → g < w5.heap.size from ⟨fun g hg => (hti.own.lt g hg).2, fun t ht g hg => ownI_lt (hti.each t ht).1 hg⟩)
 have Hti := hQ (hti.base Hqs4.out)
 have Htm := hQ htm
 have hTsl : Ts.length = m := by
  have e := congrArg List.length htm
  rw [List.length_map] at e
  have := Htlm.out
  omega
 have HTsl := hQ hTsl
 clear hb5 k hti htm hown5 Hown4 Hta HB4 hTsl
 go_wp2_with fail
 refine (Hse.out _ HB5.out.mw.st).mono ?_
 rintro e w6 ⟨lv, F1, rfl, hlv, hx, hs, hTu, hlfar⟩
 obtain ⟨la, lc, rfl, _⟩ := ownI_len hlv
 have hdF : ∀ g, q ≤ g → ¬ F g := fun g hg hf => by have := HFl.out g hf; have := Hq.out; omega
 have hown6 := oIk Hown5.out hTu (fun g hg => hdF g (Hg4.out g hg))
 have hti6 := Hti.out.kept' hTu (fun g hg => hdF g hg)
 have hF1n : ∀ g, g < w5.heap.size → q ≤ g → ¬ F1 g := fun g h1 h2 hf => (hx g hf).elim (hdF g h2) (fun h => by omega)
 have hgown := fun g hg => hF1n g (ownI_lt Hown5.out hg) (Hg4.out g hg)
 have htown := And.intro (fun g hg => hF1n g (Htl5.out.1 g hg) (Hti.out.far g hg)) (fun t ht g hg => hF1n g (Htl5.out.2 t ht g hg) ((Hti.out.each t ht).2 g hg).1)
 have HB6 := hQ (HB5.out.step hx hs hTu)
 have hxS : XsS F1 w6 (fun i => ((f (i + 1)).1 : Nat)) m na := xs_own hown6 hgown (by rw [nIl, Hplm.out]; exact Nat.le_refl _) (fun i hi => Hns.out i hi)
 have hlS : XsS F1 w6 (fun i => ll.getD i 0) (m + 2) la := xs_own hlv (fun g hg => (hlfar g hg).2) (by rw [Hllen.out]; exact Nat.le_refl _) (fun i hi => rfl)
 have htS : TsS F1 w6 f m ta := ts_own (N0 := q) hti6 htown.1 htown.2 (by rw [HTsl.out]; exact Nat.le_refl _) (fun i hi => by rw [Htm.out]; exact Hts.out i)
 have htrS : ∀ W, Turned F1 w6 W → TreeAt N W a T := fun W hW => HB6.out.mw.tr W (hW.mono (fun _ _ h => .inl h))
 have HtrS := hQ htrS
 clear htrS
 have hbx : ∀ W, Turned F1 w6 W → W.heap[q]? = some (boxT (.slice a T.length c)) := fun W hW => (hW.block q HB6.out.bx.lt HB6.out.bx.out).trans HB6.out.bx.at'
 have hbr : ∀ W, Turned F1 w6 W → W.heap[q + 1]? = some (boxT (.slice none 0 0)) := fun W hW => (hW.block (q + 1) HB6.out.rs.lt HB6.out.rs.out).trans HB6.out.rs.at'
 have Hbr := hQ hbr
 have HQ := hQ (And.intro HB6.out.ext (And.intro HB6.out.tur (And.intro HB6.out.rs.out HB6.out.rs.lt)))
 clear hbr
 have Hbx := hQ hbx
 have Hlo := hQ (And.intro hxS (And.intro hlS htS))
 have hin0 := MkIn.start law HB6.out.mw
 have Hin0 := hQ hin0
 have hsec := Hrows.out.sec 0 (by omega)
 rw [Hf0.out] at hsec
 have hg0 := Hgo.out 0 (Nat.zero_le _)
 have hpv : (f 0).2.2 = ll.getD 0 0 := by rw [Hf0.out]
 have hhd := Hhead.out m
 rw [hpv] at hhd
 have hnode := fun (W : World) (h : RefStore W r F1 L1) => rnode_any r F1 L1 (ll.getD 0 0) hg0.1.good (by have := HL1.out; show L1.length ≤ 5000; omega) W h
 rw [node_e hsec] at hnode
 have hgo1 : mkGo T f L1 (0 + 1) = ⟨[(((2 * leaf.toNat : Nat) : Int), nodeK L1 (ll.getD 0 0))], [nodeP L1 (ll.getD 0 0)], [], nodeT L1 (ll.getD 0 0)⟩ := by
  show sealsGo T (f 0).1 (f 0).2.2 (nodeStep ⟨[], [], [], L1⟩ (f 0).1 (f 0).2.2) (f 0).2.1 = _
  rw [Hf0.out]
  rfl
 rw [H2l.out] at hgo1
 obtain ⟨lb, lo, e1, cl⟩ := hlS w6 (Turned.refl _ _) 0 (by omega)
 subst e1
 dsimp only at cl
 rw [Nat.add_zero] at cl
 have hkll : 0 < ll.length := by rw [Hllen.out]; omega
 have hkllI : (0 : Int) < ll.length := by omega
 generalize ll.getD 0 0 = sec0 at cl hnode hgo1 hhd
 generalize nodeK L1 sec0 = kv0 at hnode hgo1
 generalize nodeP L1 sec0 = pv0 at hnode hgo1 hhd
 have Hhd := hQ hhd
 clear hhd hpv Hhead
 generalize nodeT L1 sec0 = L2 at hnode hgo1
 have Hnode := hQ hnode
 have Hgo1 := hQ hgo1
 clear hlv hx hs hTu hlfar hdF hown6 hti6 hF1n hgown htown hxS hlS htS hin0 hbx hsec hg0 hnode hgo1 Hown5 Hti Htl5 Hse Hg4 HB5
 go_wp2_with fail
 refine (Hnode.out _ HB6.out.mw.st).mono ?_
 rintro e w7 ⟨rfl, F2, hx, hs, hTu⟩
 have hin7 := Hin0.out.store hx hs hTu
 have hb8 : Below w7.heap.size w7 (w7.alloc (.cells #[.int .i64 (2 * leaf), .int .i64 kv0] 123)) := (Below.refl _ _).alloc (Nat.le_refl _) _
 have hone : OwnK (.slice (some ⟨w7.heap.size, 0, none⟩) 1 1) [(2 * leaf, kv0)] (w7.alloc (.cells #[.int .i64 (2 * leaf), .int .i64 kv0] 123)) := ⟨rfl, .inr ⟨w7.heap.size, 1, #[.int .i64 (2 * leaf), .int .i64 kv0], rfl, Nat.zero_le _, rAl _ _ _, Nat.le_refl _, by unfold maxLen; omega, rfl, rfl⟩⟩
 have hin8 := hin7.keys law hb8 hone (fun g hg => by
  have : w7.heap.size = g := by simpa [Value.ownBlock] using hg
  omega)
 have hst0 : RmRel r N F1 a T fa fresh f L1 m w6 (.slice (some ⟨w7.heap.size, 0, none⟩) 1 1) (.slice none 0 0) (.slice none 0 0) (.int .i64 0) (w7.alloc (.cells #[.int .i64 (2 * leaf), .int .i64 kv0] 123)) :=
  ⟨0, F2, Nat.zero_le _, rfl, by rw [Hgo1.out]; exact hin8⟩
 have Hst0 := hQ hst0
 clear hx hs hTu hin7 hb8 hone hin8 hst0 Hin0 Hnode HB6 cl
 go_wp2_with fail
 go_loopw [25, 27, 26, 28] (fun vk vs vp i wr => RmRel r N F1 a T fa fresh f L1 m w6 vk vp vs i wr) (fun _ _ _ i _ => m - (intOf i).toNat)
 case atStart => exact Hst0.out
 case round =>
  obtain ⟨k, F', hk, rfl, hin⟩ := hrel
  obtain ⟨ka, kc, rfl⟩ := hin.klen
  obtain ⟨pa, pc, rfl⟩ := hin.plen
  obtain ⟨sa, sc, rfl⟩ := hin.slen
  have Hin := hQ hin
  by_cases hkm : k < m
  · obtain ⟨hxS, hlS, htS⟩ := Hlo.out
    obtain ⟨xb, xo, e1, cx⟩ := hxS wr hin.tur k hkm
    obtain ⟨lb2, lo2, e2, cl⟩ := hlS wr hin.tur (k + 1) (by omega)
    obtain ⟨rfl, rfl⟩ : lb = lb2 ∧ lo = lo2 := by simpa using e2
    obtain ⟨tg, ua, uc, e3, hTs⟩ := htS k hkm
    subst e1
    subst e3
    dsimp only at cx cl
    rw [Hls.out (k + 1)] at cl
    obtain ⟨hok1, hkl, hsl⟩ := Hgo.out (k + 1) (by omega)
    have hsec := Hrows.out.sec (k + 1) (by omega)
    have hlen1 := hok1.len
    have hth : thereD (mkGo T f L1 (k + 1)).L.length (f (k + 1)).2.2 = true := there_mono hsec hok1.grow
    have hL5 : (mkGo T f L1 (k + 1)).L.length ≤ 5000 := by have := HL1.out; omega
    have hnode := fun (W : World) (h : RefStore W r F' (mkGo T f L1 (k + 1)).L) => rnode_any r F' _ (f (k + 1)).2.2 hok1.good hL5 W h
    rw [node_e hth] at hnode
    have hpsl : (mkGo T f L1 (k + 1)).ps.length = k + 1 := by rw [hok1.lenp, hkl]
    have hkI : (k : Int) < m := by omega
    have hgoS : mkGo T f L1 (k + 1 + 1) = sealsGo T (f (k + 1)).1 (f (k + 1)).2.2 (nodeStep (mkGo T f L1 (k + 1)) (f (k + 1)).1 (f (k + 1)).2.2) (f (k + 1)).2.1 := rfl
    obtain ⟨st, hst⟩ : ∃ st, st = mkGo T f L1 (k + 1) := ⟨_, rfl⟩
    have hmidk := Hmid.out (k + 1) (by omega)
    have hptr := Hrows.out.pub (k + 1) (by omega)
    have hlty := Hrows.out.lt (k + 1) (by omega)
    have hl144 := Hrows.out.few (k + 1) (by omega)
    rw [← hst] at hnode hkl hpsl hsl Hin hmidk hgoS ⊢
    obtain ⟨fk, hfk⟩ : ∃ fk, fk = f (k + 1) := ⟨_, rfl⟩
    rw [← hfk] at cx cl hnode hgoS hmidk hsec hptr hlty hl144 hTs
    have Hfk := hQ hfk
    obtain ⟨x, l, sec⟩ := fk
    simp only at cx cl hnode hgoS hmidk hsec hptr hlty hl144 hTs
    have hnd1 : nodeStep st x sec = ⟨st.ks ++ [((x : Int), nodeK st.L sec)], st.ps ++ [nodeP st.L sec], st.ss, nodeT st.L sec⟩ := rfl
    generalize nodeStep st x sec = st2 at hnd1 hgoS hmidk
    generalize nodeT st.L sec = L2 at hnd1 hnode
    generalize nodeK st.L sec = kv at hnd1 hnode
    generalize nodeP st.L sec = pv at hnd1 hnode
    have Hnode := hQ hnode
    have HgoS := hQ hgoS
    have Hmidk := hQ hmidk
    have Hsec := hQ hsec
    have Hptr := hQ hptr
    have Hlty := hQ hlty
    have Hnd1 := hQ hnd1
    have HTs := hQ hTs
    have hxS2 := fun W (hW : Turned F1 w6 W) => hxS W hW k hkm
    have Hx2 := hQ hxS2
    have hlS2 := fun W (hW : Turned F1 w6 W) => hlS W hW (k + 1) (by omega)
    have Hl2 := hQ hlS2
    have hkll2 : k + 1 < ll.length := by rw [Hllen.out]; omega
    have hkll2I : (k : Int) + 1 < ll.length := by omega
    have hrl := risingD_len st.ks
    have Hkl := hQ (show (rsD st.ks).length ≤ 4 by omega)
    have Hpsl := hQ (show st.ps.tail.length ≤ 4 by rw [List.length_tail]; omega)
    have hps1 : ∀ pv', st.ps.tail ++ [pv'] = (st.ps ++ [pv']).tail := fun pv' => by
     cases h : st.ps with
     | nil => rw [h] at hpsl; simp at hpsl
     | cons y r => rfl
    have hrk1 : ∀ kk, putD (rsD st.ks) kk = rsD (st.ks ++ [kk]) := fun kk => (risingD_snoc _ _).symm
    have hris := rising_risingD st.ks
    have Hsl := hQ hsl
    have hl144I : (l.length : Int) ≤ 144 := by omega
    obtain ⟨rk, hrk⟩ : ∃ rk, rk = rsD st.ks := ⟨_, rfl⟩
    obtain ⟨pt, hpt⟩ : ∃ pt, pt = st.ps.tail := ⟨_, rfl⟩
    obtain ⟨sl, hsle⟩ : ∃ sl, sl = st.ss := ⟨_, rfl⟩
    rw [← hrk, ← hpt, ← hsle] at Hin ⊢
    rw [← hrk] at Hkl hrk1 hris
    rw [← hpt] at Hpsl hps1
    rw [← hsle] at Hsl Hnd1
    have Hps1 := hQ hps1
    have Hrk1 := hQ hrk1
    have Hris := hQ hris
    clear hps1 hrk1 hris hrk hpt hsle
    clear hnode hgoS hmidk hsec hptr hlty hnd1 hkl hpsl hsl hok1 hlen1 hth hL5 hin hfk hst hxS hlS htS hTs hxS2 hlS2 e2 hrl hl144
    go_wp2_with fail
    refine (Hnode.out _ Hin.out.mw.st).mono ?_
    rintro e w8 ⟨rfl, F2, hx, hs, hTu⟩
    have hin8 := Hin.out.store hx hs hTu
    have HIn8 := hQ hin8
    obtain ⟨xb2, xo2, e5, cx8⟩ := Hx2.out w8 hin8.tur
    obtain ⟨rfl, rfl⟩ : xb = xb2 ∧ xo = xo2 := by simpa using e5
    try dsimp only at cx8
    rw [← Hfk.out] at cx8
    simp only at cx8
    have hplI := HplI.out
    have hkp : k < pl.length := by rw [Hplm.out]; exact hkm
    have hkpI : (k : Int) < pl.length := by omega
    have hput := rput_any rk Hris.out (by have := Hkl.out; omega) ((x : Int), kv) ka kc w8 (keysB hin8.kown)
    have Hput := hQ hput
    clear hx hs hTu Hnode cx cl Hin hin8 e5 hput hplI
    go_wp2_with fail
    refine Hput.out.mono ?_
    rintro e w9 ⟨v9, rfl, hown9, hg9, hb9⟩
    have hin9 := HIn8.out.keys law hb9 hown9 hg9
    rw [Hrk1.out] at hin9
    obtain ⟨rk2, hrk2⟩ : ∃ rk2, rk2 = rsD (st.ks ++ [((x : Int), kv)]) := ⟨_, rfl⟩
    rw [← hrk2] at hin9
    obtain ⟨ka9, kc9, rfl⟩ := hin9.klen
    have HIn9 := hQ hin9
    have Hrk2 := hQ hrk2
    clear hown9 hg9 hb9 hin9 cx8 Hput HIn8 hrk2
    go_wp2_with (at_builtin; refine wpList_append_lies _ rfl (.tmp 121) (.tmp 123) 27 rfl 0 3 i0 (.int .i64 0) 1 8 Tryz.underlying27 hi0 hz0 hz1 hz2 rfl (by decide) (.slice pa pt.length pc) pt.length (pt.map intV) rfl (World.ownsRow.alloc HIn9.out.pown _) ⟨w9.heap.size, 0, none⟩ 1 1 [intV pv] rfl rfl (cell_one_new _ _ _) (by intro u hu; simp [intV] at hu; rw [hu]; rfl) (by omega) (by have := Hpsl.out; unfold maxLen; omega) (by have := Hpsl.out; omega) (Nat.zero_le _) (w9.heap.size + 1) (by simp) ?_; intro gq cq w10 hown10 hgrow10 hat10 hlt10; have HIn10 := hQ (HIn9.out.pub law (x := pv) ((Below.refl _ _).alloc (Nat.le_refl _) _) hown10 hgrow10 (hat10.imp id (fun e => by rw [e]; simp))); clear hown10 hgrow10 hat10 hlt10; have hkt : k < Ts.length := (by rw [HTsl.out]; exact hkm); have hktI : (k : Int) < Ts.length := (by omega); have ct := (HTs.out w10 HIn10.out.tur).1)
    have hst0 : RvRel r N F1 a T fa fresh x sec st2 l (.slice ka9 rk2.length kc9) (.slice (some ⟨gq, 0, none⟩) (pt.length + 1) cq) w6 (.slice sa sl.length sc) (.int .i64 0) w10 :=
     ⟨0, F2, Nat.zero_le _, rfl, by
      show MkIn _ _ _ _ _ _ _ _ (rsD st2.ks) st2.ps.tail st2.ss st2.L _ _ _ _ _
      have h10 := HIn10.out
      rw [Hps1.out, Hrk2.out] at h10
      rw [Hnd1.out, Hrk2.out]
      exact h10⟩
    have Hst2 := hQ hst0
    clear hst0 HIn9
    go_loopw [27, 32] (fun vs i wr => RvRel r N F1 a T fa fresh x sec st2 l (.slice ka9 rk2.length kc9) (.slice (some ⟨gq, 0, none⟩) (pt.length + 1) cq) w6 vs i wr) (fun _ i _ => l.length - (intOf i).toNat)
    case atStart => exact Hst2.out
    case round =>
     obtain ⟨j, F3, hj, rfl, hin⟩ := hrel
     obtain ⟨sb, sd, rfl⟩ := hin.slen
     have Hin := hQ hin
     have ct := (HTs.out wr hin.tur).1
     by_cases hjl : j < l.length
     · obtain ⟨ub, uo, rfl, cu⟩ := (HTs.out wr hin.tur).2 j hjl
       dsimp only at cu
       obtain ⟨lb2, lo2, e5, cl⟩ := Hl2.out wr hin.tur
       obtain ⟨rfl, rfl⟩ : lb = lb2 ∧ lo = lo2 := by simpa using e5
       try dsimp only at cl
       rw [Hls.out (k + 1), ← Hfk.out] at cl
       simp only at cl
       obtain ⟨xb2, xo2, e7, cx⟩ := Hx2.out wr hin.tur
       obtain ⟨rfl, rfl⟩ : xb = xb2 ∧ xo = xo2 := by simpa using e7
       try dsimp only at cx
       rw [← Hfk.out] at cx
       simp only at cx
       have kb := (cRw (Hbx.out wr hin.tur) 0).trans rfl
       have hmem := get_list (l := l) (i := j) 0 hjl
       have hyt := Hlty.out _ hmem
       have hyp := Hptr.out _ hmem
       obtain ⟨ob, oo, e6, hnd⟩ := hin.mw.tr.at' _ hyt
       have c0 := hnd.c0
       obtain ⟨hok2, hkl2, hsl2, hL37⟩ := Hmidk.out j
       have hsec2 := there_mono Hsec.out hok2.grow
       have hpub2 := there_mono hyp hok2.grow
       have hsok : (sealT (pubD T (l.getD j 0)) sec).ok := seal_ok (there_i64 hpub2 (by omega)) (there_i64 hsec2 (by omega))
       have hmk := fun (W : World) (h : RefStore W r F3 (sealsGo T x sec st2 (l.take j)).L) => rseal_any r F3 _ (pubD T (l.getD j 0)) sec hsok hok2.good (by omega) W h
       have hstep := sealsGo_take (T := T) (x := x) (sec := sec) (st := st2) hjl
       have hssl : (sealsGo T x sec st2 (l.take j)).ss.length ≤ 1000 := by omega
       have hsn : sealsGo T x sec st2 (l.take (j + 1)) = ⟨(sealsGo T x sec st2 (l.take j)).ks, (sealsGo T x sec st2 (l.take j)).ps, (sealsGo T x sec st2 (l.take j)).ss ++ [(x, l.getD j 0, makeN (sealsGo T x sec st2 (l.take j)).L (sealT (pubD T (l.getD j 0)) sec))], makeL (sealsGo T x sec st2 (l.take j)).L (sealT (pubD T (l.getD j 0)) sec)⟩ := by rw [hstep]; rfl
       have hpy : (nodeD T (l.getD j 0)).pub = pubD T (l.getD j 0) := rfl
       rw [hpy] at c0
       obtain ⟨p, hp⟩ : ∃ p, p = pubD T (l.getD j 0) := ⟨_, rfl⟩
       rw [← hp] at c0 hmk hsn hpub2 hyp hsok
       clear hstep hpy
       obtain ⟨y, hy⟩ : ∃ y, y = l.getD j 0 := ⟨_, rfl⟩
       rw [← hy] at cu c0 hyt hsn
       have hyq := hy
       have hyp2 : p = (nodeD T y).pub := by rw [hp, hy]; rfl
       clear hp
       obtain ⟨stj, hstj⟩ : ∃ stj, stj = sealsGo T x sec st2 (l.take j) := ⟨_, rfl⟩
       rw [← hstj] at Hin hmk hsn hssl ⊢
       generalize makeL stj.L (sealT p sec) = L3 at hmk hsn
       generalize makeN stj.L (sealT p sec) = nv at hmk hsn
       have Hmk := hQ hmk
       have Hsn := hQ hsn
       have Hssl := hQ hssl
       have hjI : (j : Int) < l.length := by omega
       have hyI : (y : Int) < T.length := by omega
       subst e6
       clear hmk hsn hssl hok2 hkl2 hsl2 hL37 hsec2 hpub2 hsok hy hstj hmem hyp hin e5 e7 hnd
       have htrS := HtrS.out
       have hrd : ∀ W, Turned F1 w6 W → W.cell? ⟨xb, xo + k, none⟩ = some (.int .i64 x) ∧ W.cell? ⟨tg, k, none⟩ = some (.slice (some ⟨ub, uo, none⟩) l.length uc) ∧ W.cell? ⟨ub, uo + j, none⟩ = some (.int .i64 y) ∧ W.cell? ⟨q, 0, none⟩ = some (.slice (some ⟨ob, oo, none⟩) T.length c) ∧ W.cell? ⟨ob, oo + y * 4, none⟩ = some (.int .i64 p) ∧ W.cell? ⟨lb, lo + (k + 1), none⟩ = some (.int .i64 sec) := fun W hW => by
        have h1 := HTs.out W hW
        obtain ⟨b9, o9, e9, c9⟩ := h1.2 j hjl
        obtain ⟨rfl, rfl⟩ : ub = b9 ∧ uo = o9 := by simpa using e9
        obtain ⟨b8, o8, e8, c8⟩ := Hx2.out W hW
        obtain ⟨rfl, rfl⟩ : xb = b8 ∧ xo = o8 := by simpa using e8
        obtain ⟨b7, o7, e77, c7⟩ := Hl2.out W hW
        obtain ⟨rfl, rfl⟩ : lb = b7 ∧ lo = o7 := by simpa using e77
        obtain ⟨b6, o6, e66, n6⟩ := htrS W hW y hyt
        obtain ⟨rfl, rfl⟩ : ob = b6 ∧ oo = o6 := by simpa using e66
        try dsimp only at c8 c9
        try dsimp only at c7
        rw [← Hfk.out] at c8
        simp only at c8
        rw [Hls.out (k + 1), ← Hfk.out] at c7
        simp only at c7
        exact ⟨c8, h1.1, by rw [hyq]; exact c9, (cRw (Hbx.out W hW) 0).trans rfl, n6.c0.trans (by rw [hyp2]), c7⟩
       have Hrd := hQ hrd
       clear hrd hyq htrS hyp2
       (try clear Hst2)
       (try clear Hgo)
       (try clear Hgo1)
       (try clear Hmid)
       (try clear Hmidk)
       (try clear Hrows)
       (try clear Hplm)
       (try clear Htlm)
       (try clear Htm)
       (try clear HTsl)
       (try clear HgoS)
       (try clear Hnd1)
       (try clear Hsec)
       (try clear Hptr)
       (try clear Hlty)
       (try clear Hkl)
       (try clear Hpsl)
       (try clear Hsl)
       (try clear Hrk1)
       (try clear Hrk2)
       (try clear Hris)
       (try clear Hps1)
       (try clear Hfk)
       (try clear Hf0)
       (try clear HFl)
       (try clear HL1)
       (try clear HIn10)
       (try clear Hlo)
       (try clear Hx2)
       (try clear Hl2)
       (try clear HTs)
       (try clear Hns)
       (try clear Hls)
       (try clear Hts)
       (try clear Hst0)
       (try clear Hbx)
       (try clear hi0)
       (try clear hz0)
       (try clear hz1)
       (try clear hz2)
       (try clear hlfI)
       (try clear hep0)
       (try clear hlen)
       (try clear hfl)
       (try clear Hq)
       (try clear Hqs4)
       (try clear H2l)
       (try clear hl)
       (try clear hl0)
       (try clear hyt)
       (try clear hkll)
       (try clear hkllI)
       (try clear hj)
       (try clear hl0I)
       (try clear hfrk)
       go_upto_block 3 with fail
       go_cut [27] (fun v27 wx => ∃ (F4 : Nat → Prop), MkIn (RSt r) N F1 F4 (some ⟨ob, oo, none⟩) T fa fresh (rsD st2.ks) st2.ps.tail (stj.ss ++ [(x, y, nv)]) L3 (.slice ka9 rk2.length kc9) (.slice (some ⟨gq, 0, none⟩) (pt.length + 1) cq) v27 w6 wx)
       case first =>
        have hk0' : (0 : Int) ≤ (k : Int) := Int.natCast_nonneg _
        have hk3' : (k : Int) ≤ 3 := by omega
        have hkA : (k : Int) < pl.length := by omega
        have hkB : (k : Int) + 1 < ll.length := by omega
        have hkB0 : (0 : Int) ≤ (k : Int) + 1 := by omega
        have hkC : k + 1 < ll.length := by omega
        have hkD : (k : Int) + 1 ≤ 4 := by omega
        have hkW : IntKind.i64.wrap ((k : Int) + 1) = (k : Int) + 1 := IntWalk.i64_in _ (by omega)
        have hkE : (ll.length : Int) ≤ 5 := by have := Hllen.out; omega
        clear Hllen
        have hj0' : (0 : Int) ≤ (j : Int) := Int.natCast_nonneg _
        have hy0' : (0 : Int) ≤ (y : Int) := Int.natCast_nonneg _
        have hS0 := Hrd.out wr Hin.out.tur
        have HS0 := hQ hS0
        clear hS0 c0 cu cl cx kb ct
        go_wp2_with fail
        go_region_held3 (fun w' => w'.cell? ⟨xb, xo + k, none⟩ = some (.int .i64 x) ∧ w'.cell? ⟨tg, k, none⟩ = some (.slice (some ⟨ub, uo, none⟩) l.length uc) ∧ w'.cell? ⟨ub, uo + j, none⟩ = some (.int .i64 y) ∧ w'.cell? ⟨q, 0, none⟩ = some (.slice (some ⟨ob, oo, none⟩) T.length c) ∧ w'.cell? ⟨ob, oo + y * 4, none⟩ = some (.int .i64 p) ∧ w'.cell? ⟨lb, lo + (k + 1), none⟩ = some (.int .i64 sec))
         (first
          | exact HS0.out
          | exact Hrd.out _ HIn14.out.tur
          | exact Hrd.out _ (HIn14.out.tur.alloc _)
          | exact Hrd.out _ HIn15.out.tur)
         (first
          | (go_at_call 62; refine (Hmk.out _ (by exact Hin.out.mw.st)).mono ?_; rintro e w14 ⟨rfl, F4, hx, hs, hTu⟩; have hx' : Ext F3 F4 wr w14 := hx; have hT' : Turned F3 wr w14 := ⟨hTu.os, hTu.tape, hTu.output, hTu.size, hTu.block⟩; have HIn14 := hQ (Hin.out.store hx' hs hT'); clear hx hs hTu hx' hT')
          | (refine step_append_lies _ rfl (.tmp 134) (.tmp 166) 55 rfl 0 143 iS (.agg #[.int .i64 0, .int .i64 0, .int .i64 0]) 3 24 Tryz.underlying55 hiS hs0 hs1 hs2 rfl (by decide) (.slice sb stj.ss.length sd) stj.ss.length (stj.ss.flatMap slV) (by simp [Act.eval, Act.put]) (World.ownsRow.alloc HIn14.out.sown _) ⟨w14.heap.size, 0, none⟩ 1 1 (slV (x, y, nv)) (by simp [Act.eval, Act.put]) rfl (seal_cells w14 (x, y, nv) 143) (seal_one (x, y, nv)) (by omega) (by have := Hssl.out; unfold maxLen; omega) (by have := Hssl.out; omega) (Nat.zero_le _) (w14.heap.size + 1) (by simp) ?_; intro gs cs w15 hown15 hgrow15 hat15 hlt15; have HIn15 := hQ (HIn14.out.sl law (s := (x, y, nv)) ((Below.refl _ _).alloc (Nat.le_refl _) _) hown15 hgrow15 (hat15.imp id (fun e => by rw [e]; simp))); clear hown15 hgrow15 hat15 hlt15))
        all_goals
         go_wp2_with fail
         go_meet
         exact ⟨F4, HIn15.out⟩
       case rest =>
        obtain ⟨F4, hin4⟩ := hcut
        have Hin4 := hQ hin4
        clear hin4 c0 cu cl cx kb ct Hmk Hin
        go_wp2
        exact ⟨⟨j + 1, F4, by omega, by go_num, by rw [Hsn.out]; exact Hin4.out⟩, by simp [intOf]; omega⟩
     · obtain rfl : j = l.length := by omega
       have hjI : ¬ (l.length : Int) < l.length := by omega
       rw [List.take_length] at Hin ⊢
       clear hin
       go_wp2
       exact ⟨⟨k + 1, F3, by omega, by go_num, by rw [HgoS.out, (sealsGo_kp T x sec l st2).1, (sealsGo_kp T x sec l st2).2]; exact Hin.out⟩, by simp [intOf]; omega⟩
  · obtain rfl : k = m := by omega
    have hkI : ¬ (k : Int) < k := by omega
    obtain ⟨hokE, hklE, hslE⟩ := Hgo.out (k + 1) (Nat.le_refl _)
    obtain ⟨pr, hpr⟩ := Hhd.out
    have hpsE : (mkGo T f L1 (k + 1)).ps.length = k + 1 := by rw [hokE.lenp, hklE]
    have hpubsE := hokE.pubs
    obtain ⟨st, hst⟩ : ∃ st, st = mkGo T f L1 (k + 1) := ⟨_, rfl⟩
    have HPE := HP.out
    rw [← hst] at Hin hpr hpsE hpubsE HPE ⊢
    rw [hpr] at Hin hpsE hpubsE HPE ⊢
    rw [show (pv0 :: pr).tail = pr from rfl] at Hin ⊢
    simp only [List.length_cons] at hpsE
    rw [show (pv0 :: pr).tail = pr from rfl, show (pv0 :: pr).getD 0 0 = pv0 from rfl] at HPE
    have hprl : pr.length = pl.length := by rw [Hplm.out]; omega
    have hpv1 : 1 ≤ pv0 := (hpubsE pv0 (by simp)).1
    have hpr1 : ∀ i, i < pr.length → 1 ≤ pr.getD i 0 := fun i hi => (hpubsE _ (List.mem_cons_of_mem _ (get_list 0 hi))).1
    obtain ⟨lb2, lo2, e2, cl⟩ := Hlo.out.2.1 wr Hin.out.tur (k + 1) (by omega)
    obtain ⟨rfl, rfl⟩ : lb = lb2 ∧ lo = lo2 := by simpa using e2
    dsimp only at cl
    generalize ll.getD (k + 1) 0 = cm at cl HPE
    have kb := (cRw (Hbx.out wr Hin.out.tur) 0).trans rfl
    have hset1 := Hset.out wr pa pc pv0 pr Hin.out.mw.tr.at' Hin.out.mw.size hpv1 hprl hpr1 (ownI_nums Hin.out.pown).2
    have Hset1 := hQ hset1
    have Hst := hQ hst
    have HPE2 := hQ HPE
    have hll2 : k + 1 < ll.length := by rw [Hllen.out]; omega
    have hplE := Hplm.out
    have hplE2 : (pl.length : Int) = k := by omega
    have HplE2 := hQ hplE2
    have hll2I : (k : Int) + 1 < ll.length := by omega
    have hql1 := HQ.out.2.2.2
    clear hokE hklE hslE hpsE hpubsE hpr hprl hpv1 hpr1 hset1 hst HPE hin e2 hplE hplE2 Hset
    go_wp2_with fail
    refine Hset1.out.mono ?_
    rintro e w9 ⟨g, cap, U, rfl, hTO, hb9⟩
    obtain ⟨wA, hwA⟩ : ∃ wA, wA = w9.alloc (.cells #[.slice (some ⟨g, 0, none⟩) T.length cap] 44) := ⟨_, rfl⟩
    have hbA : Below w9.heap.size w9 wA := by rw [hwA]; exact (Below.refl _ _).alloc (Nat.le_refl _) _
    have hinA := (Hin.out.new law hb9).new law hbA
    have hme := fun v => made_end law (q := q) Hq.out (by rw [Hq.out]; exact HNq.out) HQ.out.1 HQ.out.2.1 HQ.out.2.2.1 HQ.out.2.2.2 hinA (hTO.new hbA) Hin.out.tur.size (fun k hk => law.lt Hin.out.mw.st k hk)
     (fun x hx => ⟨fun e => by have := (Hin.out.kown.lt x hx).2; have := hTO.far; omega, fun i hi e => by have := (Hin.out.kown.lt x hx).2; have := ((hTO.um i hi).2 x e).1; omega⟩)
     (fun x hx => ⟨fun e => by have := (Hin.out.sown.lt x hx).2; have := hTO.far; omega, fun i hi e => by have := (Hin.out.sown.lt x hx).2; have := ((hTO.um i hi).2 x e).1; omega⟩) v
    have hrr := Hbr.out wA hinA.tur
    have kn : wA.cell? ⟨w9.heap.size, 0, none⟩ = some (.slice (some ⟨g, 0, none⟩) T.length cap) := by rw [hwA, cRw (rAl _ _ _)]; rfl
    have cl9 := (hb9.cell (p := ⟨lb, lo + (k + 1), none⟩) (World.block_lt_of_cell? wr _ cl)).trans cl
    have clA := (hbA.cell (p := ⟨lb, lo + (k + 1), none⟩) (World.block_lt_of_cell? w9 _ cl9)).trans cl9
    have hlt1 := hinA.tur.size
    have hlt2 := hb9.size
    have hlt3 := Hin.out.tur.size
    have hne1 : w9.heap.size ≠ q + 1 := by omega
    have hne2 : lb ≠ q + 1 := fun e => by
     have h1 := clA
     rw [e, cRw hrr] at h1
     simp at h1
    have kr := (cRw hrr 0).trans rfl
    have fr := fRw hrr 0
    have hplN : k = pl.length := by have := HplE2.out; omega
    have hplN2 := hplN
    have hk3 : (k : Int) ≤ 3 := by omega
    have hkA2 : k + 1 < ll.length := by omega
    have hkB2 : (k : Int) + 1 < ll.length := by omega
    have hkB02 : (0 : Int) ≤ (k : Int) + 1 := by omega
    have hkW2 : IntKind.i64.wrap ((k : Int) + 1) = (k : Int) + 1 := IntWalk.i64_in _ (by omega)
    have Hme := hQ hme
    have Hrr := hQ hrr
    have hTs : Turned (fun k => k = q + 1) wA (wA.setCell ⟨q + 1, 0, none⟩ (.slice (some ⟨g, 0, none⟩) T.length cap)) := Turned.setCell (F := fun k => k = q + 1) (Turned.refl _ _) (p := ⟨q + 1, 0, none⟩) (fun _ => rfl) _
    have Hks := hQ (And.intro ((hTs.cell (p := ⟨w9.heap.size, 0, none⟩) (World.block_lt_of_cell? wA _ kn) hne1).trans kn) ((hTs.cell (p := ⟨lb, lo + (k + 1), none⟩) (World.block_lt_of_cell? wA _ clA) hne2).trans clA))
    have hwA2 := hwA
    clear hTs hinA hTO hb9 hme hrr cl kb Hset1 Hin hplN cl9 hlt1 hlt2 hlt3 hbA hwA HplE2
    go_wp2_with fail
    rw [← hwA2, ← hplN2]
    clear hwA2 hplN2
    go_region_held3 (fun w' => w'.cell? ⟨w9.heap.size, 0, none⟩ = some (.slice (some ⟨g, 0, none⟩) T.length cap) ∧ w'.cell? ⟨lb, lo + (k + 1), none⟩ = some (.int .i64 cm))
     (first
      | exact ⟨kn, clA⟩
      | exact ⟨Hks.out.1, Hks.out.2⟩)
     (fail)
    all_goals
     go_wp2_with fail
     refine bodyPost_ret_by (rfive_results _ _ (q + 1) (.slice (some ⟨g, 0, none⟩) T.length cap) rfl (by exact rSc Hrr.out 0 _)) rfl ?_
     obtain ⟨m1, m2, m3, m4, m5, m6, m7, m8, m9⟩ := Hme.out (.slice (some ⟨g, 0, none⟩) T.length cap)
     rw [HPE2.out]
     exact ⟨g, cap, U, ka, kc, sa, sc, F', rfl, m1.new ⟨rfl, rfl, rfl, Nat.le_refl _, fun _ _ => rfl⟩, by exact m2, by exact m3, m4.drew law, by exact m5, m6.drew, m7, m8, m9⟩
end Go.Proofs.YtedpljclnpiggaaGreatDoor
