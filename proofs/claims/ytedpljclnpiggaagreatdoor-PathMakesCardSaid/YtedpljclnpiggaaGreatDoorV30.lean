/- At the end of the program's Make: its keys rise, and its tree is stored once more. -/
import Derived.Test.YtedpljclnpiggaaGreatDoorV22
import Derived.Test.YtedpljclnpiggaaGreatDoorV26
import Derived.Test.YtedpljclnpiggaaGreatDoorV29
set_option linter.unusedVariables false
set_option linter.unusedSimpArgs false
set_option maxRecDepth 100000
set_option maxHeartbeats 12800000
namespace Go.Proofs.YtedpljclnpiggaaGreatDoor
section
open Go Go.RowKit
def XsAt (h : Nat → Int) (n : Nat) (ra : Option Addr) (W : World) : Prop := ∀ i, i < n → ∃ b o, ra = some ⟨b, o, none⟩ ∧ W.cell? ⟨b, o + i, none⟩ = some (.int .i64 (h i))
def XsS (F : Nat → Prop) (w : World) (h : Nat → Int) (n : Nat) (ra : Option Addr) : Prop := ∀ W, Turned F w W → XsAt h n ra W
theorem xs_own {F : Nat → Prop} {w : World} {a : Option Addr} {k c n : Nat} {l : List Int} {h : Nat → Int} (ho : OwnI (.slice a k c) l w) (hf : ∀ g, (Value.slice a k c).ownBlock = some g → ¬ F g) (hn : n ≤ l.length) (hh : ∀ i, i < n → l.getD i 0 = h i) : XsS F w h n a := fun W hW i hi => by
 obtain ⟨b, o, e, hc⟩ := ownI_at (oIk ho hW hf) i (by omega)
 exact ⟨b, o, e, by rw [hc, hh i hi]⟩
def TsS (F : Nat → Prop) (w : World) (f : Nat → MkRow) (m : Nat) (ta : Option Addr) : Prop :=
 ∀ i, i < m → ∃ g ua uc, ta = some ⟨g, 0, none⟩ ∧ ∀ W, Turned F w W → W.cell? ⟨g, i, none⟩ = some (.slice ua (f (i + 1)).2.1.length uc) ∧ XsAt (fun j => ((f (i + 1)).2.1.getD j 0 : Nat)) (f (i + 1)).2.1.length ua W
theorem ts_own {N0 : Nat} {F : Nat → Prop} {w : World} {a : Option Addr} {k c m : Nat} {Ts : List TgV} {f : Nat → MkRow} (h : TgIn N0 w (.slice a k c) Ts) (hf : ∀ g, (Value.slice a k c).ownBlock = some g → ¬ F g) (hf2 : ∀ t ∈ Ts, ∀ g, t.val.ownBlock = some g → ¬ F g) (hm : m ≤ Ts.length) (hh : ∀ i, i < m → (Ts.map (·.other)).getD i [] = (f (i + 1)).2.1) : TsS F w f m a := fun i hi => by
 have hi' : i < Ts.length := by omega
 rcases h.own.2 with ⟨_, h2⟩ | ⟨g, cap, cur, e, hB, hg, h4, h5, hs, ht⟩
 · omega
 · obtain ⟨rfl, rfl, rfl⟩ : a = some ⟨g, 0, none⟩ ∧ k = Ts.length ∧ c = cap := by simpa using e
   have hv := h.each _ (List.getElem_mem hi')
   have ho : Ts[i].other = (f (i + 1)).2.1 := by
    rw [← hh i hi, List.getD_eq_getElem?_getD, List.getElem?_map, List.getElem?_eq_getElem hi']
    rfl
   have hcell : cur[i]? = some Ts[i].val := by
    have e1 := congrArg (fun z => z[i]?) ht
    simp only [List.getElem?_take] at e1
    rw [if_pos (by omega), Array.getElem?_toList, List.getElem?_map, List.getElem?_eq_getElem hi'] at e1
    exact e1
   have hv1 := hv.1
   rw [ho] at hv1
   obtain ⟨ua, uc, eu, _⟩ := ownI_len hv1
   rw [nIl] at eu
   refine ⟨g, ua, uc, rfl, fun W hW => ⟨?_, fun j hj => ?_⟩⟩
   · have hr := (hW.block g (Array.getElem?_eq_some_iff.1 hg).1 (hf g rfl)).trans hg
     rw [cRw hr, hcell, eu]
   · have hown := oIk hv1 hW (fun b hb => hf2 _ (List.getElem_mem hi') b hb)
     rw [eu] at hown
     obtain ⟨b, o, e2, hc⟩ := ownI_at hown j (by rw [nIl]; exact hj)
     exact ⟨b, o, e2, by rw [hc, natI_get]⟩
structure MkB (St : World → (Nat → Prop) → List TermD → Prop) (N : Nat) (F F' : Nat → Prop) (L : List TermD) (a : Option Addr) (c : Nat) (T : List NodeD) (fa : Option Addr) (fresh : List Int) (q : Nat) (w0 w : World) : Prop where
 mw : MkW St N F' L a T fa fresh w
 bx : Stays F' w q (boxT (.slice a T.length c))
 rs : Stays F' w (q + 1) (boxT (.slice none 0 0))
 ext : Ext F F' w0 w
 tur : Turned F w0 w
section
variable {St : World → (Nat → Prop) → List TermD → Prop} {N q : Nat} {F F' F'' : Nat → Prop} {L L' : List TermD} {a fa : Option Addr} {c : Nat} {T : List NodeD} {fresh : List Int} {w0 w w' : World}
theorem MkB.new (law : StoreLaw St) (h : MkB St N F F' L a c T fa fresh q w0 w) (hb : Below w.heap.size w w') : MkB St N F F' L a c T fa fresh q w0 w' :=
 ⟨h.mw.new law hb, h.bx.new hb, h.rs.new hb, fun k hk => (h.ext k hk).imp id (fun h2 => ⟨h2.1, Nat.lt_of_lt_of_le h2.2 hb.size⟩), h.tur.trans (Turned.new F' hb) (fun k hk hf => (h.ext k hf).elim id (fun h2 => by omega))⟩
theorem MkB.step (h : MkB St N F F' L a c T fa fresh q w0 w) (hx : Ext F' F'' w w') (hs : St w' F'' L') (hT : Turned F' w w') : MkB St N F F'' L' a c T fa fresh q w0 w' :=
 ⟨h.mw.step hx hs hT, h.bx.step hx hT, h.rs.step hx hT, h.ext.trans hx h.tur.size hT.size, h.tur.trans hT (fun k hk hf => (h.ext k hf).elim id (fun h2 => by omega))⟩
end
theorem sealsGo_kp (T : List NodeD) (x : Nat) (sec : Int) : ∀ (l : List Nat) (st : MkS), (sealsGo T x sec st l).ks = st.ks ∧ (sealsGo T x sec st l).ps = st.ps
 | [], _ => ⟨rfl, rfl⟩
 | y :: l, st => sealsGo_kp T x sec l (sealStep T x sec st y)
theorem mkGo_head (T : List NodeD) (f : Nat → MkRow) (L1 : List TermD) : ∀ k, ∃ r, (mkGo T f L1 (k + 1)).ps = nodeP L1 (f 0).2.2 :: r
 | 0 => ⟨[], by
  show (sealsGo T _ _ _ _).ps = _
  rw [(sealsGo_kp T _ _ _ _).2]
  rfl⟩
 | k + 1 => by
  obtain ⟨r, h⟩ := mkGo_head T f L1 k
  refine ⟨r ++ [nodeP (mkGo T f L1 (k + 1)).L (f (k + 1)).2.2], ?_⟩
  show (sealsGo T _ _ _ _).ps = _
  rw [(sealsGo_kp T _ _ _ _).2]
  show (mkGo T f L1 (k + 1)).ps ++ _ = _
  rw [h]
  rfl
def MadeP (St : World → (Nat → Prop) → List TermD → Prop) (N : Nat) (F : Nat → Prop) (L : List TermD) (a : Option Addr) (T : List NodeD) (fa : Option Addr) (fresh : List Int) (leaf ep seed : Int) (w : World) (e : Ending) (w' : World) : Prop :=
 ∃ g cap U ka kc sa sc F', e = .returned (.tuple #[.agg #[.slice (some ⟨g, 0, none⟩) T.length cap], .slice ka (rsD (mkEnd T L leaf seed fresh).ks).length kc, .slice sa (mkEnd T L leaf seed fresh).ss.length sc, .int .i64 ((mkL T L leaf seed).getD (mkM T leaf + 1) 0), .int .i64 0]) ∧
  TreeO w.heap.size w' g T.length cap (setF T leaf.toNat ep ((mkEnd T L leaf seed fresh).ps.getD 0 0) (mkEnd T L leaf seed fresh).ps.tail) U ∧
  OwnK (.slice ka (rsD (mkEnd T L leaf seed fresh).ks).length kc) (rsD (mkEnd T L leaf seed fresh).ks) w' ∧
  OwnS (.slice sa (mkEnd T L leaf seed fresh).ss.length sc) (mkEnd T L leaf seed fresh).ss w' ∧
  MkW St N F' (mkEnd T L leaf seed fresh).L a T fa fresh w' ∧ Ext F F' w w' ∧ Turned F w w' ∧
  (∀ x, (x = g ∨ (Value.slice ka (rsD (mkEnd T L leaf seed fresh).ks).length kc).ownBlock = some x ∨ (Value.slice sa (mkEnd T L leaf seed fresh).ss.length sc).ownBlock = some x ∨ ∃ i, i < T.length ∧ (U i).ownBlock = some x) → w.heap.size ≤ x ∧ ¬ F' x) ∧
  (∀ x, (Value.slice ka (rsD (mkEnd T L leaf seed fresh).ks).length kc).ownBlock = some x → (Value.slice sa (mkEnd T L leaf seed fresh).ss.length sc).ownBlock ≠ some x ∧ x ≠ g ∧ ∀ i, i < T.length → (U i).ownBlock ≠ some x) ∧
  (∀ x, (Value.slice sa (mkEnd T L leaf seed fresh).ss.length sc).ownBlock = some x → x ≠ g ∧ ∀ i, i < T.length → (U i).ownBlock ≠ some x)
theorem made_end {St : World → (Nat → Prop) → List TermD → Prop} (law : StoreLaw St) {N q : Nat} {F F1 F' : Nat → Prop} {L : List TermD} {a fa : Option Addr} {T : List NodeD} {fresh : List Int} {kl : List KeyP} {ps : List Int} {ss : List SealP} {vk vp vs : Value} {w w6 w9 : World} {M g n cap : Nat} {nd : Nat → NodeD} {U : Nat → Value}
    (hq : q = w.heap.size) (hqN : N ≤ q) (hx0 : Ext F F1 w w6) (hT0 : Turned F w w6) (hrs : ¬ F1 (q + 1)) (hrl : q + 1 < w6.heap.size) (hin : MkIn St N F1 F' a T fa fresh kl ps ss L vk vp vs w6 w9) (hTO : TreeO M w9 g n cap nd U) (hM : w6.heap.size ≤ M) (hMF : ∀ k, F' k → k < M)
    (hkg : ∀ x, vk.ownBlock = some x → x ≠ g ∧ ∀ i, i < n → (U i).ownBlock ≠ some x) (hsg : ∀ x, vs.ownBlock = some x → x ≠ g ∧ ∀ i, i < n → (U i).ownBlock ≠ some x) (v : Value) :
    TreeO w.heap.size (w9.setCell ⟨q + 1, 0, none⟩ v) g n cap nd U ∧ OwnK vk kl (w9.setCell ⟨q + 1, 0, none⟩ v) ∧ OwnS vs ss (w9.setCell ⟨q + 1, 0, none⟩ v) ∧ MkW St N F' L a T fa fresh (w9.setCell ⟨q + 1, 0, none⟩ v) ∧ Ext F F' w (w9.setCell ⟨q + 1, 0, none⟩ v) ∧ Turned F w (w9.setCell ⟨q + 1, 0, none⟩ v) ∧
    (∀ x, (x = g ∨ vk.ownBlock = some x ∨ vs.ownBlock = some x ∨ ∃ i, i < n ∧ (U i).ownBlock = some x) → w.heap.size ≤ x ∧ ¬ F' x) ∧
    (∀ x, vk.ownBlock = some x → vs.ownBlock ≠ some x ∧ x ≠ g ∧ ∀ i, i < n → (U i).ownBlock ≠ some x) ∧ (∀ x, vs.ownBlock = some x → x ≠ g ∧ ∀ i, i < n → (U i).ownBlock ≠ some x) := by
 have hT2 : Turned (fun k => k = q + 1) w9 (w9.setCell ⟨q + 1, 0, none⟩ v) := Turned.setCell (F := fun k => k = q + 1) (Turned.refl _ _) (p := ⟨q + 1, 0, none⟩) (fun _ => rfl) v
 have h6 := hT0.size
 have h9 := hin.tur.size
 have hfar := hTO.far
 have hq1 : ∀ k, F' k → k ≠ q + 1 := fun k hk e => (hin.ext k hk).elim (fun h => hrs (e ▸ h)) (fun h => by omega)
 refine ⟨(hTO.kept hT2 (by omega) (fun i hi b hb e => by have := ((hTO.um i hi).2 b hb).1; omega)).base (by omega), oKp hin.kown hT2 (fun x hx e => by have := (hin.kout x hx).1; omega), oKp hin.sown hT2 (fun x hx e => by have := (hin.sout x hx).1; omega),
  hin.mw.turn law hT2 (fun k hk e => hq1 k hk e) (fun k e => by omega), fun k hk => ?_, ?_, fun x hx => ?_, fun x hx => ⟨hin.ks x hx, hkg x hx⟩, hsg⟩
 · rcases hin.ext k hk with h | h
   · rcases hx0 k h with h2 | h2
     · exact .inl h2
     · exact .inr ⟨h2.1, by have := hT2.size; omega⟩
   · exact .inr ⟨by omega, by have := hT2.size; omega⟩
 · refine (hT0.trans hin.tur (fun k hk h => (hx0 k h).elim id (fun h2 => by omega))).trans hT2 (fun k hk e => by omega)
 · rcases hx with rfl | hx | hx | ⟨i, hi, hx⟩
   · exact ⟨by omega, fun hf => by have := hMF _ hf; omega⟩
   · exact ⟨by have := (hin.kout x hx).1; omega, (hin.kout x hx).2⟩
   · exact ⟨by have := (hin.sout x hx).1; omega, (hin.sout x hx).2⟩
   · have := ((hTO.um i hi).2 x hx).1
     exact ⟨by omega, fun hf => by have := hMF _ hf; omega⟩
/-! The rows of a path, by their numbers. -/
theorem mk_xs {T : List NodeD} {L : List TermD} {leaf seed : Int} {fresh : List Int} (h0 : 0 ≤ leaf) : ∀ i, i < mkM T leaf + 1 → ((2 * leaf) :: natI (pthD T leaf.toNat)).getD i 0 = ((mkRows T L leaf seed fresh i).1 : Nat)
 | 0, _ => by show 2 * leaf = ((2 * leaf.toNat : Nat) : Int); omega
 | i + 1, hi => by
  show (natI (pthD T leaf.toNat)).getD i 0 = (((pthD T leaf.toNat).getD i 0 : Nat) : Int)
  exact natI_get _ _
theorem mk_ns {T : List NodeD} {L : List TermD} {leaf seed : Int} {fresh : List Int} : ∀ i, i < mkM T leaf → (natI (pthD T leaf.toNat)).getD i 0 = ((mkRows T L leaf seed fresh (i + 1)).1 : Nat) := fun i hi => natI_get _ _
theorem mk_ls {T : List NodeD} {L : List TermD} {leaf seed : Int} {fresh : List Int} : ∀ i, (mkL T L leaf seed).getD i 0 = (mkRows T L leaf seed fresh i).2.2
 | 0 => rfl
 | _ + 1 => rfl
theorem mk_ts {T : List NodeD} {L : List TermD} {leaf seed : Int} {fresh : List Int} : ∀ i, (tgtD T leaf.toNat fresh).getD i [] = (mkRows T L leaf seed fresh (i + 1)).2.1 := fun _ => rfl
end
section
open Go Go.RowKit
theorem keysC {w : World} {a : Option Addr} {n c : Nat} {l : List KeyP} (h : w.ownsRow 0 123 2 (.slice a n c) l.length (l.flatMap keyV)) : KeysAt w a l := by
 rcases h.2 with ⟨e, h2⟩ | ⟨g, cap, cur, e, _⟩
 · intro i hi; omega
 · obtain ⟨rfl, rfl, rfl⟩ : a = some ⟨g, 0, none⟩ ∧ n = l.length ∧ c = cap := by simpa using e
   exact keys_at (F := fun _ => False) ⟨h, fun _ _ h => h⟩ rfl
theorem ownK_lenC {v : Value} {l : List KeyP} {w : World} (h : OwnK v l w) : ∃ a c, v = .slice a l.length c := by
 rcases h.2 with ⟨e, h2⟩ | ⟨g, cap, cur, e, _⟩
 · exact ⟨none, 0, by rw [e, h2]⟩
 · exact ⟨_, _, e⟩
theorem mkGo_nodes {T : List NodeD} {f : Nat → MkRow} {L1 : List TermD} : ∀ (n : Nat), ∀ k ∈ (mkGo T f L1 n).ks, ∃ i, i < n ∧ k.1 = ((f i).1 : Nat)
 | 0, k, hk => by cases hk
 | n + 1, k, hk => by
  have e : (mkGo T f L1 (n + 1)).ks = (mkGo T f L1 n).ks ++ [((((f n).1 : Nat) : Int), nodeK (mkGo T f L1 n).L (f n).2.2)] := by
   show (sealsGo T _ _ _ _).ks = _
   rw [(sealsGo_kp T _ _ _ _).1]
   rfl
  rw [e] at hk
  rcases List.mem_append.1 hk with hk | hk
  · obtain ⟨i, hi, h⟩ := mkGo_nodes n k hk
    exact ⟨i, by omega, h⟩
  · obtain rfl : k = ((((f n).1 : Nat) : Int), nodeK (mkGo T f L1 n).L (f n).2.2) := by simpa using hk
    exact ⟨n, by omega, rfl⟩
theorem mkRows_lt {T : List NodeD} {L : List TermD} {leaf seed : Int} {fresh : List Int} (h : askD T leaf = 0) : ∀ i, i < mkM T leaf + 1 → (mkRows T L leaf seed fresh i).1 ≤ 100
 | 0, _ => by
  obtain ⟨_, h0, hlt, hn, hT, _⟩ := ask_zero h
  show 2 * leaf.toNat ≤ 100
  rcases hn with h | h | h | h <;> omega
 | i + 1, hi => by
  obtain ⟨_, h0, hlt, hn, hT, _⟩ := ask_zero h
  have hp := pth_ok h
  have hm := get_list (l := pthD T leaf.toNat) (i := i) 0 (by show i < mkM T leaf; omega)
  have h2 := hp.dlt _ (hp.sub _ hm)
  show (pthD T leaf.toNat).getD i 0 ≤ 100
  rcases hn with h | h | h | h <;> omega
section
variable {St : World → (Nat → Prop) → List TermD → Prop} {N : Nat} {F F' F'' G : Nat → Prop} {L L' : List TermD} {a fa : Option Addr} {T : List NodeD} {fresh : List Int} {kl : List KeyP} {ps : List Int} {ss : List SealP} {vk vp vs : Value} {w1 wr w2 w3 w5 : World}
theorem MkIn.wide (h : MkIn St N F F' a T fa fresh kl ps ss L vk vp vs w1 wr) (hG : ∀ k, F k → G k) : MkIn St N G F' a T fa fresh kl ps ss L vk vp vs w1 wr :=
 ⟨h.mw, h.base, fun k hk => (h.ext k hk).imp (hG k) id, h.tur.mono (fun k _ hk => hG k hk), h.kown, h.pown, h.sown, h.kout, h.pout, h.sout, h.kp, h.ks, h.pS⟩
theorem MkIn.boxed (law : StoreLaw St) (h : MkIn St N F F' a T fa fresh kl ps ss L vk vp vs w1 wr) {k : Nat} (hk : F k) (hkN : N ≤ k) (hkl : k < w1.heap.size) (hF : ¬ F' k) (v : Value) : MkIn St N F F' a T fa fresh kl ps ss L vk vp vs w1 (wr.setCell ⟨k, 0, none⟩ v) := by
 have hT : Turned (fun j => j = k) wr (wr.setCell ⟨k, 0, none⟩ v) := Turned.setCell (F := fun j => j = k) (Turned.refl _ _) (p := ⟨k, 0, none⟩) (fun _ => rfl) v
 refine ⟨h.mw.box law hkN hF 0 v, h.base, fun j hj => (h.ext j hj).imp id (fun h2 => ⟨h2.1, Nat.lt_of_lt_of_le h2.2 hT.size⟩), h.tur.trans hT (fun j hj e => e ▸ hk), oKp h.kown hT (fun g hg e => by have := (h.kout g hg).1; omega), oIk h.pown hT (fun g hg e => by have := (h.pout g hg).1; omega), oKp h.sown hT (fun g hg e => by have := (h.sout g hg).1; omega), h.kout, h.pout, h.sout, h.kp, h.ks, h.pS⟩
end
theorem made_end2 {St : World → (Nat → Prop) → List TermD → Prop} (law : StoreLaw St) {N q : Nat} {F F1 F' : Nat → Prop} {L : List TermD} {a fa : Option Addr} {T : List NodeD} {fresh : List Int} {kl : List KeyP} {ps : List Int} {ss : List SealP} {vk vp vs : Value} {w w6 w9 : World} {M g n cap : Nat} {nd : Nat → NodeD} {U : Nat → Value}
    (hq : q = w.heap.size) (hqN : N ≤ q) (hx0 : Ext F F1 w w6) (hT0 : Turned F w w6) (hq1' : ¬ F' (q + 1)) (hrl : q + 1 < w6.heap.size) (hin : MkIn St N F1 F' a T fa fresh kl ps ss L vk vp vs w6 w9) (hTO : TreeO M w9 g n cap nd U) (hM : w6.heap.size ≤ M) (hMF : ∀ k, F' k → k < M)
    (hkg : ∀ x, vk.ownBlock = some x → x ≠ g ∧ ∀ i, i < n → (U i).ownBlock ≠ some x) (hsg : ∀ x, vs.ownBlock = some x → x ≠ g ∧ ∀ i, i < n → (U i).ownBlock ≠ some x) (v : Value) :
    TreeO w.heap.size (w9.setCell ⟨q + 1, 0, none⟩ v) g n cap nd U ∧ OwnK vk kl (w9.setCell ⟨q + 1, 0, none⟩ v) ∧ OwnS vs ss (w9.setCell ⟨q + 1, 0, none⟩ v) ∧ MkW St N F' L a T fa fresh (w9.setCell ⟨q + 1, 0, none⟩ v) ∧ Ext F F' w (w9.setCell ⟨q + 1, 0, none⟩ v) ∧ Turned F w (w9.setCell ⟨q + 1, 0, none⟩ v) ∧
    (∀ x, (x = g ∨ vk.ownBlock = some x ∨ vs.ownBlock = some x ∨ ∃ i, i < n ∧ (U i).ownBlock = some x) → w.heap.size ≤ x ∧ ¬ F' x) ∧
    (∀ x, vk.ownBlock = some x → vs.ownBlock ≠ some x ∧ x ≠ g ∧ ∀ i, i < n → (U i).ownBlock ≠ some x) ∧ (∀ x, vs.ownBlock = some x → x ≠ g ∧ ∀ i, i < n → (U i).ownBlock ≠ some x) := by
 have hT2 : Turned (fun k => k = q + 1) w9 (w9.setCell ⟨q + 1, 0, none⟩ v) := Turned.setCell (F := fun k => k = q + 1) (Turned.refl _ _) (p := ⟨q + 1, 0, none⟩) (fun _ => rfl) v
 have h6 := hT0.size
 have h9 := hin.tur.size
 have hfar := hTO.far
 have hq1 : ∀ k, F' k → k ≠ q + 1 := fun k hk e => hq1' (e ▸ hk)
 refine ⟨(hTO.kept hT2 (by omega) (fun i hi b hb e => by have := ((hTO.um i hi).2 b hb).1; omega)).base (by omega), oKp hin.kown hT2 (fun x hx e => by have := (hin.kout x hx).1; omega), oKp hin.sown hT2 (fun x hx e => by have := (hin.sout x hx).1; omega),
  hin.mw.turn law hT2 (fun k hk e => hq1 k hk e) (fun k e => by omega), fun k hk => ?_, ?_, fun x hx => ?_, fun x hx => ⟨hin.ks x hx, hkg x hx⟩, hsg⟩
 · rcases hin.ext k hk with h | h
   · rcases hx0 k h with h2 | h2
     · exact .inl h2
     · exact .inr ⟨h2.1, by have := hT2.size; omega⟩
   · exact .inr ⟨by omega, by have := hT2.size; omega⟩
 · refine (hT0.trans hin.tur (fun k hk h => (hx0 k h).elim id (fun h2 => by omega))).trans hT2 (fun k hk e => by omega)
 · rcases hx with rfl | hx | hx | ⟨i, hi, hx⟩
   · exact ⟨by omega, fun hf => by have := hMF _ hf; omega⟩
   · exact ⟨by have := (hin.kout x hx).1; omega, (hin.kout x hx).2⟩
   · exact ⟨by have := (hin.sout x hx).1; omega, (hin.sout x hx).2⟩
   · have := ((hTO.um i hi).2 x hx).1
     exact ⟨by omega, fun hf => by have := hMF _ hf; omega⟩
theorem made_endP {St : World → (Nat → Prop) → List TermD → Prop} (law : StoreLaw St) {N q : Nat} {F F1 F' : Nat → Prop} {L : List TermD} {a fa : Option Addr} {T : List NodeD} {fresh : List Int} {kl k2 : List KeyP} {ps : List Int} {ss : List SealP} {vk vp vs v2 v : Value} {w w6 wr w9 w10 : World} {g n cap : Nat} {nd : Nat → NodeD} {U : Nat → Value}
    (hq : q = w.heap.size) (hqN : N ≤ q) (hx0 : Ext F F1 w w6) (hT0 : Turned F w w6) (hrs : ¬ F1 (q + 1)) (hrl : q + 1 < w6.heap.size) (hin : MkIn St N F1 F' a T fa fresh kl ps ss L vk vp vs w6 wr) (hTO : TreeO wr.heap.size w9 g n cap nd U) (hb9 : Below wr.heap.size wr w9)
    (hown : OwnK v2 k2 w10) (hf2 : ∀ x, v2.ownBlock = some x → (w9.setCell ⟨q + 1, 0, none⟩ v).heap.size ≤ x) (hb10 : Below (w9.setCell ⟨q + 1, 0, none⟩ v).heap.size (w9.setCell ⟨q + 1, 0, none⟩ v) w10) (v' : Value) :
    TreeO w.heap.size (w10.setCell ⟨q + 1, 0, none⟩ v') g n cap nd U ∧ OwnK v2 k2 (w10.setCell ⟨q + 1, 0, none⟩ v') ∧ OwnS vs ss (w10.setCell ⟨q + 1, 0, none⟩ v') ∧ MkW St N F' L a T fa fresh (w10.setCell ⟨q + 1, 0, none⟩ v') ∧ Ext F F' w (w10.setCell ⟨q + 1, 0, none⟩ v') ∧ Turned F w (w10.setCell ⟨q + 1, 0, none⟩ v') ∧
    (∀ x, (x = g ∨ v2.ownBlock = some x ∨ vs.ownBlock = some x ∨ ∃ i, i < n ∧ (U i).ownBlock = some x) → w.heap.size ≤ x ∧ ¬ F' x) ∧
    (∀ x, v2.ownBlock = some x → vs.ownBlock ≠ some x ∧ x ≠ g ∧ ∀ i, i < n → (U i).ownBlock ≠ some x) ∧ (∀ x, vs.ownBlock = some x → x ≠ g ∧ ∀ i, i < n → (U i).ownBlock ≠ some x) := by
 have hq1 : ∀ k, F' k → k ≠ q + 1 := fun k hk e => (hin.ext k hk).elim (fun h => hrs (e ▸ h)) (fun h => by omega)
 have h6 := hT0.size
 have h6r := hin.tur.size
 have hT2 : Turned (fun k => k = q + 1) w9 (w9.setCell ⟨q + 1, 0, none⟩ v) := Turned.setCell (F := fun k => k = q + 1) (Turned.refl _ _) (p := ⟨q + 1, 0, none⟩) (fun _ => rfl) v
 have hs9 : w9.heap.size ≤ (w9.setCell ⟨q + 1, 0, none⟩ v).heap.size := hT2.size
 have hfar := hTO.far
 have hTO1 : TreeO wr.heap.size (w9.setCell ⟨q + 1, 0, none⟩ v) g n cap nd U := hTO.kept hT2 (by omega) (fun i hi b hb e => by have := ((hTO.um i hi).2 b hb).1; omega)
 have hTO2 := hTO1.new hb10
 have hinS := ((hin.new law hb9).wide (G := fun k => F1 k ∨ k = q + 1) (fun _ h => .inl h)).boxed law (.inr rfl) (by omega) hrl (fun h => hq1 _ h rfl) v
 have hinE := hinS.keys law hb10 hown hf2
 refine made_end2 law hq hqN (fun k hk => ?_) hT0 (fun h => hq1 _ h rfl) hrl hinE hTO2 h6r (fun k hk => law.lt hin.mw.st k hk) (fun x hx => ?_) (fun x hx => ?_) v'
 · rcases hk with hk | rfl
   · exact hx0 k hk
   · exact .inr ⟨by omega, hrl⟩
 · have h1 := hf2 x hx
   refine ⟨fun e => by have := hTO.lt; omega, fun i hi e => by have := ownI_lt (hTO.um i hi).1 e; omega⟩
 · have h1 := (hin.sown.lt x hx).2
   exact ⟨fun e => by omega, fun i hi e => by have := ((hTO.um i hi).2 x e).1; omega⟩
end
end Go.Proofs.YtedpljclnpiggaaGreatDoor
