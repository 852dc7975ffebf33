/- A law for a region that draws its order and whose operations read, or call what makes memory: one walk in the order of the text, each operation's outcome either a fixed value or a value of which a fact is known that stays true as memory grows. -/
import Derived.WalkKit
import Derived.Orders
import Derived.Still
set_option linter.unusedVariables false
set_option linter.unusedSimpArgs false
set_option maxRecDepth 100000
set_option maxHeartbeats 12800000
namespace Go.Proofs.YtedpljclnpiggaaGreatDoor
open Go
inductive Kind where
 | fix (c : Value)
 | loose (φ : Value → World → Prop)
def Kind.holds : Kind → Value → World → Prop
 | .fix c, v, _ => v = c
 | .loose φ, v, w => φ v w
def Kind.stays (G : World → World → Prop) : Kind → Prop
 | .fix _ => True
 | .loose φ => ∀ v w w', G w w' → φ v w → φ v w'
def factsFor (ops : Array Oper) (o : Oper) : List (Option Tmp × (World → Prop)) → World → Prop
 | [], _ => True
 | (some s, F) :: r, w => if (o.looksAt ops).contains s then (F w ∧ factsFor ops o r w) else factsFor ops o r w
 | (none, _) :: r, w => factsFor ops o r w
def allFacts : List (Option Tmp × (World → Prop)) → World → Prop
 | [], _ => True
 | (some _, F) :: r, w => F w ∧ allFacts r w
 | (none, _) :: r, w => allFacts r w
def Stay (G : World → World → Prop) : List Kind → Prop
 | [] => True
 | .fix _ :: ks => Stay G ks
 | .loose φ :: ks => (∀ v w w', G w w' → φ v w → φ v w') ∧ Stay G ks
theorem Stay.of {G : World → World → Prop} : ∀ {ks : List Kind}, Stay G ks → ∀ k ∈ ks, k.stays G
 | [], _, k, h => by cases h
 | .fix c :: ks, hs, k, h => by
  rcases List.mem_cons.1 h with rfl | h
  · trivial
  · exact Stay.of (ks := ks) hs k h
 | .loose φ :: ks, hs, k, h => by
  rcases List.mem_cons.1 h with rfl | h
  · exact hs.1
  · exact Stay.of (ks := ks) hs.2 k h
def runsTo (P : Program) (o : Oper) (a : Act) (w : World) (R : Value → World → Prop) : Prop :=
 match (execOp a.eval o).run P w with
 | .ok (.value v) w' => R v w'
 | .ok .skip w' => R undef w'
 | .ok (.enter f args) w' => Calls P f args w' fun e w'' => ∃ v, e = .returned v ∧ R v w''
 | _ => False
def opRuns (P : Program) (ops : Array Oper) (o : Oper) (a : Act) (w : World) (R : Value → World → Prop) : Prop :=
 if Region.wanted o (yielded ops a.tmps) then runsTo P o a w R else R undef w
def lexWalk (P : Program) (ops : Array Oper) (C : World → Prop) (G : World → World → Prop) (Q : Act → World → Prop) : List Kind → List Oper → Act → List (Option Tmp × (World → Prop)) → Prop
 | [], [], a, fs => ∀ w, C w → allFacts fs w → Q a w
 | k :: ks, o :: rest, a, fs =>
  (∀ w, C w → factsFor ops o fs w → opRuns P ops o a w fun v w' => G w w' ∧ C w' ∧ k.holds v w') ∧
  (match k with
   | .fix c => lexWalk P ops C G Q ks rest (a.put o.dst c) fs
   | .loose φ => ∀ v, lexWalk P ops C G Q ks rest (a.put o.dst v) ((o.dst, φ v) :: fs))
 | _, _, _, _ => False
def edgesFit (ops : Array Oper) (n : Nat) : Bool :=
 (List.range ops.size).all fun j =>
  match ops[j]? with
  | none => true
  | some oj =>
   (oj.after.toList.all fun e => !Region.binds .any e || decide (e.on < j)) &&
   (match oj.dst with | some d => decide (d < n) | none => true) &&
   (List.range ops.size).all fun i =>
    match ops[i]? with
    | none => true
    | some oi =>
     match oi.dst with
     | none => true
     | some d => (i == j || oj.dst != some d) &&
      (!(oj.looksAt ops).contains d || i == j || (decide (i < j) && oj.after.toList.any fun e => Region.binds .any e && e.on == i) || (decide (j < i) && oi.after.toList.any fun e => Region.binds .any e && e.on == j))
section
variable {P : Program} {ops : Array Oper} {C : World → Prop} {G : World → World → Prop} {Q : Act → World → Prop} {N : Nat}
theorem edges_on (h : edgesFit ops N = true) {j : Nat} {o : Oper} (ho : ops[j]? = some o) {e : Edge} (he : e ∈ o.after) (hb : Region.binds .any e = true) : e.on < j := by
 have hj : j < ops.size := (Array.getElem?_eq_some_iff.1 ho).1
 have h1 := List.all_eq_true.1 h j (List.mem_range.2 hj)
 simp only [ho, Bool.and_eq_true] at h1
 have h2 := List.all_eq_true.1 h1.1.1 e (by simpa using he)
 simpa [hb] using h2
theorem edges_dst (h : edgesFit ops N = true) {j : Nat} {o : Oper} (ho : ops[j]? = some o) {d : Tmp} (hd : o.dst = some d) : d < N := by
 have hj : j < ops.size := (Array.getElem?_eq_some_iff.1 ho).1
 have h1 := List.all_eq_true.1 h j (List.mem_range.2 hj)
 simp only [ho, Bool.and_eq_true, hd] at h1
 simpa using h1.1.2
theorem edges_pair (h : edgesFit ops N = true) {i j : Nat} {oi oj : Oper} (hi : ops[i]? = some oi) (hj : ops[j]? = some oj) {d : Tmp} (hd : oi.dst = some d) :
    (i = j ∨ oj.dst ≠ some d) ∧ (d ∈ oj.looksAt ops → i = j ∨ (i < j ∧ ∃ e ∈ oj.after, Region.binds .any e = true ∧ e.on = i) ∨ (j < i ∧ ∃ e ∈ oi.after, Region.binds .any e = true ∧ e.on = j)) := by
 have hi' : i < ops.size := (Array.getElem?_eq_some_iff.1 hi).1
 have hj' : j < ops.size := (Array.getElem?_eq_some_iff.1 hj).1
 have h1 := List.all_eq_true.1 h j (List.mem_range.2 hj')
 simp only [hj, Bool.and_eq_true] at h1
 have h2 := List.all_eq_true.1 h1.2 i (List.mem_range.2 hi')
 simp only [hi, hd, Bool.and_eq_true, Bool.or_eq_true, beq_iff_eq, bne_iff_ne, Bool.not_eq_true', decide_eq_true_eq, List.any_eq_true, Array.mem_toList_iff] at h2
 refine ⟨h2.1, fun hm => ?_⟩
 have hc : (oj.looksAt ops).contains d = true := by simpa using hm
 rcases h2.2 with ((h3 | h3) | h3) | h3
 · rw [hc] at h3; cases h3
 · exact .inl h3
 · obtain ⟨h4, e, he, hb, hon⟩ := h3
   exact .inr (.inl ⟨h4, e, he, hb, hon⟩)
 · obtain ⟨h4, e, he, hb, hon⟩ := h3
   exact .inr (.inr ⟨h4, e, he, hb, hon⟩)
def Kind.val (vs : Tmp → Value) (d : Option Tmp) : Kind → Value
 | .fix c => c
 | .loose _ => match d with | some d => vs d | none => undef
def lexFrame (vs : Tmp → Value) : List Kind → List Oper → Act → Act
 | k :: ks, o :: rest, a => lexFrame vs ks rest (a.put o.dst (k.val vs o.dst))
 | _, _, a => a
def lexFacts (vs : Tmp → Value) : List Kind → List Oper → List (Option Tmp × (World → Prop)) → List (Option Tmp × (World → Prop))
 | .fix _ :: ks, _ :: rest, fs => lexFacts vs ks rest fs
 | .loose φ :: ks, o :: rest, fs => lexFacts vs ks rest ((o.dst, φ ((Kind.loose φ).val vs o.dst)) :: fs)
 | _, _, fs => fs
theorem lexWalk_at (vs : Tmp → Value) : ∀ (ks : List Kind) (l : List Oper) (a : Act) (fs : List (Option Tmp × (World → Prop))), lexWalk P ops C G Q ks l a fs → ∀ (j : Nat) (k : Kind) (o : Oper), ks[j]? = some k → l[j]? = some o →
    ∀ w, C w → factsFor ops o (lexFacts vs (ks.take j) (l.take j) fs) w → opRuns P ops o (lexFrame vs (ks.take j) (l.take j) a) w fun v w' => G w w' ∧ C w' ∧ k.holds v w'
 | [], _, _, _, _, j, k, o, hk, _ => by simp at hk
 | _ :: _, [], _, _, _, j, k, o, _, ho => by simp at ho
 | k0 :: ks, o0 :: l, a, fs, h, 0, k, o, hk, ho => by
  obtain rfl : k0 = k := by simpa using hk
  obtain rfl : o0 = o := by simpa using ho
  exact h.1
 | k0 :: ks, o0 :: l, a, fs, h, j + 1, k, o, hk, ho => by
  simp only [List.getElem?_cons_succ] at hk ho
  cases k0 with
  | fix c => exact lexWalk_at vs ks l _ _ h.2 j k o hk ho
  | loose φ => exact lexWalk_at vs ks l _ _ (h.2 _) j k o hk ho
theorem lexWalk_end (vs : Tmp → Value) : ∀ (ks : List Kind) (l : List Oper) (a : Act) (fs : List (Option Tmp × (World → Prop))), lexWalk P ops C G Q ks l a fs → ∀ w, C w → allFacts (lexFacts vs ks l fs) w → Q (lexFrame vs ks l a) w
 | [], [], _, _, h => h
 | [], _ :: _, _, _, h => h.elim
 | _ :: _, [], _, _, h => h.elim
 | .fix c :: ks, o :: l, a, fs, h => lexWalk_end vs ks l _ _ h.2
 | .loose φ :: ks, o :: l, a, fs, h => lexWalk_end vs ks l _ _ (h.2 _)
theorem lexWalk_len : ∀ (ks : List Kind) (l : List Oper) (a : Act) (fs : List (Option Tmp × (World → Prop))), lexWalk P ops C G Q ks l a fs → ks.length = l.length
 | [], [], _, _, _ => rfl
 | [], _ :: _, _, _, h => h.elim
 | _ :: _, [], _, _, h => h.elim
 | .fix c :: ks, o :: l, a, fs, h => congrArg (· + 1) (lexWalk_len ks l _ _ h.2)
 | .loose φ :: ks, o :: l, a, fs, h => congrArg (· + 1) (lexWalk_len ks l _ _ (h.2 undef))
theorem put_size (a : Act) (d : Option Tmp) (v : Value) : (a.put d v).tmps.size = a.tmps.size := by cases d <;> simp [Act.put]
theorem put_defers (a : Act) (d : Option Tmp) (v : Value) : (a.put d v).defers = a.defers := by cases d <;> rfl
theorem put_other (a : Act) {d : Option Tmp} (v : Value) {s : Tmp} (h : d ≠ some s) : (a.put d v).tmps[s]? = a.tmps[s]? := by
 cases d with
 | none => rfl
 | some d => simp [Act.put, Array.getElem?_setIfInBounds_ne (show d ≠ s from fun e => h (e ▸ rfl))]
theorem put_same (a : Act) (v : Value) {s : Tmp} (h : s < a.tmps.size) : (a.put (some s) v).tmps[s]? = some v := by simp [Act.put, h]
theorem lexFrame_size (vs : Tmp → Value) : ∀ (ks : List Kind) (l : List Oper) (a : Act), (lexFrame vs ks l a).tmps.size = a.tmps.size
 | [], _, _ => by unfold lexFrame; rfl
 | _ :: _, [], _ => rfl
 | k :: ks, o :: l, a => by rw [lexFrame, lexFrame_size vs ks l, put_size]
theorem lexFrame_defers (vs : Tmp → Value) : ∀ (ks : List Kind) (l : List Oper) (a : Act), (lexFrame vs ks l a).defers = a.defers
 | [], _, _ => by unfold lexFrame; rfl
 | _ :: _, [], _ => rfl
 | k :: ks, o :: l, a => by rw [lexFrame, lexFrame_defers vs ks l, put_defers]
theorem lexFrame_slot (vs : Tmp → Value) (s : Tmp) (X : Value) : ∀ (ks : List Kind) (l : List Oper) (a : Act), ks.length = l.length → s < a.tmps.size →
    (∀ (i : Nat) (k : Kind) (o : Oper), ks[i]? = some k → l[i]? = some o → o.dst = some s → k.val vs o.dst = X) →
    ((lexFrame vs ks l a).tmps[s]? = some X ∨ (lexFrame vs ks l a).tmps[s]? = a.tmps[s]?) ∧ ((∃ (i : Nat) (o : Oper), l[i]? = some o ∧ o.dst = some s) → (lexFrame vs ks l a).tmps[s]? = some X) ∧ ((∀ (i : Nat) (o : Oper), l[i]? = some o → o.dst ≠ some s) → (lexFrame vs ks l a).tmps[s]? = a.tmps[s]?)
 | [], [], a, _, _, _ => ⟨.inr rfl, fun ⟨i, o, h, _⟩ => by simp at h, fun _ => rfl⟩
 | [], _ :: _, _, h, _, _ => by simp at h
 | _ :: _, [], _, h, _, _ => by simp at h
 | k :: ks, o :: l, a, hl, hs, hX => by
  obtain ⟨h0, h1, h2⟩ := lexFrame_slot vs s X ks l (a.put o.dst (k.val vs o.dst)) (by simpa using hl) (by rw [put_size]; exact hs) (fun i k' o' hk ho => hX (i + 1) k' o' (by simpa using hk) (by simpa using ho))
  show ((lexFrame vs ks l (a.put o.dst (k.val vs o.dst))).tmps[s]? = some X ∨ (lexFrame vs ks l (a.put o.dst (k.val vs o.dst))).tmps[s]? = a.tmps[s]?) ∧ ((∃ (i : Nat) (o' : Oper), (o :: l)[i]? = some o' ∧ o'.dst = some s) → (lexFrame vs ks l (a.put o.dst (k.val vs o.dst))).tmps[s]? = some X) ∧ ((∀ (i : Nat) (o' : Oper), (o :: l)[i]? = some o' → o'.dst ≠ some s) → (lexFrame vs ks l (a.put o.dst (k.val vs o.dst))).tmps[s]? = a.tmps[s]?)
  by_cases hd : o.dst = some s
  · have hv := hX 0 k o rfl rfl hd
    have hp : (a.put o.dst (k.val vs o.dst)).tmps[s]? = some X := by rw [hv, hd]; exact put_same a X hs
    rw [hp] at h0 h2
    have hX' : (lexFrame vs ks l (a.put o.dst (k.val vs o.dst))).tmps[s]? = some X := by rcases h0 with h | h <;> exact h
    exact ⟨.inl hX', fun _ => hX', fun h => absurd hd (h 0 o rfl)⟩
  · rw [put_other a _ hd] at h0 h2
    refine ⟨h0, fun ⟨i, o', ho, hd'⟩ => ?_, fun h => h2 fun i o' ho => h (i + 1) o' (by simpa using ho)⟩
    cases i with
    | zero => exact absurd hd' (by obtain rfl : o = o' := by simpa using ho
                                   exact hd)
    | succ i => exact h1 ⟨i, o', by simpa using ho, hd'⟩
theorem lexFacts_mem (vs : Tmp → Value) : ∀ (ks : List Kind) (l : List Oper) (fs : List (Option Tmp × (World → Prop))) (p : Option Tmp × (World → Prop)), p ∈ lexFacts vs ks l fs → p ∈ fs ∨ ∃ (i : Nat) (φ : Value → World → Prop) (o : Oper), ks[i]? = some (Kind.loose φ) ∧ l[i]? = some o ∧ p = (o.dst, φ ((Kind.loose φ).val vs o.dst))
 | [], _, fs, p, h => by unfold lexFacts at h; exact .inl h
 | .fix _ :: _, [], fs, p, h => .inl h
 | .loose _ :: _, [], fs, p, h => .inl h
 | .fix c :: ks, o :: l, fs, p, h => by
  rcases lexFacts_mem vs ks l fs p h with h | ⟨i, φ, o', h1, h2, h3⟩
  · exact .inl h
  · exact .inr ⟨i + 1, φ, o', by simpa using h1, by simpa using h2, h3⟩
 | .loose φ :: ks, o :: l, fs, p, h => by
  rcases lexFacts_mem vs ks l _ p h with h | ⟨i, φ', o', h1, h2, h3⟩
  · rcases List.mem_cons.1 h with h | h
    · exact .inr ⟨0, φ, o, rfl, rfl, h⟩
    · exact .inl h
  · exact .inr ⟨i + 1, φ', o', by simpa using h1, by simpa using h2, h3⟩
theorem factsFor_of (o : Oper) (w : World) : ∀ (fs : List (Option Tmp × (World → Prop))), (∀ p ∈ fs, ∀ s, p.1 = some s → s ∈ o.looksAt ops → p.2 w) → factsFor ops o fs w
 | [], _ => trivial
 | (none, F) :: r, h => factsFor_of o w r fun p hp => h p (List.mem_cons_of_mem _ hp)
 | (some s, F) :: r, h => by
  unfold factsFor
  have hr := factsFor_of o w r fun p hp => h p (List.mem_cons_of_mem _ hp)
  split
  · rename_i hc
    exact ⟨h (some s, F) (List.mem_cons_self ..) s rfl (by simpa using hc), hr⟩
  · exact hr
theorem allFacts_of (w : World) : ∀ (fs : List (Option Tmp × (World → Prop))), (∀ p ∈ fs, p.1 ≠ none → p.2 w) → allFacts fs w
 | [], _ => trivial
 | (some _, F) :: r, h => ⟨h _ (List.mem_cons_self ..) (by simp), allFacts_of w r fun q hq => h q (List.mem_cons_of_mem _ hq)⟩
 | (none, F) :: r, h => allFacts_of w r fun q hq => h q (List.mem_cons_of_mem _ hq)
theorem wanted_congr (o : Oper) {a b : Act} (h : ∀ s ∈ o.looksAt ops, a.tmps[s]? = b.tmps[s]?) : Region.wanted o (yielded ops a.tmps) = Region.wanted o (yielded ops b.tmps) := by
 unfold Region.wanted
 cases hg : o.guard with
 | none => rfl
 | some g =>
  obtain ⟨j, want⟩ := g
  simp only
  congr 1
  unfold yielded
  cases hd : (ops[j]?).bind (·.dst) with
  | none => rfl
  | some d =>
   have := h d (by unfold Oper.looksAt; rw [hg]; simp [hd])
   simp only [Option.bind_some, this]
theorem runsTo_congr (o : Oper) (hs : ∀ cs b, o.op ≠ .select cs b) {a b : Act} (h : ∀ s ∈ o.looksAt ops, a.tmps[s]? = b.tmps[s]?) {w : World} {R : Value → World → Prop} (hr : runsTo P o a w R) : runsTo P o b w R := by
 have he : execOp a.eval o = execOp b.eval o := execOp_congr o hs fun x hx => by
  cases x with
  | tmp t =>
   have := h t (List.mem_append_left _ (List.mem_filterMap.2 ⟨.tmp t, by simpa using hx, rfl⟩))
   simp only [Act.eval, Array.getD_eq_getD_getElem?, this]
  | _ => rfl
 unfold runsTo at *
 rw [he] at hr
 exact hr
theorem opRuns_congr (o : Oper) (hs : ∀ cs b, o.op ≠ .select cs b) {a b : Act} (h : ∀ s ∈ o.looksAt ops, a.tmps[s]? = b.tmps[s]?) {w : World} {R : Value → World → Prop} (hr : opRuns P ops o a w R) : opRuns P ops o b w R := by
 unfold opRuns at *
 rw [← wanted_congr o h]
 split
 · rename_i hw; rw [if_pos hw] at hr; exact runsTo_congr o hs h hr
 · rename_i hw; rw [if_neg hw] at hr; exact hr
structure RInv (ks : List Kind) (ops : Array Oper) (C : World → Prop) (a : Act) (listed : Array Bool) (b : Act) (w : World) : Prop where
 c : C w
 lsize : listed.size = ops.size
 size : b.tmps.size = a.tmps.size
 defers : b.defers = a.defers
 down : ∀ (i : Nat) (o : Oper), ops[i]? = some o → listed.getD i false = true → ∀ e ∈ o.after, Region.binds .any e = true → listed.getD e.on false = true
 slot : ∀ (i : Nat) (o : Oper) (k : Kind) (d : Tmp), ops[i]? = some o → ks[i]? = some k → listed.getD i false = true → o.dst = some d → k.holds (b.tmps.getD d undef) w
 old : ∀ s, (∀ (i : Nat) (o : Oper), ops[i]? = some o → listed.getD i false = true → o.dst ≠ some s) → b.tmps[s]? = a.tmps[s]?
theorem wp_of_opRuns {o : Oper} {b : Act} {w : World} {R : Value → World → Prop} {K : Act → World → Prop} {Q' : Exit → Act → World → Prop} (h : opRuns P ops o b w R) (hK : ∀ v w', R v w' → K (b.put o.dst v) w') {i : Nat} (hi : ops[i]? = some o) : wpOp P ops Q' i K b w := by
 unfold wpOp
 simp only [hi]
 unfold opRuns at h
 split
 · rename_i hw
   rw [if_pos hw] at h
   refine .inl ?_
   unfold runsTo at h
   unfold Oper.wp
   generalize (execOp b.eval o).run P w = r at *
   cases r with
   | halt x w' => exact h.elim
   | ok n w' =>
    cases n with
    | value v => exact hK v w' h
    | skip => exact hK undef w' h
    | enter f args => exact Calls.mono h fun e w'' ⟨v, he, hR⟩ => by subst he; exact hK v w'' hR
    | _ => exact h.elim
 · rename_i hw
   rw [if_neg hw] at h
   exact hK undef w h
theorem getD_or {A : Array Bool} {i : Nat} (h : i < A.size) (b b' : Bool) : A.getD i b = A.getD i b' := by simp [h]
theorem wp_region_kinds {id : Nat} {Q : Exit → Act → World → Prop} {a : Act} {w : World} (ks : List Kind) (C : World → Prop) (G : World → World → Prop) (hm : P.follows .mixedOrders = true) (hsel : Region.noSelect ops = true)
    (hE : edgesFit ops a.tmps.size = true) (hst' : Stay G ks) (hC : C w.drew) (h : lexWalk P ops C G (Q .normal) ks ops.toList a []) : (Code.region id ops true).wp P Q a w := by
 have hst := hst'.of
 have hlen : ks.length = ops.size := by simpa using lexWalk_len _ _ _ _ h
 have hks : ∀ i, i < ops.size → ∃ k, ks[i]? = some k := fun i hi => ⟨_, List.getElem?_eq_getElem (by omega)⟩
 refine wp_region_any hm ?_
 have main : ∀ (fuel : Nat) (listed : Array Bool) (b : Act) (w : World), RInv ks ops C a listed b w → ((List.range ops.size).filter fun i => !listed.getD i true).length ≤ fuel → wpAny P .any ops Q fuel listed b w := by
  have agree : ∀ (listed : Array Bool) (b : Act) (w : World), RInv ks ops C a listed b w → ∀ (j : Nat), j ≤ ops.size → ∀ s, s < a.tmps.size →
      (∀ (i : Nat) (o : Oper), ops[i]? = some o → o.dst = some s → (i < j → listed.getD i false = true) ∧ (j ≤ i → listed.getD i false = true → False)) →
      (lexFrame (fun d => b.tmps.getD d undef) (ks.take j) (ops.toList.take j) a).tmps[s]? = b.tmps[s]? := by
   intro listed b w hI j hj s hs hord
   have hX := lexFrame_slot (fun d => b.tmps.getD d undef) s (b.tmps.getD s undef) (ks.take j) (ops.toList.take j) a (by simp [hlen]) hs (fun i k o hk ho hd => by
    have hij : i < j := by
     have := (List.getElem?_eq_some_iff.1 ho).1
     rw [List.length_take] at this
     omega
    rw [List.getElem?_take_of_lt hij] at hk ho
    have ho' : ops[i]? = some o := by simpa using ho
    have h1 := hI.slot i o k s ho' hk ((hord i o ho' hd).1 hij) hd
    cases k with
    | fix c => exact h1.symm
    | loose φ => simp [Kind.val, hd])
   have hbs : b.tmps[s]? = some (b.tmps.getD s undef) := by
    have : s < b.tmps.size := by rw [hI.size]; exact hs
    simp [this]
   by_cases hex : ∃ (i : Nat) (o : Oper), (ops.toList.take j)[i]? = some o ∧ o.dst = some s
   · rw [hX.2.1 hex, hbs]
   · have hno : ∀ (i : Nat) (o : Oper), (ops.toList.take j)[i]? = some o → o.dst ≠ some s := fun i o h1 h2 => hex ⟨i, o, h1, h2⟩
     rw [hX.2.2 hno]
     refine (hI.old s fun i o ho hl hd => ?_).symm
     rcases Nat.lt_or_ge i j with hij | hij
     · exact hno i o (by rw [List.getElem?_take_of_lt hij]; simpa using ho) hd
     · exact (hord i o ho hd).2 hij hl
  have ends : ∀ (listed : Array Bool) (b : Act) (w : World), RInv ks ops C a listed b w → (∀ i, i < ops.size → listed.getD i false = true) → Q .normal b w := by
   intro listed b w hI hall
   have hfr : lexFrame (fun d => b.tmps.getD d undef) ks ops.toList a = b := by
    have h1 : ks.take ops.size = ks := List.take_of_length_le (by omega)
    have h2 : ops.toList.take ops.size = ops.toList := List.take_of_length_le (by simp)
    have ha := agree listed b w hI ops.size (Nat.le_refl _)
    rw [h1, h2] at ha
    have hsz := lexFrame_size (fun d => b.tmps.getD d undef) ks ops.toList a
    have hde := lexFrame_defers (fun d => b.tmps.getD d undef) ks ops.toList a
    have ht : (lexFrame (fun d => b.tmps.getD d undef) ks ops.toList a).tmps = b.tmps := by
     apply Array.ext_getElem?
     intro s
     rcases Nat.lt_or_ge s a.tmps.size with hs | hs
     · refine ha s hs fun i o ho _ => ⟨fun hi => hall i hi, fun hi _ => ?_⟩
       have := (Array.getElem?_eq_some_iff.1 ho).1
       omega
     · rw [Array.getElem?_eq_none (by omega), Array.getElem?_eq_none (by rw [hI.size]; omega)]
    cases hx : lexFrame (fun d => b.tmps.getD d undef) ks ops.toList a with
    | mk t d =>
     rw [hx] at ht hde
     cases b with
     | mk t' d' =>
      have h3 : t = t' := ht
      have h4 : d = d' := hde.trans hI.defers.symm
      rw [h3, h4]
   rw [← hfr]
   refine lexWalk_end _ ks ops.toList a [] h w hI.c (allFacts_of w _ fun p hp hpn => ?_)
   rcases lexFacts_mem _ ks ops.toList [] p hp with h0 | ⟨i, φ, o, hk, ho, rfl⟩
   · cases h0
   · have ho' : ops[i]? = some o := by simpa using ho
     have hi := (Array.getElem?_eq_some_iff.1 ho').1
     cases hd : o.dst with
     | none => exact absurd hd hpn
     | some d =>
      have := hI.slot i o _ d ho' hk (hall i hi) hd
      simpa [Kind.val, Kind.holds] using this
  intro fuel
  induction fuel with
  | zero =>
   intro listed b w hI hf
   have hall : ∀ i, i < ops.size → listed.getD i false = true := fun i hi => by
    have h0 : ((List.range ops.size).filter fun i => !listed.getD i true) = [] := List.length_eq_zero_iff.1 (by omega)
    have h1 : ¬ (i ∈ (List.range ops.size).filter fun i => !listed.getD i true) := by rw [h0]; simp
    rw [List.mem_filter] at h1
    have h2 : listed.getD i true = true := by
     cases hb : listed.getD i true with
     | true => rfl
     | false => exact absurd ⟨List.mem_range.2 hi, by simp [hb]⟩ h1
    rw [getD_or (by rw [hI.lsize]; exact hi) false true]; exact h2
   refine ⟨?_, ends listed b w hI hall⟩
   refine List.eq_nil_iff_forall_not_mem.2 fun i hi => ?_
   obtain ⟨h1, o, ho, _⟩ := mem_ready.1 hi
   have hlt := (Array.getElem?_eq_some_iff.1 ho).1
   rw [getD_or (by rw [hI.lsize]; exact hlt) true false, hall i hlt] at h1
   cases h1
  | succ fuel ih =>
   intro listed b w hI hf
   refine ⟨fun hr => ends listed b w hI ?_, fun j hj => ?_⟩
   · -- none is ready: all have come up
     intro i
     induction i using Nat.strongRecOn with
     | _ i ihi =>
      intro hi
      cases hb : listed.getD i false with
      | true => rfl
      | false =>
       exfalso
       have : i ∈ Region.ready .any ops listed := mem_ready.2 ⟨by rw [getD_or (by rw [hI.lsize]; exact hi) true false]; exact hb, _, Array.getElem?_eq_getElem hi, fun e he hbi =>
        ihi e.on (edges_on hE (Array.getElem?_eq_getElem hi) he hbi) (Nat.lt_trans (edges_on hE (Array.getElem?_eq_getElem hi) he hbi) hi)⟩
       rw [hr] at this
       cases this
   · obtain ⟨hun, o, ho, hall⟩ := mem_ready.1 hj
     have hjs := (Array.getElem?_eq_some_iff.1 ho).1
     obtain ⟨k, hk⟩ := hks j hjs
     have hunf : listed.getD j false = false := by rw [getD_or (by rw [hI.lsize]; exact hjs) false true]; exact hun
     have hag : ∀ s ∈ o.looksAt ops, (lexFrame (fun d => b.tmps.getD d undef) (ks.take j) (ops.toList.take j) a).tmps[s]? = b.tmps[s]? := by
      intro s hs
      rcases Nat.lt_or_ge s a.tmps.size with hsz | hsz
      · refine agree listed b w hI j (Nat.le_of_lt hjs) s hsz fun i oi hoi hd => ?_
        have hp := (edges_pair hE hoi ho hd).2 hs
        refine ⟨fun hij => ?_, fun hji hl => ?_⟩
        · rcases hp with h | ⟨_, e, he, hb, rfl⟩ | ⟨h, _⟩
          · omega
          · exact hall e he hb
          · omega
        · rcases hp with h | ⟨h, _⟩ | ⟨_, e, he, hb, hon⟩
          · subst h; rw [hunf] at hl; cases hl
          · omega
          · have := hI.down i oi hoi hl e he hb
            rw [hon, hunf] at this
            cases this
      · rw [Array.getElem?_eq_none (by rw [lexFrame_size]; omega), Array.getElem?_eq_none (by rw [hI.size]; omega)]
     have hfacts : factsFor ops o (lexFacts (fun d => b.tmps.getD d undef) (ks.take j) (ops.toList.take j) []) w := by
      refine factsFor_of o w _ fun p hp s hps hs => ?_
      rcases lexFacts_mem _ _ _ [] p hp with h0 | ⟨i, φ, oi, hki, hoi, rfl⟩
      · cases h0
      · have hij : i < j := by
          have := (List.getElem?_eq_some_iff.1 hoi).1
          rw [List.length_take] at this
          omega
        rw [List.getElem?_take_of_lt hij] at hki hoi
        have hoi' : ops[i]? = some oi := by simpa using hoi
        have hd : oi.dst = some s := hps
        have hl : listed.getD i false = true := by
         rcases (edges_pair hE hoi' ho hd).2 hs with h | ⟨_, e, he, hb, rfl⟩ | ⟨h, _⟩
         · omega
         · exact hall e he hb
         · omega
        have := hI.slot i oi _ s hoi' hki hl hd
        simpa [Kind.val, Kind.holds, hd] using this
     have hrun := opRuns_congr o (Region.noSelect_spec hsel j o · · ho) hag (lexWalk_at (fun d => b.tmps.getD d undef) ks ops.toList a [] h j k o hk (by simpa using ho) w hI.c hfacts)
     refine wp_of_opRuns hrun (fun v w' ⟨hG, hC', hv⟩ => ih _ _ _ ?_ ?_) ho
     · refine ⟨hC', by simp [hI.lsize], by rw [put_size]; exact hI.size, by rw [put_defers]; exact hI.defers, ?_, ?_, ?_⟩
       · intro i oi hoi hl e he hb
         by_cases hij : j = i
         · subst hij
           obtain rfl : o = oi := by simpa [ho] using hoi
           exact getD_set_true (hall e he hb)
         · rw [getD_set_ne false hij] at hl
           exact getD_set_true (hI.down i oi hoi hl e he hb)
       · intro i oi ki d hoi hki hl hd
         have hdN := edges_dst hE hoi hd
         by_cases hij : j = i
         · subst hij
           obtain rfl : o = oi := by simpa [ho] using hoi
           obtain rfl : k = ki := by simpa [hk] using hki
           have hs : (b.put o.dst v).tmps.getD d undef = v := by
            have h1 : (b.put o.dst v).tmps[d]? = some v := by rw [hd]; exact put_same b v (by rw [hI.size]; exact hdN)
            rw [Array.getD_eq_getD_getElem?, h1]; rfl
           rw [hs]; exact hv
         · rw [getD_set_ne false hij] at hl
           have hne : o.dst ≠ some d := by
            rcases (edges_pair hE hoi ho hd).1 with h | h
            · exact absurd h.symm hij
            · exact h
           have hs : (b.put o.dst v).tmps.getD d undef = b.tmps.getD d undef := by
            rw [Array.getD_eq_getD_getElem?, put_other b v hne, ← Array.getD_eq_getD_getElem?]
           rw [hs]
           have h0 := hI.slot i oi ki d hoi hki hl hd
           cases ki with
           | fix c => exact h0
           | loose φ => exact hst _ (List.mem_of_getElem? hki) _ _ _ hG h0
       · intro s hs
         have hne : o.dst ≠ some s := hs j o ho (by
          have hj2 : j < listed.size := by rw [hI.lsize]; exact hjs
          simp [hj2])
         rw [put_other b v hne]
         refine hI.old s fun i oi hoi hl => hs i oi hoi (getD_set_true hl)
     · have hj2 : j < listed.size := by rw [hI.lsize]; exact hjs
       have hsub : ((List.range ops.size).filter fun i => !(listed.setIfInBounds j true).getD i true).length < ((List.range ops.size).filter fun i => !listed.getD i true).length := by
        rw [← List.countP_eq_length_filter, ← List.countP_eq_length_filter]
        have hle : ∀ l : List Nat, (l.countP fun i => !(listed.setIfInBounds j true).getD i true) ≤ l.countP fun i => !listed.getD i true := fun l => List.countP_mono_left fun i _ hi => by
         by_cases hij : j = i
         · subst hij; simp [hj2] at hi
         · rw [getD_set_ne true hij] at hi; exact hi
        have hsplit : List.range ops.size = List.range j ++ (j :: (List.range ops.size).drop (j + 1)) := by
         conv => lhs; rw [← List.take_append_drop j (List.range ops.size)]
         rw [List.take_range, Nat.min_eq_left (Nat.le_of_lt hjs)]
         congr 1
         rw [List.drop_eq_getElem_cons (by simpa using hjs)]
         simp
        rw [hsplit, List.countP_append, List.countP_append, List.countP_cons, List.countP_cons]
        have h1 : (!(listed.setIfInBounds j true).getD j true) = false := by simp [hj2]
        have h2 : (!listed.getD j true) = true := by simp [hun]
        have := hle (List.range j)
        have := hle ((List.range ops.size).drop (j + 1))
        simp only [h1, h2, if_true, Bool.false_eq_true, if_false]
        omega
       omega
 refine main ops.size _ a _ ⟨hC, by simp, rfl, rfl, ?_, ?_, fun _ _ => rfl⟩ ?_
 · intro i o ho hl
   have hi := (Array.getElem?_eq_some_iff.1 ho).1
   simp [hi] at hl
 · intro i o k d ho _ hl
   have hi := (Array.getElem?_eq_some_iff.1 ho).1
   simp [hi] at hl
 · refine Nat.le_trans (List.length_filter_le _ _) (by simp)
theorem lex_fix {ks : List Kind} {rest : List Oper} {o : Oper} {a : Act} {fs : List (Option Tmp × (World → Prop))} (c : Value) (hw : Region.wanted o (yielded ops a.tmps) = true)
    (hrun : ∀ W, C W → factsFor ops o fs W → (execOp a.eval o).run P W = .ok (.value c) W) (hG : ∀ W, G W W) (hnext : lexWalk P ops C G Q ks rest (a.put o.dst c) fs) : lexWalk P ops C G Q (.fix c :: ks) (o :: rest) a fs := by
 refine ⟨fun W hC hf => ?_, hnext⟩
 unfold opRuns
 rw [if_pos hw]
 unfold runsTo
 rw [hrun W hC hf]
 exact ⟨hG W, hC, rfl⟩
theorem lex_loose {ks : List Kind} {rest : List Oper} {o : Oper} {a : Act} {fs : List (Option Tmp × (World → Prop))} {φ : Value → World → Prop} (hw : Region.wanted o (yielded ops a.tmps) = true)
    (hrun : ∀ W, C W → factsFor ops o fs W → ∃ v, (execOp a.eval o).run P W = .ok (.value v) W ∧ φ v W) (hG : ∀ W, G W W) (hnext : ∀ v, lexWalk P ops C G Q ks rest (a.put o.dst v) ((o.dst, φ v) :: fs)) : lexWalk P ops C G Q (.loose φ :: ks) (o :: rest) a fs := by
 refine ⟨fun W hC hf => ?_, hnext⟩
 unfold opRuns
 rw [if_pos hw]
 unfold runsTo
 obtain ⟨v, hr, hv⟩ := hrun W hC hf
 rw [hr]
 exact ⟨hG W, hC, hv⟩
theorem lex_call_loose {ks : List Kind} {rest : List Oper} {o : Oper} {a : Act} {fs : List (Option Tmp × (World → Prop))} {φ : Value → World → Prop} (f : FuncId) (args : Array Value) (hw : Region.wanted o (yielded ops a.tmps) = true)
    (hrun : ∀ W, C W → factsFor ops o fs W → (execOp a.eval o).run P W = .ok (.enter f args) W) (hcall : ∀ W, C W → factsFor ops o fs W → Calls P f args W fun e w' => ∃ v, e = .returned v ∧ G W w' ∧ C w' ∧ φ v w')
    (hnext : ∀ v, lexWalk P ops C G Q ks rest (a.put o.dst v) ((o.dst, φ v) :: fs)) : lexWalk P ops C G Q (.loose φ :: ks) (o :: rest) a fs := by
 refine ⟨fun W hC hf => ?_, hnext⟩
 unfold opRuns
 rw [if_pos hw]
 unfold runsTo
 rw [hrun W hC hf]
 exact (hcall W hC hf).mono fun e w' ⟨v, he, hG, hC', hv⟩ => ⟨v, he, hG, hC', hv⟩
end
end Go.Proofs.YtedpljclnpiggaaGreatDoor
