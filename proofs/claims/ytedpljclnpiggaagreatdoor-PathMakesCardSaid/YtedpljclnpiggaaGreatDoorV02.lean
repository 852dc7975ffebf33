/- path.Above as data: what a climb makes of a list of terms. -/
import Derived.Test.YtedpljclnpiggaaGreatDoorRows
import Derived.Test.YtedpljclnpiggaaGreatDoorV01
import Derived.WalkKit
import Derived.WalkSpells
import Derived.WalkLawsBesides
import Derived.Lib.Hide
import Derived.Laws.StructEq
set_option linter.unusedVariables false
set_option linter.unusedSimpArgs false
set_option maxRecDepth 100000
set_option maxHeartbeats 12800000
namespace Go.Proofs.YtedpljclnpiggaaGreatDoor
section
open Go.RowKit
structure TermD where
 kind : Int
 n : Int
 a : Int
 b : Int
deriving DecidableEq
def i64ok (x : Int) : Prop := -9223372036854775808 ≤ x ∧ x ≤ 9223372036854775807
def TermD.ok (t : TermD) : Prop := (0 ≤ t.kind ∧ t.kind ≤ 255) ∧ i64ok t.n ∧ i64ok t.a ∧ i64ok t.b
def TermD.arr (t : TermD) : Array Value := #[.int .u8 t.kind, .int .i64 t.n, .int .i64 t.a, .int .i64 t.b]
def TermD.vals (t : TermD) : List Value := [.int .u8 t.kind, .int .i64 t.n, .int .i64 t.a, .int .i64 t.b]
def zeroT : TermD := ⟨0, 0, 0, 0⟩
def TermAt (w : World) (b o : Nat) (t : TermD) : Prop :=
 w.cell? ⟨b, o, none⟩ = some (.int .u8 t.kind) ∧ w.cell? ⟨b, o + 1, none⟩ = some (.int .i64 t.n) ∧ w.cell? ⟨b, o + 2, none⟩ = some (.int .i64 t.a) ∧ w.cell? ⟨b, o + 3, none⟩ = some (.int .i64 t.b)
def Terms (w : World) (a : Option Addr) (n : Nat) (f : Nat → TermD) : Prop := ∀ i, i < n → ∃ b o, a = some ⟨b, o, none⟩ ∧ TermAt w b (o + i * 4) (f i)
def thereD (m : Nat) (x : Int) : Bool := decide (1 ≤ x) && decide (x ≤ m)
def mayD (m : Nat) (t : TermD) : Bool :=
 if t.kind = 1 then decide (0 ≤ t.n) && decide (t.a = 0) && decide (t.b = 0)
 else if t.kind = 2 then decide (t.a = 0) && decide (t.b = 0)
 else if t.kind = 3 ∨ t.kind = 6 then decide (t.n = 0) && thereD m t.a && thereD m t.b
 else if t.kind = 4 then decide (0 ≤ t.n) && thereD m t.a && (thereD m t.b || decide (t.b = 0))
 else if t.kind = 5 ∨ t.kind = 7 then decide (t.n = 0) && thereD m t.a && decide (t.b = 0)
 else false
def makeN (L : List TermD) (t : TermD) : Int :=
 if mayD L.length t = false then 0 else if t ∈ L then (L.idxOf t : Int) + 1 else if 1048576 ≤ L.length then 0 else (L.length : Int) + 1
def makeE (L : List TermD) (t : TermD) : Int :=
 if mayD L.length t = false then 1 else if t ∈ L then 0 else if 1048576 ≤ L.length then 3 else 0
def makeL (L : List TermD) (t : TermD) : List TermD :=
 if mayD L.length t = false then L else if t ∈ L then L else if 1048576 ≤ L.length then L else L ++ [t]
structure Good (L : List TermD) : Prop where
 nodup : L.Nodup
 ok : ∀ t ∈ L, t.ok
 parts : ∀ (i : Nat) (t : TermD), L[i]? = some t → (0 ≤ t.a ∧ t.a ≤ i) ∧ (0 ≤ t.b ∧ t.b ≤ i)
theorem good_nil : Good [] := ⟨List.nodup_nil, fun _ h => by simp at h, fun i t h => by simp at h⟩
theorem tBd {m : Nat} {x : Int} (h : thereD m x = true) : 1 ≤ x ∧ x ≤ m := by
 unfold thereD at h
 simpa using h
theorem may_parts {m : Nat} {t : TermD} (h : mayD m t = true) : (0 ≤ t.a ∧ t.a ≤ m) ∧ (0 ≤ t.b ∧ t.b ≤ m) := by
 unfold mayD at h
 have hb := fun x => @tBd m x
 split at h
 · simp only [Bool.and_eq_true, decide_eq_true_eq] at h; omega
 · split at h
   · simp only [Bool.and_eq_true, decide_eq_true_eq] at h; omega
   · split at h
     · simp only [Bool.and_eq_true, decide_eq_true_eq] at h
       have h1 := hb _ h.1.2
       have h2 := hb _ h.2
       omega
     · split at h
       · simp only [Bool.and_eq_true, Bool.or_eq_true, decide_eq_true_eq] at h
         have h1 := hb _ h.1.2
         rcases h.2 with h2 | h2
         · have := hb _ h2; omega
         · omega
       · split at h
         · simp only [Bool.and_eq_true, decide_eq_true_eq] at h
           have h1 := hb _ h.1.2
           omega
         · cases h
theorem makeL_cases (L : List TermD) (t : TermD) : makeL L t = L ∨ (mayD L.length t = true ∧ t ∉ L ∧ L.length < 1048576 ∧ makeL L t = L ++ [t]) := by
 unfold makeL
 split
 · exact .inl rfl
 · rename_i hm
   split
   · exact .inl rfl
   · rename_i ht
     split
     · exact .inl rfl
     · rename_i hl
       exact .inr ⟨by simpa using hm, ht, by omega, rfl⟩
theorem Good.make {L : List TermD} {t : TermD} (h : Good L) (ht : t.ok) : Good (makeL L t) := by
 rcases makeL_cases L t with e | ⟨hm, hn, _, e⟩
 · rw [e]; exact h
 · rw [e]
   refine ⟨?_, fun s hs => ?_, fun i s hs => ?_⟩
   · rw [List.nodup_append]
     refine ⟨h.nodup, by simp, fun x hx y hy exy => ?_⟩
     have hyt : y = t := by simpa using hy
     rw [exy, hyt] at hx
     exact hn hx
   · rcases List.mem_append.1 hs with hs | hs
     · exact h.ok s hs
     · have : s = t := by simpa using hs
       rw [this]; exact ht
   · by_cases hi : i < L.length
     · rw [List.getElem?_append_left hi] at hs
       exact h.parts i s hs
     · rw [List.getElem?_append_right (by omega)] at hs
       have h0 : i - L.length = 0 := by
        have := (List.getElem?_eq_some_iff.1 hs).1
        simp at this
        omega
       rw [h0] at hs
       have : t = s := by simpa using hs
       subst this
       have := may_parts hm
       omega
theorem makeL_len (L : List TermD) (t : TermD) : L.length ≤ (makeL L t).length ∧ (makeL L t).length ≤ L.length + 1 := by
 rcases makeL_cases L t with e | ⟨_, _, _, e⟩ <;> rw [e] <;> simp
theorem makeN_bounds (L : List TermD) (t : TermD) : 0 ≤ makeN L t ∧ makeN L t ≤ (makeL L t).length := by
 unfold makeN makeL
 split
 · simp
 · split
   · rename_i h
     have := List.idxOf_lt_length_of_mem h
     omega
   · split
     · simp
     · simp; omega
theorem make_there {L : List TermD} (h : Good L) {i : Nat} {t : TermD} (hi : L[i]? = some t) (hm : mayD L.length t = true) : makeN L t = (i : Int) + 1 ∧ makeE L t = 0 ∧ makeL L t = L := by
 have hmem : t ∈ L := List.mem_of_getElem? hi
 have hidx : L.idxOf t = i := by
  have hlt := (List.getElem?_eq_some_iff.1 hi).1
  have hj := List.idxOf_lt_length_of_mem hmem
  have e1 : L[L.idxOf t]'hj = t := List.getElem_idxOf hj
  have e2 : L[i]'hlt = t := (List.getElem?_eq_some_iff.1 hi).2
  have hp := List.pairwise_iff_getElem.1 h.nodup
  rcases Nat.lt_trichotomy (L.idxOf t) i with h1 | h1 | h1
  · exact absurd (e1.trans e2.symm) (hp _ _ hj hlt h1)
  · exact h1
  · exact absurd (e2.trans e1.symm) (hp _ _ hlt hj h1)
 have hm' : ¬ mayD L.length t = false := by rw [hm]; simp
 unfold makeN makeE makeL
 rw [if_neg hm', if_pos hmem, if_neg hm', if_pos hmem, if_neg hm', if_pos hmem, hidx]
 exact ⟨rfl, rfl, rfl⟩
theorem flat4 (d : TermD) (l : List TermD) (i j : Nat) (hi : i < l.length) (hj : j < 4) : (l.flatMap TermD.vals)[i * 4 + j]? = (l.getD i d).vals[j]? := by
 induction l generalizing i with
 | nil => simp at hi
 | cons x r ih =>
  cases i with
  | zero => rw [List.flatMap_cons, List.getElem?_append_left (by simp [TermD.vals]; omega)]; simp
  | succ i =>
   rw [List.flatMap_cons, List.getElem?_append_right (by simp [TermD.vals]; omega), show (i + 1) * 4 + j - x.vals.length = i * 4 + j by simp [TermD.vals]; omega, ih i (by simpa using hi)]
   simp
theorem four_one (t : TermD) : ∀ u ∈ t.vals, u.oneCell' = true := by
 intro u hu
 simp only [TermD.vals, List.mem_cons, List.not_mem_nil, or_false] at hu
 rcases hu with rfl | rfl | rfl | rfl <;> rfl
theorem eq_term (k n a b k' n' a' b' : Int) (w : World) : (Op.equalIn 10000 107 (.agg #[.int .u8 k, .int .i64 n, .int .i64 a, .int .i64 b]) (.agg #[.int .u8 k', .int .i64 n', .int .i64 a', .int .i64 b'])).run Tryz.prog w =
    .ok (decide ((⟨k, n, a, b⟩ : TermD) = ⟨k', n', a', b'⟩)) w := by
 rw [run_equalIn_struct (P := Tryz.prog) w 9999 _ _ _ (by kernel_rfl) (by kernel_rfl)]
 simp only [Program.fieldsOf, Tryz.underlying107, TermD.mk.injEq]
 simp [Op.eqFields, go_sem]
 by_cases h0 : k = k' <;> by_cases h1 : n = n' <;> by_cases h2 : a = a' <;> by_cases h3 : b = b' <;> simp [h0, h1, h2, h3]
theorem binop_eql_term (s t : TermD) (w : World) : (binOp .eql 107 (.agg #[.int .u8 s.kind, .int .i64 s.n, .int .i64 s.a, .int .i64 s.b]) (.agg #[.int .u8 t.kind, .int .i64 t.n, .int .i64 t.a, .int .i64 t.b])).run Tryz.prog w = .ok (.bool (decide (s = t))) w := by
 rw [run_eql_struct, eq_term]; rfl
end
section
def kdfT (label secret : Int) : TermD := ⟨4, label, secret, 0⟩
def pubT (key : Int) : TermD := ⟨5, 0, key, 0⟩
theorem there_mono {m m' : Nat} {x : Int} (h : thereD m x = true) (hm : m ≤ m') : thereD m' x = true := by
 have := tBd h
 unfold thereD
 simp
 omega
theorem may_kdf {m : Nat} {label x : Int} (h0 : 0 ≤ label) (hx : thereD m x = true) : mayD m (kdfT label x) = true := by
 simp [mayD, kdfT, h0, hx]
theorem may_pub {m : Nat} {x : Int} (hx : thereD m x = true) : mayD m (pubT x) = true := by
 simp [mayD, pubT, hx]
theorem make_ok {L : List TermD} {t : TermD} (hm : mayD L.length t = true) (hl : L.length < 1048576) : makeE L t = 0 ∧ thereD (makeL L t).length (makeN L t) = true := by
 have hm' : ¬ mayD L.length t = false := by rw [hm]; simp
 unfold makeE makeN makeL
 rw [if_neg hm', if_neg hm', if_neg hm']
 by_cases h : t ∈ L
 · rw [if_pos h, if_pos h, if_pos h]
   have := List.idxOf_lt_length_of_mem h
   refine ⟨rfl, ?_⟩
   unfold thereD
   simp
   omega
 · have hl' : ¬ 1048576 ≤ L.length := by omega
   rw [if_neg h, if_neg h, if_neg h, if_neg hl', if_neg hl', if_neg hl']
   refine ⟨rfl, ?_⟩
   unfold thereD
   simp
   omega
theorem kdf_ok {label x : Int} (h : i64ok label) (hx : i64ok x) : (kdfT label x).ok := ⟨by simp [kdfT], h, hx, by simp [kdfT, i64ok]⟩
theorem pub_ok {x : Int} (hx : i64ok x) : (pubT x).ok := ⟨by simp [pubT], by simp [pubT, i64ok], hx, by simp [pubT, i64ok]⟩
theorem there_i64 {m : Nat} {x : Int} (h : thereD m x = true) (hm : m ≤ 2000000) : i64ok x := by
 have := tBd h
 unfold i64ok
 omega
def secGo : Nat → List TermD → Int → List Int
 | 0, _, _ => []
 | k + 1, L, x => makeN L (kdfT 1 x) :: secGo k (makeL L (kdfT 1 x)) (makeN L (kdfT 1 x))
def secEnd : Nat → List TermD → Int → List TermD
 | 0, L, _ => L
 | k + 1, L, x => secEnd k (makeL L (kdfT 1 x)) (makeN L (kdfT 1 x))
theorem secGo_len : ∀ (k : Nat) (L : List TermD) (x : Int), (secGo k L x).length = k
 | 0, _, _ => rfl
 | k + 1, L, x => by unfold secGo; rw [List.length_cons, secGo_len k]
theorem secEnd_len : ∀ (k : Nat) (L : List TermD) (x : Int), L.length ≤ (secEnd k L x).length ∧ (secEnd k L x).length ≤ L.length + k
 | 0, _, _ => by simp [secEnd]
 | k + 1, L, x => by
  unfold secEnd
  have h := secEnd_len k (makeL L (kdfT 1 x)) (makeN L (kdfT 1 x))
  have h1 := makeL_len L (kdfT 1 x)
  omega
theorem secGo_there : ∀ (k : Nat) (L : List TermD) (x : Int), thereD L.length x = true → L.length + k < 1048576 → ∀ y ∈ secGo k L x, thereD (secEnd k L x).length y = true
 | 0, _, _, _, _ => by simp [secGo]
 | k + 1, L, x, hx, hl => by
  intro y hy
  have hm := make_ok (may_kdf (label := 1) (by omega) hx) (by omega : L.length < 1048576)
  have h1 := makeL_len L (kdfT 1 x)
  have h2 := secEnd_len k (makeL L (kdfT 1 x)) (makeN L (kdfT 1 x))
  unfold secGo at hy
  unfold secEnd
  rcases List.mem_cons.1 hy with rfl | hy
  · exact there_mono hm.2 h2.1
  · exact secGo_there k _ _ hm.2 (by omega) y hy
theorem secEnd_good : ∀ (k : Nat) (L : List TermD) (x : Int), Good L → thereD L.length x = true → L.length + k < 1048576 → Good (secEnd k L x)
 | 0, _, _, h, _, _ => h
 | k + 1, L, x, h, hx, hl => by
  have hm := make_ok (may_kdf (label := 1) (by omega) hx) (by omega : L.length < 1048576)
  have h1 := makeL_len L (kdfT 1 x)
  unfold secEnd
  exact secEnd_good k _ _ (h.make (kdf_ok (by simp [i64ok]) (there_i64 hx (by omega)))) hm.2 (by omega)
def sBd (L : List TermD) (seed many : Int) : Bool := decide (many < 0) || decide (16 < many) || !thereD L.length seed
def secretsL (L : List TermD) (seed many : Int) : List Int := if sBd L seed many then [] else seed :: secGo many.toNat L seed
def secretsE (L : List TermD) (seed many : Int) : Int := if sBd L seed many then 1 else 0
def secretsT (L : List TermD) (seed many : Int) : List TermD := if sBd L seed many then L else secEnd many.toNat L seed
def nodeK (L : List TermD) (x : Int) : Int := if thereD L.length x then makeN L (kdfT 2 x) else 0
def nodeP (L : List TermD) (x : Int) : Int := if thereD L.length x then makeN (makeL L (kdfT 2 x)) (pubT (makeN L (kdfT 2 x))) else 0
def nodeE (L : List TermD) (x : Int) : Int := if thereD L.length x then 0 else 1
def nodeT (L : List TermD) (x : Int) : List TermD := if thereD L.length x then makeL (makeL L (kdfT 2 x)) (pubT (makeN L (kdfT 2 x))) else L
theorem secrets_facts {L : List TermD} {seed many : Int} (h : Good L) (hl : L.length ≤ 4000) : Good (secretsT L seed many) ∧ (secretsT L seed many).length ≤ L.length + 16 ∧ (∀ y ∈ secretsL L seed many, thereD (secretsT L seed many).length y = true) ∧ L.length ≤ (secretsT L seed many).length := by
 unfold secretsT secretsL
 cases hb : sBd L seed many
 · have hb' := hb
   unfold sBd at hb'
   simp only [Bool.or_eq_false_iff, decide_eq_false_iff_not, Bool.not_eq_false'] at hb'
   obtain ⟨⟨h0, h1⟩, h2⟩ := hb'
   have hlen := secEnd_len many.toNat L seed
   simp only [Bool.false_eq_true, if_false]
   refine ⟨secEnd_good _ _ _ h h2 (by omega), by omega, fun y hy => ?_, hlen.1⟩
   rcases List.mem_cons.1 hy with rfl | hy
   · exact there_mono h2 hlen.1
   · exact secGo_there _ _ _ h2 (by omega) y hy
 · simp only [if_true]
   exact ⟨h, by omega, by simp, Nat.le_refl _⟩
theorem node_facts {L : List TermD} {x : Int} (h : Good L) (hl : L.length ≤ 5000) : Good (nodeT L x) ∧ (nodeT L x).length ≤ L.length + 2 ∧ L.length ≤ (nodeT L x).length ∧ (0 ≤ nodeK L x ∧ nodeK L x ≤ (nodeT L x).length) ∧ (0 ≤ nodeP L x ∧ nodeP L x ≤ (nodeT L x).length) := by
 unfold nodeT nodeK nodeP
 cases hx : thereD L.length x
 · simp only [Bool.false_eq_true, if_false]
   exact ⟨h, by omega, Nat.le_refl _, by omega, by omega⟩
 · simp only [if_true]
   have hm := make_ok (may_kdf (label := 2) (by omega) hx) (by omega : L.length < 1048576)
   have h1 := makeL_len L (kdfT 2 x)
   have h2 := makeL_len (makeL L (kdfT 2 x)) (pubT (makeN L (kdfT 2 x)))
   have hb1 := makeN_bounds L (kdfT 2 x)
   have hb2 := makeN_bounds (makeL L (kdfT 2 x)) (pubT (makeN L (kdfT 2 x)))
   refine ⟨(h.make (kdf_ok (by simp [i64ok]) (there_i64 hx (by omega)))).make (pub_ok (there_i64 hm.2 (by omega))), by omega, by omega, by omega, by omega⟩
def buildL (l : List TermD) : List TermD := l.foldl makeL []
theorem buildL_snoc (l : List TermD) (t : TermD) : buildL (l ++ [t]) = makeL (buildL l) t := by unfold buildL; rw [List.foldl_append]; rfl
theorem fold_facts : ∀ (l L : List TermD), Good L → (∀ t ∈ l, t.ok) → Good (l.foldl makeL L) ∧ (l.foldl makeL L).length ≤ L.length + l.length
 | [], L, h, _ => ⟨h, by simp⟩
 | t :: l, L, h, hl => by
  rw [List.foldl_cons]
  have h1 := fold_facts l (makeL L t) (h.make (hl t (by simp))) (fun s hs => hl s (by simp [hs]))
  have h2 := makeL_len L t
  refine ⟨h1.1, ?_⟩
  simp
  omega
theorem buildL_facts (l : List TermD) (h : ∀ t ∈ l, t.ok) : Good (buildL l) ∧ (buildL l).length ≤ l.length := by
 have := fold_facts l [] good_nil h
 simpa [buildL] using this
end
section
abbrev KeyP := Int × Int
def putD : List KeyP → KeyP → List KeyP
 | [], k => [k]
 | x :: r, k => if k.1 < x.1 then k :: x :: r else if k.1 = x.1 then k :: r else x :: putD r k
def rsD (l : List KeyP) : List KeyP := l.foldl putD []
def RisingK (l : List KeyP) : Prop := l.Pairwise (fun a b => a.1 < b.1)
theorem mem_putD : ∀ (l : List KeyP) (k : KeyP), RisingK l → ∀ p, p ∈ putD l k ↔ p = k ∨ (p ∈ l ∧ p.1 ≠ k.1)
 | [], k, _, p => by simp [putD]
 | x :: r, k, h, p => by
  have hx := (List.pairwise_cons.1 h).1
  have hr := (List.pairwise_cons.1 h).2
  unfold putD
  split
  · rename_i h1
    constructor
    · intro hp
      rcases List.mem_cons.1 hp with rfl | hp
      · exact .inl rfl
      · refine .inr ⟨hp, ?_⟩
        rcases List.mem_cons.1 hp with rfl | hp
        · omega
        · have := hx p hp; omega
    · rintro (rfl | ⟨hp, _⟩)
      · simp
      · exact List.mem_cons_of_mem _ hp
  · rename_i h1
    split
    · rename_i h2
      constructor
      · intro hp
        rcases List.mem_cons.1 hp with rfl | hp
        · exact .inl rfl
        · have := hx p hp
          exact .inr ⟨List.mem_cons_of_mem _ hp, by omega⟩
      · rintro (rfl | ⟨hp, hne⟩)
        · simp
        · rcases List.mem_cons.1 hp with rfl | hp
          · exact absurd h2.symm hne
          · exact List.mem_cons_of_mem _ hp
    · rename_i h2
      rw [List.mem_cons, mem_putD r k hr p, List.mem_cons]
      constructor
      · rintro (rfl | rfl | ⟨hp, hne⟩)
        · exact .inr ⟨.inl rfl, by omega⟩
        · exact .inl rfl
        · exact .inr ⟨.inr hp, hne⟩
      · rintro (rfl | ⟨rfl | hp, hne⟩)
        · exact .inr (.inl rfl)
        · exact .inl rfl
        · exact .inr (.inr ⟨hp, hne⟩)
theorem rising_putD : ∀ (l : List KeyP) (k : KeyP), RisingK l → RisingK (putD l k)
 | [], k, _ => by simp [putD, RisingK]
 | x :: r, k, h => by
  have hx := (List.pairwise_cons.1 h).1
  have hr := (List.pairwise_cons.1 h).2
  unfold putD
  split
  · rename_i h1
    refine List.pairwise_cons.2 ⟨fun p hp => ?_, h⟩
    rcases List.mem_cons.1 hp with rfl | hp
    · exact h1
    · have := hx p hp; omega
  · rename_i h1
    split
    · rename_i h2
      exact List.pairwise_cons.2 ⟨fun p hp => by have := hx p hp; omega, hr⟩
    · rename_i h2
      refine List.pairwise_cons.2 ⟨fun p hp => ?_, rising_putD r k hr⟩
      rcases (mem_putD r k hr p).1 hp with rfl | ⟨hp, _⟩
      · omega
      · exact hx p hp
theorem risingD_snoc (l : List KeyP) (k : KeyP) : rsD (l ++ [k]) = putD (rsD l) k := by unfold rsD; rw [List.foldl_append]; rfl
theorem fold_rising : ∀ (l m : List KeyP), RisingK m → RisingK (l.foldl putD m)
 | [], _, h => h
 | k :: l, m, h => by rw [List.foldl_cons]; exact fold_rising l _ (rising_putD m k h)
theorem rising_risingD (l : List KeyP) : RisingK (rsD l) := fold_rising l [] List.Pairwise.nil
theorem putD_len : ∀ (l : List KeyP) (k : KeyP), (putD l k).length ≤ l.length + 1
 | [], k => by simp [putD]
 | x :: r, k => by
  unfold putD
  have := putD_len r k
  split
  · simp
  · split
    · simp
    · simp; omega
theorem fold_putD_len : ∀ (l m : List KeyP), (l.foldl putD m).length ≤ m.length + l.length
 | [], m => by simp
 | k :: l, m => by
  rw [List.foldl_cons]
  have h1 := fold_putD_len l (putD m k)
  have h2 := putD_len m k
  simp
  omega
theorem risingD_len (l : List KeyP) : (rsD l).length ≤ l.length := by have := fold_putD_len l []; simpa [rsD] using this
theorem RisingK.one : ∀ {l : List KeyP}, RisingK l → ∀ {p q : KeyP}, p ∈ l → q ∈ l → p.1 = q.1 → p = q
 | [], _, _, _, hp, _, _ => by simp at hp
 | x :: r, h, p, q, hp, hq, e => by
  have hx := (List.pairwise_cons.1 h).1
  have hr := (List.pairwise_cons.1 h).2
  rcases List.mem_cons.1 hp with hp1 | hp1
  · rcases List.mem_cons.1 hq with hq1 | hq1
    · rw [hp1, hq1]
    · have := hx q hq1; rw [hp1] at e; omega
  · rcases List.mem_cons.1 hq with hq1 | hq1
    · have := hx p hp1; rw [hq1] at e; omega
    · exact RisingK.one hr hp1 hq1 e
theorem rising_ext {l m : List KeyP} (hl : RisingK l) (hm : RisingK m) (h : ∀ p, p ∈ l ↔ p ∈ m) : l = m := by
 have nd : ∀ {l : List KeyP}, RisingK l → l.Nodup := fun h => h.imp (fun hab e => by rw [e] at hab; omega)
 have hp : l.Perm m := (List.perm_ext_iff_of_nodup (nd hl) (nd hm)).2 h
 exact List.Perm.eq_of_pairwise (le := fun a b : KeyP => a.1 < b.1) (fun a b _ _ h1 h2 => by omega) hl hm hp
def hasNode (l : List KeyP) (n : Int) : Bool := l.any (fun p => decide (p.1 = n))
theorem hasNode_iff {l : List KeyP} {n : Int} : hasNode l n = true ↔ ∃ s, (n, s) ∈ l := by
 unfold hasNode
 rw [List.any_eq_true]
 constructor
 · rintro ⟨p, hp, e⟩
   have : p.1 = n := by simpa using e
   exact ⟨p.2, by rw [← this]; exact hp⟩
 · rintro ⟨s, hs⟩
   exact ⟨_, hs, by simp⟩
theorem hasNode_put {l : List KeyP} {k : KeyP} (h : RisingK l) (n : Int) : hasNode (putD l k) n = (decide (n = k.1) || hasNode l n) := by
 rw [Bool.eq_iff_iff, hasNode_iff, Bool.or_eq_true, hasNode_iff, decide_eq_true_eq]
 constructor
 · rintro ⟨s, hs⟩
   rcases (mem_putD l k h _).1 hs with e | ⟨hs, _⟩
   · exact .inl (congrArg Prod.fst e)
   · exact .inr ⟨s, hs⟩
 · rintro (rfl | ⟨s, hs⟩)
   · exact ⟨k.2, (mem_putD l k h _).2 (.inl rfl)⟩
   · by_cases hn : n = k.1
     · subst hn; exact ⟨k.2, (mem_putD l k h _).2 (.inl rfl)⟩
     · exact ⟨s, (mem_putD l k h _).2 (.inr ⟨hs, hn⟩)⟩
end
section
def AllMay (L : List TermD) : Prop := ∀ t ∈ L, mayD L.length t = true
theorem may_mono {m m' : Nat} {t : TermD} (h : mayD m t = true) (hm : m ≤ m') : mayD m' t = true := by
 have hb : ∀ x, thereD m x = true → thereD m' x = true := fun x hx => there_mono hx hm
 unfold mayD at h ⊢
 split at h
 · rename_i e; rw [if_pos e]; exact h
 · rename_i e1; rw [if_neg e1]
   split at h
   · rename_i e; rw [if_pos e]; exact h
   · rename_i e2; rw [if_neg e2]
     split at h
     · rename_i e; rw [if_pos e]
       simp only [Bool.and_eq_true] at h ⊢
       exact ⟨⟨h.1.1, hb _ h.1.2⟩, hb _ h.2⟩
     · rename_i e3; rw [if_neg e3]
       split at h
       · rename_i e; rw [if_pos e]
         simp only [Bool.and_eq_true, Bool.or_eq_true] at h ⊢
         exact ⟨⟨h.1.1, hb _ h.1.2⟩, h.2.imp (hb _) id⟩
       · rename_i e4; rw [if_neg e4]
         split at h
         · rename_i e; rw [if_pos e]
           simp only [Bool.and_eq_true] at h ⊢
           exact ⟨⟨h.1.1, hb _ h.1.2⟩, h.2⟩
         · cases h
theorem AllMay.make {L : List TermD} (h : AllMay L) (t : TermD) : AllMay (makeL L t) := by
 rcases makeL_cases L t with e | ⟨hm, _, _, e⟩
 · rw [e]; exact h
 · rw [e]
   intro s hs
   rw [List.length_append]
   rcases List.mem_append.1 hs with hs | hs
   · exact may_mono (h s hs) (by omega)
   · have : s = t := by simpa using hs
     rw [this]; exact may_mono hm (by omega)
theorem fold_may : ∀ (l L : List TermD), AllMay L → AllMay (l.foldl makeL L)
 | [], _, h => h
 | t :: l, L, h => by rw [List.foldl_cons]; exact fold_may l _ (h.make t)
theorem buildL_may (l : List TermD) : AllMay (buildL l) := fold_may l [] (fun _ h => by simp at h)
theorem secEnd_may : ∀ (k : Nat) (L : List TermD) (x : Int), AllMay L → AllMay (secEnd k L x)
 | 0, _, _, h => h
 | k + 1, L, x, h => by unfold secEnd; exact secEnd_may k _ _ (h.make _)
theorem secretsT_may {L : List TermD} (seed many : Int) (h : AllMay L) : AllMay (secretsT L seed many) := by
 unfold secretsT
 split
 · exact h
 · exact secEnd_may _ _ _ h
theorem nodeT_may {L : List TermD} (x : Int) (h : AllMay L) : AllMay (nodeT L x) := by
 unfold nodeT
 split
 · exact (h.make _).make _
 · exact h
end
section
def climb : Nat → List TermD → Int → List TermD × Int
 | 0, L, s => (L, s)
 | k + 1, L, s => (makeL (nodeT (climb k L s).1 (climb k L s).2) (kdfT 1 (climb k L s).2), makeN (nodeT (climb k L s).1 (climb k L s).2) (kdfT 1 (climb k L s).2))
theorem putD_all_lt : ∀ (p : List KeyP) (k : KeyP), (∀ x ∈ p, x.1 < k.1) → putD p k = p ++ [k]
 | [], k, _ => rfl
 | x :: r, k, h => by
  have hx := h x (by simp)
  unfold putD
  rw [if_neg (by omega), if_neg (by omega), putD_all_lt r k (fun y hy => h y (by simp [hy]))]
  rfl
theorem putD_snoc_eq : ∀ (p : List KeyP) (x k : KeyP), (∀ y ∈ p, y.1 < k.1) → x.1 = k.1 → putD (p ++ [x]) k = p ++ [k]
 | [], x, k, _, e => by simp [putD, e]
 | y :: r, x, k, h, e => by
  have hy := h y (by simp)
  rw [List.cons_append]
  unfold putD
  rw [if_neg (by omega), if_neg (by omega), putD_snoc_eq r x k (fun z hz => h z (by simp [hz])) e]
  rfl
theorem putD_snoc_gt : ∀ (p : List KeyP) (x k : KeyP), (∀ y ∈ p, y.1 < k.1) → k.1 < x.1 → putD (p ++ [x]) k = p ++ [k, x]
 | [], x, k, _, e => by simp [putD, e]
 | y :: r, x, k, h, e => by
  have hy := h y (by simp)
  rw [List.cons_append]
  unfold putD
  rw [if_neg (by omega), if_neg (by omega), putD_snoc_gt r x k (fun z hz => h z (by simp [hz])) e]
  rfl
theorem putD_snoc_done : ∀ (p : List KeyP) (x k : KeyP), (∃ y ∈ p, k.1 ≤ y.1) → putD (p ++ [x]) k = putD p k ++ [x]
 | [], x, k, h => by obtain ⟨y, hy, _⟩ := h; simp at hy
 | y :: r, x, k, h => by
  rw [List.cons_append]
  unfold putD
  by_cases h1 : k.1 < y.1
  · rw [if_pos h1, if_pos h1]; rfl
  · rw [if_neg h1, if_neg h1]
    by_cases h2 : k.1 = y.1
    · rw [if_pos h2, if_pos h2]; rfl
    · rw [if_neg h2, if_neg h2, putD_snoc_done r x k (by
        obtain ⟨z, hz, hk⟩ := h
        rcases List.mem_cons.1 hz with rfl | hz
        · omega
        · exact ⟨z, hz, hk⟩)]
      rfl
end
end Go.Proofs.YtedpljclnpiggaaGreatDoor
