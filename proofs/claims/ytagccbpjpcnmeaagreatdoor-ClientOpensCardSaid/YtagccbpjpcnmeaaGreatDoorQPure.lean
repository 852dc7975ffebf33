/-
  Paths' secrets as data: what a row of derivations does to a list of terms.
-/
import Derived.Test.YtagccbpjpcnmeaaGreatDoorQTerm
set_option linter.unusedVariables false
set_option linter.unusedSimpArgs false
namespace Go.Proofs.YtagccbpjpcnmeaaGreatDoor

def kdfT (label secret : Int) : TermD := ⟨4, label, secret, 0⟩
def pubT (key : Int) : TermD := ⟨5, 0, key, 0⟩

theorem there_mono {m m' : Nat} {x : Int} (h : thereD m x = true) (hm : m ≤ m') : thereD m' x = true := by
  have := there_bounds h
  unfold thereD
  simp
  omega

theorem may_kdf {m : Nat} {label x : Int} (h0 : 0 ≤ label) (hx : thereD m x = true) : mayD m (kdfT label x) = true := by
  simp [mayD, kdfT, h0, hx]
theorem may_pub {m : Nat} {x : Int} (hx : thereD m x = true) : mayD m (pubT x) = true := by
  simp [mayD, pubT, hx]

theorem make_ok {L : List TermD} {t : TermD} (hm : mayD L.length t = true) (hl : L.length < 1048576) : makeE L t = 0 ∧ thereD (makeL L t).length (makeN L t) = true := by
  have hm' : ¬ mayD L.length t = false := by rw [hm]; simp
  unfold makeE makeN makeL
  rw [if_neg hm', if_neg hm', if_neg hm']
  by_cases h : t ∈ L
  · rw [if_pos h, if_pos h, if_pos h]
    have := List.idxOf_lt_length_of_mem h
    refine ⟨rfl, ?_⟩
    unfold thereD
    simp
    omega
  · have hl' : ¬ 1048576 ≤ L.length := by omega
    rw [if_neg h, if_neg h, if_neg h, if_neg hl', if_neg hl', if_neg hl']
    refine ⟨rfl, ?_⟩
    unfold thereD
    simp
    omega

theorem kdf_ok {label x : Int} (h : i64ok label) (hx : i64ok x) : (kdfT label x).ok := ⟨by simp [kdfT], h, hx, by simp [kdfT, i64ok]⟩
theorem pub_ok {x : Int} (hx : i64ok x) : (pubT x).ok := ⟨by simp [pubT], by simp [pubT, i64ok], hx, by simp [pubT, i64ok]⟩
theorem there_i64 {m : Nat} {x : Int} (h : thereD m x = true) (hm : m ≤ 2000000) : i64ok x := by
  have := there_bounds h
  unfold i64ok
  omega

/-- So many derivations, one behind the other. -/
def secGo : Nat → List TermD → Int → List Int
  | 0, _, _ => []
  | k + 1, L, x => makeN L (kdfT 1 x) :: secGo k (makeL L (kdfT 1 x)) (makeN L (kdfT 1 x))
def secEnd : Nat → List TermD → Int → List TermD
  | 0, L, _ => L
  | k + 1, L, x => secEnd k (makeL L (kdfT 1 x)) (makeN L (kdfT 1 x))

theorem secGo_len : ∀ (k : Nat) (L : List TermD) (x : Int), (secGo k L x).length = k
  | 0, _, _ => rfl
  | k + 1, L, x => by unfold secGo; rw [List.length_cons, secGo_len k]

theorem secEnd_len : ∀ (k : Nat) (L : List TermD) (x : Int), L.length ≤ (secEnd k L x).length ∧ (secEnd k L x).length ≤ L.length + k
  | 0, _, _ => by simp [secEnd]
  | k + 1, L, x => by
    unfold secEnd
    have h := secEnd_len k (makeL L (kdfT 1 x)) (makeN L (kdfT 1 x))
    have h1 := makeL_len L (kdfT 1 x)
    omega

theorem secGo_there : ∀ (k : Nat) (L : List TermD) (x : Int), thereD L.length x = true → L.length + k < 1048576 → ∀ y ∈ secGo k L x, thereD (secEnd k L x).length y = true
  | 0, _, _, _, _ => by simp [secGo]
  | k + 1, L, x, hx, hl => by
    intro y hy
    have hm := make_ok (may_kdf (label := 1) (by omega) hx) (by omega : L.length < 1048576)
    have h1 := makeL_len L (kdfT 1 x)
    have h2 := secEnd_len k (makeL L (kdfT 1 x)) (makeN L (kdfT 1 x))
    unfold secGo at hy
    unfold secEnd
    rcases List.mem_cons.1 hy with rfl | hy
    · exact there_mono hm.2 h2.1
    · exact secGo_there k _ _ hm.2 (by omega) y hy

theorem secEnd_good : ∀ (k : Nat) (L : List TermD) (x : Int), Good L → thereD L.length x = true → L.length + k < 1048576 → Good (secEnd k L x)
  | 0, _, _, h, _, _ => h
  | k + 1, L, x, h, hx, hl => by
    have hm := make_ok (may_kdf (label := 1) (by omega) hx) (by omega : L.length < 1048576)
    have h1 := makeL_len L (kdfT 1 x)
    unfold secEnd
    exact secEnd_good k _ _ (h.make (kdf_ok (by simp [i64ok]) (there_i64 hx (by omega)))) hm.2 (by omega)

/-- What path.Secrets answers. -/
def secretsBad (L : List TermD) (seed many : Int) : Bool := decide (many < 0) || decide (16 < many) || !thereD L.length seed
def secretsL (L : List TermD) (seed many : Int) : List Int := if secretsBad L seed many then [] else seed :: secGo many.toNat L seed
def secretsE (L : List TermD) (seed many : Int) : Int := if secretsBad L seed many then 1 else 0
def secretsT (L : List TermD) (seed many : Int) : List TermD := if secretsBad L seed many then L else secEnd many.toNat L seed

/-- What path.Node answers. -/
def nodeK (L : List TermD) (x : Int) : Int := if thereD L.length x then makeN L (kdfT 2 x) else 0
def nodeP (L : List TermD) (x : Int) : Int := if thereD L.length x then makeN (makeL L (kdfT 2 x)) (pubT (makeN L (kdfT 2 x))) else 0
def nodeE (L : List TermD) (x : Int) : Int := if thereD L.length x then 0 else 1
def nodeT (L : List TermD) (x : Int) : List TermD := if thereD L.length x then makeL (makeL L (kdfT 2 x)) (pubT (makeN L (kdfT 2 x))) else L

theorem secrets_facts {L : List TermD} {seed many : Int} (h : Good L) (hl : L.length ≤ 4000) : Good (secretsT L seed many) ∧ (secretsT L seed many).length ≤ L.length + 16 ∧ (∀ y ∈ secretsL L seed many, thereD (secretsT L seed many).length y = true) ∧ L.length ≤ (secretsT L seed many).length := by
  unfold secretsT secretsL
  cases hb : secretsBad L seed many
  · have hb' := hb
    unfold secretsBad at hb'
    simp only [Bool.or_eq_false_iff, decide_eq_false_iff_not, Bool.not_eq_false'] at hb'
    obtain ⟨⟨h0, h1⟩, h2⟩ := hb'
    have hlen := secEnd_len many.toNat L seed
    simp only [Bool.false_eq_true, if_false]
    refine ⟨secEnd_good _ _ _ h h2 (by omega), by omega, fun y hy => ?_, hlen.1⟩
    rcases List.mem_cons.1 hy with rfl | hy
    · exact there_mono h2 hlen.1
    · exact secGo_there _ _ _ h2 (by omega) y hy
  · simp only [if_true]
    exact ⟨h, by omega, by simp, Nat.le_refl _⟩

theorem node_facts {L : List TermD} {x : Int} (h : Good L) (hl : L.length ≤ 5000) : Good (nodeT L x) ∧ (nodeT L x).length ≤ L.length + 2 ∧ L.length ≤ (nodeT L x).length ∧ (0 ≤ nodeK L x ∧ nodeK L x ≤ (nodeT L x).length) ∧ (0 ≤ nodeP L x ∧ nodeP L x ≤ (nodeT L x).length) := by
  unfold nodeT nodeK nodeP
  cases hx : thereD L.length x
  · simp only [Bool.false_eq_true, if_false]
    exact ⟨h, by omega, Nat.le_refl _, by omega, by omega⟩
  · simp only [if_true]
    have hm := make_ok (may_kdf (label := 2) (by omega) hx) (by omega : L.length < 1048576)
    have h1 := makeL_len L (kdfT 2 x)
    have h2 := makeL_len (makeL L (kdfT 2 x)) (pubT (makeN L (kdfT 2 x)))
    have hb1 := makeN_bounds L (kdfT 2 x)
    have hb2 := makeN_bounds (makeL L (kdfT 2 x)) (pubT (makeN L (kdfT 2 x)))
    refine ⟨(h.make (kdf_ok (by simp [i64ok]) (there_i64 hx (by omega)))).make (pub_ok (there_i64 hm.2 (by omega))), by omega, by omega, by omega, by omega⟩

/-- What a row of Makes does. -/
def buildL (l : List TermD) : List TermD := l.foldl makeL []
theorem buildL_snoc (l : List TermD) (t : TermD) : buildL (l ++ [t]) = makeL (buildL l) t := by unfold buildL; rw [List.foldl_append]; rfl
theorem fold_facts : ∀ (l L : List TermD), Good L → (∀ t ∈ l, t.ok) → Good (l.foldl makeL L) ∧ (l.foldl makeL L).length ≤ L.length + l.length
  | [], L, h, _ => ⟨h, by simp⟩
  | t :: l, L, h, hl => by
    rw [List.foldl_cons]
    have h1 := fold_facts l (makeL L t) (h.make (hl t (by simp))) (fun s hs => hl s (by simp [hs]))
    have h2 := makeL_len L t
    refine ⟨h1.1, ?_⟩
    simp
    omega
theorem buildL_facts (l : List TermD) (h : ∀ t ∈ l, t.ok) : Good (buildL l) ∧ (buildL l).length ≤ l.length := by
  have := fold_facts l [] good_nil h
  simpa [buildL] using this
end Go.Proofs.YtagccbpjpcnmeaaGreatDoor
