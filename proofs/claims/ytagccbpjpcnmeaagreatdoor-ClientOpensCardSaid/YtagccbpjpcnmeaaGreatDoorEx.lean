/-
  An executor of closed calls: it runs a function of the program over memory whose blocks bear names of its own, whatever the order of a region and whatever room append makes. (The definitions alone.)
-/
import Derived.WalkKit
import Derived.Orders
set_option linter.unusedVariables false
set_option linter.unusedSimpArgs false
namespace Go.Proofs.YtagccbpjpcnmeaaGreatDoor.Ex
open Go
noncomputable section

/-- How much room a slice has: so much, or that of the row k less d. -/
inductive Cap where
  | exact (n : Nat)
  | var (k d : Nat)

/-- A value, its blocks by the executor's names. -/
inductive AVal where
  | s (v : Value)
  | ptr (b off : Nat)
  | slice (b off len : Nat) (cap : Cap)
  | map (b : Nat)
  | func (fn : Fn) (first captured : List AVal)
  | iface (t : TypeId) (v : AVal)
  | agg (cells : List AVal)
  | tuple (vs : List AVal)
  | sym (k : IntKind) (x : Nat)
  | opq (k : Nat)

/-- A term that was made: in which store, of what, and the name of its number. -/
structure HEnt where
  st : Nat
  t : List AVal
  x : Nat

/-- A block: cells; cells at the beginning of a row of unknown room; a map; a walk through a map; one that nobody may look at. -/
inductive ABlk where
  | cells (vs : List AVal) (t : TypeId)
  | row (vs : List AVal) (t : TypeId) (k z : Nat)
  | map (es : List (AVal × AVal))
  | iter (m since : Nat) (seen : List Nat) (last : Nat)
  | dead

/-- A tree of what has numbers. -/
inductive T (α : Type) where
  | leaf
  | node (l : T α) (v : Option (Nat × α)) (r : T α)

/-- By the recursors: the kernel takes fewer steps so. -/
def T.find {α : Type} (t : T α) : Nat → Option (Nat × α) :=
  T.rec (motive := fun _ => Nat → Option (Nat × α)) (fun _ => none)
    (fun _ v _ fl fr k => Bool.rec (Bool.rec (fr (Nat.sub (Nat.div k 2) 1)) (fl (Nat.div k 2)) (Nat.beq (Nat.mod k 2) 1)) v (Nat.beq k 0)) t

theorem T.find_leaf {α : Type} (k : Nat) : (T.leaf : T α).find k = none := rfl
theorem T.find_node {α : Type} (l : T α) (v : Option (Nat × α)) (r : T α) (k : Nat) : (T.node l v r).find k =
    match Nat.beq k 0 with
    | true => v
    | false => match Nat.beq (Nat.mod k 2) 1 with
      | true => l.find (Nat.div k 2)
      | false => r.find (Nat.sub (Nat.div k 2) 1) := by
  show @Bool.rec (fun _ => Option (Nat × α)) (@Bool.rec (fun _ => Option (Nat × α)) (r.find (Nat.sub (Nat.div k 2) 1)) (l.find (Nat.div k 2)) (Nat.beq (Nat.mod k 2) 1)) v (Nat.beq k 0) = _
  cases Nat.beq k 0 <;> cases Nat.beq (Nat.mod k 2) 1 <;> rfl

def T.ins {α : Type} (n : Nat) : T α → Nat → Nat × α → T α :=
  Nat.rec (motive := fun _ => T α → Nat → Nat × α → T α) (fun _ _ _ => .leaf)
    (fun _ ih t k e => T.rec (motive := fun _ => T α)
      (Bool.rec (Bool.rec (.node .leaf none (ih .leaf (Nat.sub (Nat.div k 2) 1) e)) (.node (ih .leaf (Nat.div k 2) e) none .leaf) (Nat.beq (Nat.mod k 2) 1)) (.node .leaf (some e) .leaf) (Nat.beq k 0))
      (fun l v r _ _ => Bool.rec (Bool.rec (.node l v (ih r (Nat.sub (Nat.div k 2) 1) e)) (.node (ih l (Nat.div k 2) e) v r) (Nat.beq (Nat.mod k 2) 1)) (.node l (some e) r) (Nat.beq k 0)) t) n

theorem T.ins_zero {α : Type} (t : T α) (k : Nat) (e : Nat × α) : T.ins 0 t k e = .leaf := rfl
theorem T.ins_leaf {α : Type} (n k : Nat) (e : Nat × α) : T.ins (n + 1) .leaf k e =
    match Nat.beq k 0 with
    | true => .node .leaf (some e) .leaf
    | false => match Nat.beq (Nat.mod k 2) 1 with
      | true => .node (T.ins n .leaf (Nat.div k 2) e) none .leaf
      | false => .node .leaf none (T.ins n .leaf (Nat.sub (Nat.div k 2) 1) e) := by
  show @Bool.rec (fun _ => T α) (@Bool.rec (fun _ => T α) (.node .leaf none (T.ins n .leaf (Nat.sub (Nat.div k 2) 1) e)) (.node (T.ins n .leaf (Nat.div k 2) e) none .leaf) (Nat.beq (Nat.mod k 2) 1)) (.node .leaf (some e) .leaf) (Nat.beq k 0) = _
  cases Nat.beq k 0 <;> cases Nat.beq (Nat.mod k 2) 1 <;> rfl
theorem T.ins_node {α : Type} (n k : Nat) (l : T α) (v : Option (Nat × α)) (r : T α) (e : Nat × α) : T.ins (n + 1) (.node l v r) k e =
    match Nat.beq k 0 with
    | true => .node l (some e) r
    | false => match Nat.beq (Nat.mod k 2) 1 with
      | true => .node (T.ins n l (Nat.div k 2) e) v r
      | false => .node l v (T.ins n r (Nat.sub (Nat.div k 2) 1) e) := by
  show @Bool.rec (fun _ => T α) (@Bool.rec (fun _ => T α) (.node l v (T.ins n r (Nat.sub (Nat.div k 2) 1) e)) (.node (T.ins n l (Nat.div k 2) e) v r) (Nat.beq (Nat.mod k 2) 1)) (.node l (some e) r) (Nat.beq k 0) = _
  cases Nat.beq k 0 <;> cases Nat.beq (Nat.mod k 2) 1 <;> rfl

/-- What has the number k. -/
def T.get {α : Type} (t : T α) (k : Nat) : Option α :=
  Option.rec (motive := fun _ => Option α) none (fun p => Prod.rec (motive := fun _ => Option α) (fun j a => Bool.rec none (some a) (Nat.beq j k)) p) (t.find k)

structure St where
  heap : T ABlk
  next : Nat
  nsym : Nat
  hist : List HEnt

def St.upd (S : St) (b : Nat) (blk : ABlk) : St := St.rec (motive := fun _ => St) (fun h nx ns hi => ⟨h.ins 64 b (b, blk), nx, ns, hi⟩) S
theorem St.upd_eq (S : St) (b : Nat) (blk : ABlk) : S.upd b blk = { S with heap := S.heap.ins 64 b (b, blk) } := by cases S; rfl

structure AAct where
  tm : T AVal
  n : Nat
  g : Nat

abbrev R1 := Option (AVal × St)

/-- What the executor is told of its program: its variables' cells, what comes of comparisons of numbers that are not known, how long a thing is, and what some functions do. -/
structure Env where
  P : Program
  G : Nat
  G0 : Nat
  ro : Nat → Nat → Option Value
  bin : BinOp → AVal → AVal → Option AVal
  len : Nat → Option AVal
  summ : FuncId → Option (List AVal → St → R1)

inductive AExit where
  | normal
  | exit (id : Nat)
  | ret

/-- Values of one cell that bear no block. -/
def atom : Value → Bool
  | .bool _ | .int _ _ | .string _ | .pointer none | .slice none _ _ | .map none | .nilFunc | .nilIface => true
  | _ => false

def lift1 (v : Value) : Option AVal := match atom v with | true => some (.s v) | false => none

def liftL : List Value → Option (List AVal)
  | [] => some []
  | v :: l => match lift1 v, liftL l with
    | some x, some r => some (x :: r)
    | _, _ => none

def lift : Value → Option AVal
  | .agg cs => match liftL cs.toList with | some l => some (.agg l) | none => none
  | .tuple vs => match liftL vs.toList with | some l => some (.tuple l) | none => none
  | v => lift1 v

def aundef : AVal := .tuple []

def AAct.get (a : AAct) (t : Nat) : Option AVal := a.tm.get t

def AAct.put (a : AAct) (d : Option Tmp) (v : AVal) : Option AAct :=
  Option.rec (motive := fun _ => Option AAct) (some a)
    (fun t => AAct.rec (motive := fun _ => Option AAct) (fun tm n g => Bool.rec none (Bool.rec none (some ⟨tm.ins 64 t (t, v), n, g⟩) (Nat.blt t 1152921504606846976)) (Nat.blt t n)) a) d

def AAct.eval (a : AAct) : Operand → Option AVal
  | .tmp t => a.get t
  | .const v => lift v
  | .global g => match Nat.blt g a.g with | true => some (.ptr g 0) | false => none
  | .func f => some (.func (.func f) [] [])

def AAct.evalL (a : AAct) : List Operand → Option (List AVal)
  | [] => some []
  | x :: l => match a.eval x, a.evalL l with
    | some v, some r => some (v :: r)
    | _, _ => none

def AVal.one : AVal → Bool
  | .agg _ | .tuple _ => false
  | _ => true

def AVal.cells : AVal → List AVal
  | .agg cs => cs
  | v => [v]

/-- The value itself, if it bears no block. -/
def valL : List AVal → Option (List Value)
  | [] => some []
  | .s v :: l => match valL l with
    | some r => some (v :: r)
    | none => none
  | _ :: _ => none

def AVal.val : AVal → Option Value
  | .s v => some v
  | .agg cs => match valL cs with | some l => some (.agg l.toArray) | none => none
  | _ => none

section
variable (E : Env)

def size? (t : TypeId) : Option Nat := match E.P.info? t with | some i => some i.size | none => none
def bytes? (t : TypeId) : Option Nat := match E.P.info? t with | some i => some i.bytes | none => none
def isAgg? (t : TypeId) : Option Bool :=
  match E.P.underlying t with
  | some (.struct _) | some (.array _ _) => some true
  | some _ => some false
  | none => none
def elem? (t : TypeId) : Option TypeId :=
  match E.P.underlying t with
  | some (.slice e) => some e
  | _ => none
def zero? (t : TypeId) : Option AVal :=
  match E.P.info? t with
  | some i => match i.zero with | some v => lift v | none => none
  | none => none

def cellsOf (S : St) (b : Nat) : Option (List AVal) :=
  match S.heap.get b with
  | some (.cells vs _) => some vs
  | some (.row vs _ _ _) => some vs
  | _ => none

def takeN : Nat → List AVal → Option (List AVal)
  | 0, _ => some []
  | _ + 1, [] => none
  | n + 1, v :: l => match takeN n l with | some r => some (v :: r) | none => none

def roCells (b : Nat) : Nat → Nat → Option (List AVal)
  | _, 0 => some []
  | o, n + 1 => match E.ro b o, roCells b (o + 1) n with
    | some v, some r => match atom v with | true => some (.s v :: r) | false => none
    | _, _ => none

/-- n cells from a place on. -/
def readN (S : St) (b o n : Nat) : Option (List AVal) :=
  match Nat.blt b E.G with
  | true => roCells E b o n
  | false => match cellsOf S b with
    | some vs => takeN n (vs.drop o)
    | none => none

/-- Cells written over others. -/
def over : List AVal → Nat → List AVal → Option (List AVal)
  | vs, 0, [] => some vs
  | _ :: vs, 0, x :: xs => match over vs 0 xs with | some r => some (x :: r) | none => none
  | v :: vs, o + 1, xs => match over vs o xs with | some r => some (v :: r) | none => none
  | _, _, _ => none

def writeN (S : St) (b o : Nat) (xs : List AVal) : Option St :=
  match xs.all AVal.one, S.heap.get b with
  | true, some (.cells vs t) => match over vs o xs with
    | some r => some (S.upd b (.cells r t))
    | none => none
  | true, some (.row vs t k z) => match over vs o xs with
    | some r => some (S.upd b (.row r t k z))
    | none => none
  | _, _ => none

/-- A new block. -/
def fresh (S : St) (blk : ABlk) : Option St :=
  match S.heap.find S.next, Nat.ble E.G S.next, Nat.blt S.next 1152921504606846976 with
  | none, true, true => some { S with heap := S.heap.ins 64 S.next (S.next, blk), next := S.next + 1 }
  | _, _, _ => none

def newCells (S : St) (vs : List AVal) (t : TypeId) : Option (Nat × St) :=
  match fresh E S (.cells vs t) with
  | some S' => some (S.next, S')
  | none => none

def pureV (v : Option AVal) (S : St) : R1 := match v with | some x => some (x, S) | none => none

def load1 (t : TypeId) (x : AVal) (S : St) : R1 :=
  match x, isAgg? E t, size? E t with
  | .ptr b o, some true, some n => match readN E S b o n with
    | some l => some (.agg l, S)
    | none => none
  | .ptr b o, some false, _ => match readN E S b o 1 with
    | some (v :: _) => some (v, S)
    | _ => none
  | _, _, _ => none

def store1 (t : TypeId) (x v : AVal) (S : St) : R1 :=
  match x, size? E t with
  | .ptr b o, some n => match Nat.beq v.cells.length n, writeN S b o v.cells with
    | true, some S' => some (aundef, S')
    | _, _ => none
  | _, _ => none

def box1 (t : TypeId) (v : AVal) (S : St) : R1 :=
  match newCells E S v.cells t with
  | some (b, S') => some (.ptr b 0, S')
  | none => none

def fillA (place : Nat → Option (Nat × Nat)) : List AVal → List (Nat × AVal) → Option (List AVal)
  | cells, [] => some cells
  | cells, (i, v) :: rest =>
    match place i with
    | some (off, size) => match Nat.beq v.cells.length size, over cells off v.cells with
      | true, some c => fillA place c rest
      | _, _ => none
    | none => none

def evalParts (a : AAct) : List (Nat × Operand) → Option (List (Nat × AVal))
  | [] => some []
  | (i, x) :: l => match a.eval x, evalParts a l with
    | some v, some r => some ((i, v) :: r)
    | _, _ => none

def placesL : List Field → Option (List (Nat × Nat))
  | [] => some []
  | f :: l => match size? E f.type, placesL l with
    | some n, some r => some ((f.offset, n) :: r)
    | _, _ => none

def build1 (t : TypeId) (ps : List (Nat × AVal)) (S : St) : R1 :=
  match zero? E t, E.P.underlying t with
  | some z, some (.struct fs) => match placesL E fs.toList with
    | some pl => match fillA (pl[·]?) z.cells ps with
      | some c => some (.agg c, S)
      | none => none
    | none => none
  | some z, some (.array _ e) => match size? E e with
    | some n => match fillA (fun i => some (i * n, n)) z.cells ps with
      | some c => some (.agg c, S)
      | none => none
    | none => none
  | _, _ => none

def repeatL (z : List AVal) : Nat → List AVal
  | 0 => []
  | n + 1 => z ++ repeatL z n

def buildSlice1 (t : TypeId) (len : Nat) (ps : List (Nat × AVal)) (S : St) : R1 :=
  match elem? E t with
  | some e => match size? E e, zero? E e with
    | some n, some z => match Nat.ble (len * n) 16777216 && Nat.beq z.cells.length n, fillA (fun i => some (i * n, n)) (repeatL z.cells len) ps with
      | true, some c => match newCells E S c e with
        | some (b, S') => some (.slice b 0 len (.exact len), S')
        | none => none
      | _, _ => none
    | _, _ => none
  | none => none

def makeInterface1 (t : TypeId) (v : AVal) (S : St) : R1 :=
  match E.P.underlying t with
  | some (.interface _) => none
  | some _ => some (.iface t v, S)
  | none => none

def nilCheck1 (x : AVal) (S : St) : R1 :=
  match x with
  | .ptr b o => some (.ptr b o, S)
  | .func (.func f) first cap => some (.func (.func f) first cap, S)
  | _ => none

/-- Is one of two values nil, and the other not, at a type where that is asked? -/
def nonNil (d : Option TypeDesc) (a b : AVal) : Bool :=
  match d, a, b with
  | some (.pointer _), .ptr _ _, .s (.pointer none) => true
  | some (.pointer _), .s (.pointer none), .ptr _ _ => true
  | some (.slice _), .slice _ _ _ _, .s (.slice none _ _) => true
  | some (.slice _), .s (.slice none _ _), .slice _ _ _ _ => true
  | some (.map _ _), .map _, .s (.map none) => true
  | some (.map _ _), .s (.map none), .map _ => true
  | some (.func _ _ _), .func _ _ _, .s .nilFunc => true
  | some (.func _ _ _), .s .nilFunc, .func _ _ _ => true
  | some (.interface _), .iface _ _, .s .nilIface => true
  | some (.interface _), .s .nilIface, .iface _ _ => true
  | _, _, _ => false

/-- Runs what looks at no memory. -/
def pureRun {α : Type} (P : Program) : Sem α → Option α
  | .pure a => some a
  | .program k => pureRun P (k P)
  | .mark _ k => pureRun P k
  | _ => none

def bin1 (op : BinOp) (t : TypeId) (x y : Operand) (a b : AVal) (S : St) : R1 :=
  match a.val, b.val with
  | some v, some u => match pureRun E.P (do eqGuard op t x y v u; binOp op t v u) with
    | some r => pureV (lift1 r) S
    | none => none
  | _, _ => match E.bin op a b with
    | some v => some (v, S)
    | none => match nonNil (E.P.underlying t) a b, op with
      | true, .eql => some (.s (.bool false), S)
      | true, .neq => some (.s (.bool true), S)
      | _, _ => none

def un1 (op : UnOp) (x : AVal) (S : St) : R1 :=
  match x with
  | .s v => match pureRun E.P (Op.unary op v) with
    | some r => pureV (lift1 r) S
    | none => none
  | _ => none

def conv1 (src dst : TypeId) (x : AVal) (S : St) : R1 :=
  match x with
  | .sym .i64 n => match E.P.underlying src, E.P.underlying dst with
    | some _, some (.int .i64) => some (.sym .i64 n, S)
    | _, _ => none
  | .s v => match pureRun E.P (convert src dst v) with
    | some r => pureV (lift1 r) S
    | none => none
  | _ => none

def asNat : AVal → Option Nat
  | .s (.int _ n) => match n with
    | .ofNat m => some m
    | .negSucc _ => none
  | _ => none

def bound1 (x : Option AVal) (y : Nat) (d : Nat) : Option Nat :=
  match x with
  | none => some d
  | some v => match asNat v with
    | some n => match Nat.ble n y with | true => some n | false => none
    | none => none

/-- The bounds of a part of what has n things and room for c at least; none: up to the room. -/
def bnds (n c : Nat) (lo hi mx : Option AVal) : Option (Nat × Nat × Option Nat) :=
  match mx, hi with
  | none, _ => match bound1 hi c n with
    | some h => match bound1 lo h 0 with
      | some l => some (l, h, none)
      | none => none
    | none => none
  | some v, some u => match bound1 (some v) c 0 with
    | some m => match bound1 (some u) m 0 with
      | some h => match bound1 lo h 0 with
        | some l => some (l, h, some m)
        | none => none
      | none => none
    | none => none
  | some _, none => none

def offA (m l o z : Nat) : Nat := match Nat.beq m l with | true => o | false => o + l * z

/-- A part of a slice: with a bound behind it, or without. -/
def slice1 (t : TypeId) (x : AVal) (lo hi mx : Option AVal) (S : St) : R1 :=
  match E.P.underlying t, x with
  | some .string, .s (.string s) => match bnds s.size s.size lo hi mx with
    | some (l, h, none) => some (.s (.string (s.extract l h)), S)
    | _ => none
  | some (.slice e), .s (.slice none 0 0) => match size? E e, bnds 0 0 lo hi mx with
    | some _, some _ => some (.s (.slice none 0 0), S)
    | _, _ => none
  | some (.slice e), .slice b o n (.exact c) => match size? E e, bnds n c lo hi mx with
    | some z, some (l, h, m) => some (.slice b (offA (m.getD c) l o z) (h - l) (.exact (m.getD c - l)), S)
    | _, _ => none
  | some (.slice e), .slice b o n (.var k d) => match size? E e, bnds n n lo hi mx with
    | some z, some (l, h, some m) => some (.slice b (offA m l o z) (h - l) (.exact (m - l)), S)
    | some z, some (l, h, none) => match Nat.blt l n, Nat.beq l 0 with
      | true, _ => some (.slice b (o + l * z) (h - l) (.var k (d + l)), S)
      | false, true => some (.slice b o (h - l) (.var k d), S)
      | _, _ => none
    | _, _ => none
  | some (.array n e), .ptr b o => match size? E e, bnds n n lo hi mx with
    | some z, some (l, h, none) => some (.slice b (offA n l o z) (h - l) (.exact (n - l)), S)
    | _, _ => none
  | _, _ => none

def fieldAddr1 (t : TypeId) (x : AVal) (i : Nat) (S : St) : R1 :=
  match E.P.underlying t, x with
  | some (.struct fs), .ptr b o => match fs[i]? with
    | some f => match size? E f.type with
      | some (_ + 1) => some (.ptr b (o + f.offset), S)
      | _ => none
    | none => none
  | _, _ => none

def part1 (t : TypeId) (cs : List AVal) (off : Nat) : Option AVal :=
  match isAgg? E t, size? E t with
  | some true, some n => match takeN n (cs.drop off) with
    | some l => some (.agg l)
    | none => none
  | some false, _ => cs[off]?
  | _, _ => none

def field1 (t : TypeId) (x : AVal) (i : Nat) (S : St) : R1 :=
  match E.P.underlying t, x with
  | some (.struct fs), .agg cs => match fs[i]? with
    | some f => pureV (part1 E f.type cs f.offset) S
    | none => none
  | _, _ => none

def indexAddr1 (t : TypeId) (x i : AVal) (S : St) : R1 :=
  match E.P.underlying t, x, asNat i with
  | some (.array n e), .ptr b o, some j => match Nat.blt j n, size? E e with
    | true, some z => some (.ptr b (o + j * z), S)
    | _, _ => none
  | some (.slice e), .slice b o n _, some j => match Nat.blt j n, size? E e with
    | true, some z => some (.ptr b (o + j * z), S)
    | _, _ => none
  | _, _, _ => none

def index1 (t : TypeId) (x i : AVal) (S : St) : R1 :=
  match E.P.underlying t, x, asNat i with
  | some (.array n e), .agg cs, some j => match Nat.blt j n, size? E e with
    | true, some z => pureV (part1 E e cs (j * z)) S
    | _, _ => none
  | some .string, .s (.string s), some j => match s[j]? with
    | some c => some (.s (.int .u8 c.toNat), S)
    | none => none
  | _, _, _ => none

def extract1 (x : AVal) (i : Nat) (S : St) : R1 :=
  match x with
  | .tuple vs => pureV vs[i]? S
  | _ => none

/-- Are two keys the same? -/
def sameKey (t : TypeId) (a b : AVal) : Option Bool :=
  match a.val, b.val with
  | some v, some u => pureRun E.P (Op.equal t v u)
  | _, _ => match a, b, E.P.underlying t with
    | .sym k x, .sym j y, some (.int _) => match decide (k = j), Nat.beq x y with
      | true, true => some true
      | _, _ => none
    | _, _, _ => none

def findA (t : TypeId) (k : AVal) : List (AVal × AVal) → Nat → Option (Option (Nat × AVal))
  | [], _ => some none
  | (k', v) :: l, i => match sameKey E t k k' with
    | some true => some (some (i, v))
    | some false => findA t k l (i + 1)
    | none => none

def mapOf (S : St) (x : AVal) : Option (List (AVal × AVal)) :=
  match x with
  | .s (.map none) => some []
  | .map b => match S.heap.get b with
    | some (.map es) => some es
    | _ => none
  | _ => none

def okKey (empty : Bool) (t : TypeId) (k : AVal) : Bool :=
  match k.val with
  | some v => match pureRun E.P (Instr.checkKey empty 10000 t v) with
    | some _ => true
    | none => false
  | none => match k, E.P.underlying t with
    | .sym _ _, some (.int _) => true
    | _, _ => false

def lookup1 (t : TypeId) (x k : AVal) (ok : Bool) (S : St) : R1 :=
  match E.P.underlying t, mapOf S x with
  | some (.map kt et), some es => match okKey E es.isEmpty kt k, findA E kt k es 0 with
    | true, some (some (_, v)) => some (match ok with | true => .tuple [v, .s (.bool true)] | false => v, S)
    | true, some none => match zero? E et with
      | some z => some (match ok with | true => .tuple [z, .s (.bool false)] | false => z, S)
      | none => none
    | _, _ => none
  | _, _ => none

def setAt (k v : AVal) : List (AVal × AVal) → Nat → List (AVal × AVal)
  | [], _ => []
  | e :: l, 0 => (k, v) :: l
  | e :: l, i + 1 => e :: setAt k v l i

def sameBits1 (k : AVal) (e : Option (AVal × AVal)) : Bool :=
  match e with
  | some (k', _) => match k.val, k'.val with
    | some x, some y => Instr.sameBits 10000 y x
    | _, _ => match k, k' with
      | .sym i x, .sym j y => decide (i = j) && Nat.beq x y
      | _, _ => false
  | none => false

def mapUpdate1 (t : TypeId) (x k v : AVal) (S : St) : R1 :=
  match E.P.underlying t, x with
  | some (.map kt _), .map b => match S.heap.get b with
    | some (.map es) => match okKey E false kt k, findA E kt k es 0 with
      | true, some (some (i, _)) => match sameBits1 k (es[i]?) with
        | true => some (aundef, (S.upd b (.map (setAt k v es i))))
        | false => none
      | true, some none => some (aundef, (S.upd b (.map (es ++ [(k, v)]))))
      | _, _ => none
    | _ => none
  | _, _ => none

def makeMap1 (S : St) : R1 :=
  match fresh E S (.map []) with
  | some S' => some (.map S.next, S')
  | none => none

def makeSlice1 (t : TypeId) (len cap : AVal) (S : St) : R1 :=
  match elem? E t, asNat len, asNat cap with
  | some e, some l, some c => match size? E e, bytes? E e, zero? E e with
    | some n, some by_, some z => match Nat.ble l c, Nat.ble (by_ * c) 1048576, Nat.ble c 1048576 && Nat.beq z.cells.length n, newCells E S (repeatL z.cells c) e with
      | true, true, true, some (b, S') => some (.slice b 0 l (.exact c), S')
      | _, _, _, _ => none
    | _, _, _ => none
  | _, _, _ => none

/-- The cells that are to be appended or copied. -/
def sourceOf (S : St) (z : Nat) (x : AVal) : Option (Nat × List AVal) :=
  match x with
  | .s (.slice none 0 0) => some (0, [])
  | .slice b o n _ => match readN E S b o (n * z) with
    | some l => some (n, l)
    | none => none
  | .s (.string s) => match Nat.beq z 1 with
    | true => some (s.size, s.data.toList.map fun b => .s (.int .u8 b.toNat))
    | false => none
  | _ => none

/-- A row behind others: room unknown. -/
def newRowA (S : St) (vs : List AVal) (e : TypeId) (z n : Nat) : R1 :=
  match fresh E S (.row vs e S.next z), vs.all AVal.one with
  | some S', true => some (.slice S.next 0 n (.var S.next 0), S')
  | _, _ => none

def appendTo (S : St) (e : TypeId) (z : Nat) (s : AVal) (m : Nat) (xs : List AVal) : R1 :=
  match s with
  | .s (.slice none 0 0) => match Nat.beq m 0 with
    | true => some (s, S)
    | false => newRowA E S xs e z m
  | .slice b o n (.exact c) => match Nat.ble (n + m) c with
    | true => match writeN S b (o + n * z) xs with
      | some S' => some (.slice b o (n + m) (.exact c), S')
      | none => none
    | false => match readN E S b o (n * z) with
      | some old => newRowA E S (old ++ xs) e z (n + m)
      | none => none
  | .slice b o n (.var k d) => match Nat.beq m 0 with
    | true => some (s, S)
    | false => match o, d, S.heap.get b with
      | 0, 0, some (.row vs t' k' z') => match Nat.beq k k' && Nat.beq e t', Nat.beq z z', takeN (n * z) vs with
        | true, true, some old => newRowA E (S.upd b (.dead)) (old ++ xs) e z (n + m)
        | _, _, _ => none
      | _, _, _ => none
  | _ => none

def slen : AVal → Nat
  | .slice _ _ n _ => n
  | _ => 0

/-- Is what is appended so many noughts? -/
def zeros1 (xt : List TypeId) : Option Bool :=
  match xt with
  | [] => none
  | t :: _ => match E.P.underlying t with
    | some (.int _) => some true
    | some (.slice _) => some false
    | some .string => some false
    | _ => none

def source1 (S : St) (xt : List TypeId) (z : Nat) (zv : AVal) (x : AVal) : Option (Nat × List AVal) :=
  match zeros1 E xt with
  | some false => sourceOf E S z x
  | some true => match asNat x with
    | some m => some (m, repeatL zv.cells m)
    | none => none
  | none => none

def append1 (ts : List TypeId) (args : List AVal) (S : St) : R1 :=
  match ts, args with
  | st :: xt, [s, x] => match elem? E st with
    | some e => match size? E e, bytes? E e, zero? E e with
      | some z, some (by_ + 1), some zv => match source1 E S xt z zv x with
        | some (m, xs) => match Nat.ble ((slen s + m) * (by_ + 1)) 70368744177664, Nat.beq zv.cells.length z with
          | true, true => appendTo E S e z s m xs
          | _, _ => none
        | none => none
      | _, _, _ => none
    | none => none
  | _, _ => none

def lenOf1 (S : St) (d : Option TypeDesc) (x : AVal) : Option Nat :=
  match d, x with
  | some (.slice _), .s (.slice _ n _) => some n
  | some (.slice _), .slice _ _ n _ => some n
  | some .string, .s (.string s) => some s.size
  | some (.array n _), _ => some n
  | some (.map _ _), .s (.map none) => some 0
  | some (.map _ _), .map b => match S.heap.get b with
    | some (.map es) => some es.length
    | _ => none
  | _, _ => none

def capOf1 (d : Option TypeDesc) (x : AVal) : Option Nat :=
  match d, x with
  | some (.slice _), .s (.slice _ _ c) => some c
  | some (.slice _), .slice _ _ _ (.exact c) => some c
  | _, _ => none

def copy1 (ts : List TypeId) (args : List AVal) (S : St) : R1 :=
  match ts, args with
  | dt :: _, [d, x] => match elem? E dt with
    | some e => match size? E e with
      | some z => match d, sourceOf E S z x with
        | .s (.slice none 0 0), some _ => some (.s (.int .i64 0), S)
        | .slice b o n _, some (m, xs) => match takeN (Nat.min m n * z) xs with
          | some l => match writeN S b o l with
            | some S' => some (.s (.int .i64 (Nat.min m n)), S')
            | none => none
          | none => none
        | _, _ => none
      | none => none
    | none => none
  | _, _ => none

def clear1 (ts : List TypeId) (args : List AVal) (S : St) : R1 :=
  match ts, args with
  | t :: _, [.slice b o (n + 1) _] => match elem? E t with
    | some e => match zero? E e, size? E e with
      | some z, some k => match Nat.beq z.cells.length k, writeN S b o (repeatL z.cells (n + 1)) with
        | true, some S' => some (aundef, S')
        | _, _ => none
      | _, _ => none
    | none => none
  | _, _ => none

def len1 (ts : List TypeId) (args : List AVal) (S : St) : R1 :=
  match args with
  | [.opq k] => match E.len k, ts.head?.bind E.P.underlying with | some v, some (.slice _) => some (v, S) | _, _ => none
  | [x] => match lenOf1 S (ts.head?.bind E.P.underlying) x with | some n => some (.s (.int .i64 n), S) | none => none
  | _ => none

def cap1 (ts : List TypeId) (args : List AVal) (S : St) : R1 :=
  match args with
  | [x] => match capOf1 (ts.head?.bind E.P.underlying) x with | some n => some (.s (.int .i64 n), S) | none => none
  | _ => none

def min1 (ts : List TypeId) (args : List AVal) (S : St) : R1 :=
  match args with
  | [.s v, .s u] => match pureRun E.P (Builtin.min_ ts.toArray 0 #[v, u]) with | some r => pureV (lift1 r) S | none => none
  | _ => none

def max1 (ts : List TypeId) (args : List AVal) (S : St) : R1 :=
  match args with
  | [.s v, .s u] => match pureRun E.P (Builtin.max_ ts.toArray 0 #[v, u]) with | some r => pureV (lift1 r) S | none => none
  | _ => none
end

def builtin1 (b : Builtin) : Env → List TypeId → List AVal → St → R1 :=
  match b with
  | .append => append1
  | .copy => copy1
  | .clear => clear1
  | .len => len1
  | .cap => cap1
  | .min => min1
  | .max => max1
  | _ => fun _ _ _ _ => none

section
variable (E : Env)

abbrev Rec := Code → AAct → St → Option (AExit × AAct × St)

def enterA : List AVal → Nat → T AVal → T AVal
  | [], _, t => t
  | v :: l, i, t => enterA l (i + 1) (t.ins 64 i (i, v))

def resultsA (E : Env) (a : AAct) (S : St) : List ResultVar → Option (List AVal)
  | [] => some []
  | .tmp t :: l => match a.get t, resultsA E a S l with
    | some v, some r => some (v :: r)
    | _, _ => none
  | .cell x t :: l => match a.get x, resultsA E a S l with
    | some p, some r => match load1 E t p S with
      | some (v, _) => some (v :: r)
      | none => none
    | _, _ => none

def callA (rec_ : Rec) (f : FuncId) (args : List AVal) (S : St) : R1 :=
  match E.summ f with
  | some g => g args S
  | none => match E.P.funcs[f]? with
  | some fn => match fn.body, Nat.ble args.length fn.ntmps with
    | some c, true => match rec_ c { tm := enterA args 0 .leaf, n := fn.ntmps, g := E.G0 } S with
      | some (.exit _, _, _) => none
      | some (_, a, S') => match resultsA E a S' fn.results.toList with
        | some [v] => some (v, S')
        | some l => some (.tuple l, S')
        | none => none
      | none => none
    | _, _ => none
  | none => none

def callV (rec_ : Rec) (fv : AVal) (args : List AVal) (S : St) : R1 :=
  match fv with
  | .func (.func f) first cap => callA E rec_ f (first ++ args ++ cap) S
  | _ => none

end

/-- A call: of a builtin, or of a function's value. -/
def callOp (c : Call) : Env → Rec → AAct → St → R1 :=
  match c with
  | { callee := .builtin b, args, argTypes } => fun E _ a S => match a.evalL args.toList with | some l => builtin1 b E argTypes.toList l S | none => none
  | { callee := .value f, args, .. } => fun E r a S => match a.eval f, a.evalL args.toList with
    | some fv, some l => callV E r fv l S
    | _, _ => none
  | _ => fun _ _ _ _ => none

/-- An operation. (The arms are closed: the kernel copies none of them in vain.) -/
def opD (o : Op) : Env → Rec → AAct → St → R1 :=
  match o with
  | .move x => fun _ _ a S => pureV (a.eval x) S
  | .assign x => fun _ _ a S => pureV (a.eval x) S
  | .pick c x y => fun E _ a S => match a.eval c with
      | some (.s (.bool true)) => pureV (a.eval x) S
      | some (.s (.bool false)) => pureV (a.eval y) S
      | _ => none
  | .alloc t => fun E _ a S => match zero? E t with | some z => box1 E t z S | none => none
  | .box t x => fun E _ a S => match a.eval x with | some v => box1 E t v S | none => none
  | .build t ps => fun E _ a S => match evalParts a ps.toList with | some l => build1 E t l S | none => none
  | .buildSlice t n ps => fun E _ a S => match evalParts a ps.toList with | some l => buildSlice1 E t n l S | none => none
  | .insert t m k v => fun E _ a S => match a.eval m, a.eval k, a.eval v with | some x, some y, some z => mapUpdate1 E t x y z S | _, _, _ => none
  | .load t x => fun E _ a S => match a.eval x with | some v => load1 E t v S | none => none
  | .store t x y => fun E _ a S => match a.eval x, a.eval y with | some v, some u => store1 E t v u S | _, _ => none
  | .nilCheck x => fun E _ a S => match a.eval x with | some v => nilCheck1 v S | none => none
  | .binOp op t x y _ => fun E _ a S => match a.eval x, a.eval y with | some v, some u => bin1 E op t x y v u S | _, _ => none
  | .unOp op _ x => fun E _ a S => match a.eval x with | some v => un1 E op v S | none => none
  | .convert s d x => fun E _ a S => match a.eval x with | some v => conv1 E s d v S | none => none
  | .makeInterface t x => fun E _ a S => match a.eval x with | some v => makeInterface1 E t v S | none => none
  | .makeFunc fn xs ys => fun E _ a S => match a.evalL xs.toList, a.evalL ys.toList with | some l, some r => some (.func fn l r, S) | _, _ => none
  | .makeMap _ r => fun E _ _ S => match r with | none => makeMap1 E S | some _ => none
  | .makeSlice t x y => fun E _ a S => match a.eval x, a.eval y with | some v, some u => makeSlice1 E t v u S | _, _ => none
  | .slice t x l h m => fun E _ a S => match a.eval x, a.evalL l.toList, a.evalL h.toList, a.evalL m.toList with
      | some v, some l', some h', some m' => slice1 E t v l'.head? h'.head? m'.head? S
      | _, _, _, _ => none
  | .fieldAddr t x i => fun E _ a S => match a.eval x with | some v => fieldAddr1 E t v i S | none => none
  | .field t x i => fun E _ a S => match a.eval x with | some v => field1 E t v i S | none => none
  | .indexAddr t x i => fun E _ a S => match a.eval x, a.eval i with | some v, some u => indexAddr1 E t v u S | _, _ => none
  | .index t x i => fun E _ a S => match a.eval x, a.eval i with | some v, some u => index1 E t v u S | _, _ => none
  | .lookup t x i ok => fun E _ a S => match a.eval x, a.eval i with | some v, some u => lookup1 E t v u ok S | _, _ => none
  | .mapUpdate t m k v => fun E _ a S => match a.eval m, a.eval k, a.eval v with | some x, some y, some z => mapUpdate1 E t x y z S | _, _, _ => none
  | .extract x i => fun E _ a S => match a.eval x with | some v => extract1 v i S | none => none
  | .call c => callOp c
  | _ => fun _ _ _ _ => none

section
variable (E : Env)

def opA (rec_ : Rec) (a : AAct) (o : Op) (S : St) : R1 := opD o E rec_ a S

/-- Is an operation to be done? -/
def wantedA (ops : Array Oper) (a : AAct) (o : Oper) : Option Bool :=
  match o.guard with
  | none => some true
  | some (j, want) => match ops[j]? with
    | some p => match p.dst with
      | some d => match a.get d with
        | some (.s (.bool b)) => some (b == want)
        | some (.tuple []) => some false
        | _ => none
      | none => none
    | none => none

def oneA (rec_ : Rec) (ops : Array Oper) (o : Oper) (a : AAct) (S : St) : R1 :=
  match wantedA ops a o with
  | some true => opA E rec_ a o.op S
  | some false => some (aundef, S)
  | none => none

def listA (rec_ : Rec) (ops : Array Oper) (l : List Oper) : AAct → St → Option (AAct × St) :=
  List.rec (motive := fun _ => AAct → St → Option (AAct × St)) (fun a S => some (a, S))
    (fun o _ ih a S => Option.rec (motive := fun _ => Option (AAct × St)) none
      (fun p => Prod.rec (motive := fun _ => Option (AAct × St)) (fun v S' => Option.rec (motive := fun _ => Option (AAct × St)) none (fun a' => ih a' S') (a.put o.dst v)) p) (oneA E rec_ ops o a S)) l

theorem listA_nil (rec_ : Rec) (ops : Array Oper) (a : AAct) (S : St) : listA E rec_ ops [] a S = some (a, S) := rfl
theorem listA_cons (rec_ : Rec) (ops : Array Oper) (o : Oper) (l : List Oper) (a : AAct) (S : St) : listA E rec_ ops (o :: l) a S =
    match oneA E rec_ ops o a S with
    | some (v, S') => match a.put o.dst v with
      | some a' => listA E rec_ ops l a' S'
      | none => none
    | none => none := by
  unfold listA
  cases h : oneA E rec_ ops o a S with
  | none => simp only [h]
  | some p =>
    obtain ⟨v, S'⟩ := p
    simp only [h]
    cases a.put o.dst v <;> rfl

/-- An operation of a region that draws its order. -/
structure DOp where
  o : Oper
  i : Nat
  dep : Nat
  cheap : Bool

def depMask (es : List Edge) : Nat :=
  match es with
  | [] => 0
  | e :: l => match Region.binds .any e with
    | true => Nat.lor (depMask l) (2 ^ e.on)
    | false => depMask l

/-- Does an operation leave memory as it is? -/
def cheapOp : Op → Bool
  | .move _ | .pick _ _ _ | .build _ _ | .load _ _ | .nilCheck _ | .binOp _ _ _ _ _ | .unOp _ _ _ | .convert _ _ _ | .makeInterface _ _ | .makeFunc _ _ _
  | .slice _ _ _ _ _ | .fieldAddr _ _ _ | .field _ _ _ | .indexAddr _ _ _ | .index _ _ _ | .lookup _ _ _ _ | .extract _ _ => true
  | .call { callee := .builtin .len, .. } | .call { callee := .builtin .cap, .. } => true
  | _ => false

def dopsOf : List Oper → Nat → List DOp
  | [], _ => []
  | o :: l, i => ⟨o, i, depMask o.after.toList, cheapOp o.op⟩ :: dopsOf l (i + 1)

def within (a b : Nat) : Bool := Nat.beq (Nat.land a b) a

/-- What must be done where those of s are. -/
def must : List DOp → Nat → Nat
  | [], s => s
  | d :: l, s => match Nat.testBit (must l s) d.i with
    | true => Nat.lor (must l s) d.dep
    | false => must l s

/-- May the operations be taken so? An operation comes behind those whose answers it reads, or ahead of what overwrites what it reads. -/
def fitD (ops : Array Oper) (ds : List DOp) : Bool :=
  ds.all fun d => Nat.blt d.dep (2 ^ d.i) && match d.o.dst with
    | none => true
    | some t => ds.all fun e => (Nat.beq e.i d.i || !(e.o.dst == some t)) &&
        (!((e.o.looksAt ops).contains t) || Nat.testBit e.dep d.i || (!d.cheap && (Nat.beq e.i d.i || Nat.testBit (must ds (2 ^ d.i)) e.i)))

/-- Are there two that make memory in either order? -/
def multiD (ds : List DOp) : Bool :=
  ds.any fun d => !d.cheap && ds.any fun e => !e.cheap && Nat.blt e.i d.i && !Nat.testBit (must ds (2 ^ d.i)) e.i

def passA (rec_ : Rec) (ops : Array Oper) : List DOp → Nat → AAct → St → Option (Nat × AAct)
  | [], dm, a, _ => some (dm, a)
  | d :: l, dm, a, S => match d.cheap && !Nat.testBit dm d.i && within d.dep dm with
    | true => match oneA E rec_ ops d.o a S with
      | some (v, _) => match a.put d.o.dst v with
        | some a' => passA rec_ ops l (Nat.lor dm (2 ^ d.i)) a' S
        | none => none
      | none => none
    | false => passA rec_ ops l dm a S

mutual
def AVal.eqv : AVal → AVal → Bool
  | .s (.bool a), .s (.bool b) => a == b
  | .s (.int j a), .s (.int k b) => decide (j = k) && decide (a = b)
  | .s (.string a), .s (.string b) => decide (a = b)
  | .s (.pointer none), .s (.pointer none) => true
  | .s (.slice none a b), .s (.slice none c d) => Nat.beq a c && Nat.beq b d
  | .s (.map none), .s (.map none) => true
  | .s .nilFunc, .s .nilFunc => true
  | .s .nilIface, .s .nilIface => true
  | .ptr a b, .ptr c d => Nat.beq a c && Nat.beq b d
  | .slice a b c (.exact k), .slice d e f (.exact m) => Nat.beq a d && Nat.beq b e && Nat.beq c f && Nat.beq k m
  | .slice a b c (.var k j), .slice d e f (.var m n) => Nat.beq a d && Nat.beq b e && Nat.beq c f && Nat.beq k m && Nat.beq j n
  | .map a, .map b => Nat.beq a b
  | .func (.func f) a b, .func (.func g) c d => Nat.beq f g && eqvL a c && eqvL b d
  | .iface t a, .iface u b => Nat.beq t u && AVal.eqv a b
  | .agg a, .agg b => eqvL a b
  | .tuple a, .tuple b => eqvL a b
  | .sym j a, .sym k b => decide (j = k) && Nat.beq a b
  | .opq a, .opq b => Nat.beq a b
  | _, _ => false
def eqvL : List AVal → List AVal → Bool
  | [], [] => true
  | x :: l, y :: r => AVal.eqv x y && eqvL l r
  | _, _ => false
end

def eqvP : List (AVal × AVal) → List (AVal × AVal) → Bool
  | [], [] => true
  | (a, b) :: l, (c, d) :: r => AVal.eqv a c && AVal.eqv b d && eqvP l r
  | _, _ => false

def ABlk.eqv : ABlk → ABlk → Bool
  | .cells a t, .cells b u => eqvL a b && Nat.beq t u
  | .row a t k z, .row b u j y => eqvL a b && Nat.beq t u && Nat.beq k j && Nat.beq z y
  | .map a, .map b => eqvP a b
  | .dead, .dead => true
  | _, _ => false

def T.eqv {α : Type} (f : α → α → Bool) : T α → T α → Bool
  | .leaf, .leaf => true
  | .node l v r, .node l' v' r' => T.eqv f l l' && T.eqv f r r' && match v, v' with
    | none, none => true
    | some (k, a), some (k', b) => Nat.beq k k' && f a b
    | _, _ => false
  | _, _ => false

def histEqv : List HEnt → List HEnt → Bool
  | [], [] => true
  | a :: l, b :: r => Nat.beq a.st b.st && eqvL a.t b.t && Nat.beq a.x b.x && histEqv l r
  | _, _ => false

def resEqv (x y : AAct × St) : Bool :=
  T.eqv AVal.eqv x.1.tm y.1.tm && Nat.beq x.1.n y.1.n && Nat.beq x.1.g y.1.g && T.eqv ABlk.eqv x.2.heap y.2.heap && Nat.beq x.2.next y.2.next && Nat.beq x.2.nsym y.2.nsym && histEqv x.2.hist y.2.hist

/-- Do those that may come later answer the same? -/
def againA (rec_ : Rec) (ops : Array Oper) : List DOp → Nat → Nat → AAct → St → Bool
  | [], _, _, _, _ => true
  | d :: l, dm, mu, a, S => match d.cheap && Nat.testBit dm d.i && !Nat.testBit mu d.i with
    | true => match oneA E rec_ ops d.o a S with
      | some (v, _) => (match d.o.dst with
        | none => true
        | some t => match a.get t with
          | some u => AVal.eqv u v
          | none => false) && againA rec_ ops l dm mu a S
      | none => false
    | false => againA rec_ ops l dm mu a S

def allSame : List (Option (AAct × St)) → Option (AAct × St)
  | [] => none
  | [r] => r
  | r :: l => match r, allSame l with
    | some x, some y => match resEqv x y with
      | true => some y
      | false => none
    | _, _ => none

def nextAt (multi : Bool) (S : St) (n : Nat) : St :=
  match multi with
  | true => { S with next := n }
  | false => S

/-- What makes memory or writes, next. -/
def tailA (rec_ : Rec) (ops : Array Oper) (ds : List DOp) (multi : Bool) (base : Nat) (go : Nat → Nat → AAct → St → Option (AAct × St)) (dm mu : Nat) (a : AAct) (S : St) : Option (AAct × St) :=
  match ds.filter (fun d => !d.cheap && !Nat.testBit dm d.i && within d.dep dm) with
  | [] => match ds.all (fun d => Nat.testBit dm d.i) with
    | true => some (a, nextAt multi S (base + 65536 * ds.length))
    | false => none
  | hs => allSame (hs.map fun d =>
      match oneA E rec_ ops d.o a (nextAt multi S (base + 65536 * d.i)) with
      | some (v, S') => match a.put d.o.dst v with
        | some a' => match againA E rec_ ops ds dm (Nat.lor mu (must ds (2 ^ d.i))) a' S' with
          | true => go (Nat.lor dm (2 ^ d.i)) (Nat.lor mu (must ds (2 ^ d.i))) a' S'
          | false => none
        | none => none
      | none => none)

def drawA (rec_ : Rec) (ops : Array Oper) (ds : List DOp) (multi : Bool) (base : Nat) : Nat → Nat → Nat → AAct → St → Option (AAct × St)
  | 0, _, _, _, _ => none
  | n + 1, dm, mu, a, S => match passA E rec_ ops ds dm a S with
    | none => none
    | some (dm1, a1) => match ds.all (fun d => !d.cheap || Nat.testBit dm1 d.i || !within d.dep dm1) with
      | false => none
      | true => tailA E rec_ ops ds multi base (drawA rec_ ops ds multi base n) dm1 mu a1 S

def regionD (rec_ : Rec) (ops : Array Oper) (ds : List DOp) (a : AAct) (S : St) : Option (AAct × St) :=
  match fitD ops ds with
  | true => drawA E rec_ ops ds (multiD ds) S.next (ds.length + 1) 0 0 a S
  | false => none

end

/-- One code, its parts by what is given. (The arms are closed.) -/
def execD (c : Code) : Env → Rec → AAct → St → Option (AExit × AAct × St) :=
  match c with
  | .skip => fun _ _ a S => some (.normal, a, S)
  | .ret => fun _ _ a S => some (.ret, a, S)
  | .exit id => fun _ _ a S => some (.exit id, a, S)
  | .seq x y => fun _ r a S => match r x a S with
    | some (.normal, a', S') => r y a' S'
    | q => q
  | .cond c x y => fun _ r a S => match a.eval c with
    | some (.s (.bool true)) => r x a S
    | some (.s (.bool false)) => r y a S
    | _ => none
  | .block id c => fun _ r a S => match r c a S with
    | some (.exit j, a', S') => match Nat.beq j id with
      | true => some (.normal, a', S')
      | false => some (.exit j, a', S')
    | q => q
  | .loop c => fun _ r a S => match r c a S with
    | some (.normal, a', S') => r (.loop c) a' S'
    | q => q
  | .region _ ops draw => fun E r a S => match draw with
    | false => match listA E r ops ops.toList a S with
      | some (a', S') => some (.normal, a', S')
      | none => none
    | true => match regionD E r ops (dopsOf ops.toList 0) a S with
      | some (a', S') => some (.normal, a', S')
      | none => none
  | _ => fun _ _ _ _ => none

def exec (E : Env) (n : Nat) : Rec := Nat.rec (motive := fun _ => Rec) (fun _ _ _ => none) (fun _ ih c a S => execD c E ih a S) n

theorem exec_zero (E : Env) (c : Code) (a : AAct) (S : St) : exec E 0 c a S = none := rfl
theorem exec_succ (E : Env) (n : Nat) (c : Code) (a : AAct) (S : St) : exec E (n + 1) c a S = execD c E (exec E n) a S := rfl
end
end Go.Proofs.YtagccbpjpcnmeaaGreatDoor.Ex
