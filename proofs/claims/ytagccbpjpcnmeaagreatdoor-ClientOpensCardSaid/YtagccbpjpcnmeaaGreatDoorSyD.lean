/-
  ClientOpens by the executor: what is said of the stores' methods, and of numbers that are not known.
-/
import Derived.Test.YtagccbpjpcnmeaaGreatDoorEf
import Derived.Test.YtagccbpjpcnmeaaGreatDoorProg
set_option linter.unusedVariables false
set_option linter.unusedSimpArgs false
namespace Go.Proofs.YtagccbpjpcnmeaaGreatDoor.Ex
open Go

noncomputable def i0 : AVal := .s (.int .i64 0)

noncomputable def isZero : AVal → Bool
  | .s (.int .i64 (.ofNat 0)) => true
  | _ => false

/-- Is a number the name of a term of a store? -/
noncomputable def inHist (k x : Nat) : List HEnt → Bool
  | [] => false
  | e :: l => (Nat.beq e.st k && Nat.beq e.x x) || inHist k x l

noncomputable def inSt (h : List HEnt) (k : Nat) : AVal → Bool
  | .sym .i64 x => inHist k x h
  | _ => false

/-- May a term be? -/
noncomputable def mayA (badDraw : Bool) (h : List HEnt) (k : Nat) : List AVal → Bool
  | [.s (.int .u8 (.ofNat 1)), .sym .i64 1, a, b] => match badDraw with
    | true => false
    | false => isZero a && isZero b
  | [.s (.int .u8 (.ofNat 2)), .s (.int .i64 (.ofNat z)), a, b] => Nat.ble z 1000000 && (isZero a && isZero b)
  | [.s (.int .u8 (.ofNat 2)), .sym .i64 _, a, b] => isZero a && isZero b
  | [.s (.int .u8 (.ofNat 3)), n, a, b] => isZero n && inSt h k a && inSt h k b
  | [.s (.int .u8 (.ofNat 6)), n, a, b] => isZero n && inSt h k a && inSt h k b
  | [.s (.int .u8 (.ofNat 4)), .s (.int .i64 (.ofNat z)), a, b] => Nat.ble z 1000000 && (inSt h k a && (inSt h k b || isZero b))
  | [.s (.int .u8 (.ofNat 5)), n, a, b] => isZero n && inSt h k a && isZero b
  | [.s (.int .u8 (.ofNat 7)), n, a, b] => isZero n && inSt h k a && isZero b
  | _ => false

/-- Is a store there, and not yet gone through? -/
noncomputable def open_ (h : List HEnt) : Bool :=
  match h with
  | [] => false
  | e :: _ => Nat.ble e.st 1 || Nat.beq e.st 9

noncomputable def sMake (badDraw : Bool) (k : Nat) (args : List AVal) (S : St) : R1 :=
  match args with
  | [.ptr p 0, .agg t] => match Nat.beq p (k + 1) && open_ S.hist && Nat.blt S.hist.length 900, mayA badDraw S.hist k t with
    | true, true => some (.tuple [.sym .i64 S.nsym, i0], { S with nsym := S.nsym + 1, hist := ⟨k, t, S.nsym⟩ :: S.hist })
    | _, _ => none
  | _ => none

noncomputable def sThere (k : Nat) (args : List AVal) (S : St) : R1 :=
  match args with
  | [.ptr p 0, n] => match Nat.beq p (k + 1) && open_ S.hist && Nat.blt S.hist.length 900, inSt S.hist k n, isZero n with
    | true, true, _ => some (.s (.bool true), S)
    | true, _, true => some (.s (.bool false), S)
    | _, _, _ => none
  | _ => none

noncomputable def sMade (args : List AVal) (S : St) : R1 :=
  match args with
  | [.ptr 1 0] => match open_ S.hist with
    | true => some (.s (.bool true), S)
    | false => none
  | [.s (.pointer none)] => some (.s (.bool false), S)
  | _ => none

noncomputable def sGet (k : Nat) (args : List AVal) (S : St) : R1 :=
  match args with
  | [.ptr p 0, n] => match Nat.beq p (k + 1) && open_ S.hist && Nat.blt S.hist.length 900, inSt S.hist k n, isZero n with
    | true, true, _ => some (.tuple [.agg [.opq S.nsym, .opq (S.nsym + 1), .opq (S.nsym + 2), .opq (S.nsym + 3)], .s (.bool true)], { S with nsym := S.nsym + 4 })
    | true, _, true => some (.tuple [.agg [.s (.int .u8 0), i0, i0, i0], .s (.bool false)], S)
    | _, _, _ => none
  | _ => none

noncomputable def sBuild (far : Bool) (args : List AVal) (S : St) : R1 :=
  match far, args, S.hist with
  | false, [.opq 0], [] => some (.tuple [.ptr 1 0, .ptr 2 0, .s (.bool true)], { S with hist := [⟨9, [], 0⟩] })
  | _, _, _ => none

noncomputable def sAcross (args : List AVal) (S : St) : R1 :=
  match args with
  | [.ptr 1 0, .ptr 2 0] => match open_ S.hist && Nat.blt S.hist.length 900 with
    | true => some (.tuple [.ptr 3 0, .s (.bool true)], { S with hist := ⟨8, [], 0⟩ :: S.hist })
    | false => none
  | _ => none

noncomputable def hFind (k x : Nat) : List HEnt → Option (List AVal)
  | [] => none
  | e :: l => match Nat.beq e.st k && Nat.beq e.x x with
    | true => some e.t
    | false => hFind k x l

/-- Do two numbers stand for the same term? -/
noncomputable def corr (h : List HEnt) : Nat → AVal → AVal → Bool
  | 0, _, _ => false
  | n + 1, .sym .i64 x, .sym .i64 y => match hFind 0 x h, hFind 1 y h with
    | some [k, m, a, b], some [k', m', a', b'] => AVal.eqv k k' && AVal.eqv m m' && corr h n a a' && corr h n b b'
    | _, _ => false
  | _ + 1, a, b => isZero a && isZero b

noncomputable def sSame (args : List AVal) (S : St) : R1 :=
  match args, S.hist with
  | [.ptr 3 0, a, b], e :: h => match Nat.beq e.st 8 && corr h 200 a b with
    | true => some (.s (.bool true), S)
    | false => none
  | _, _ => none

noncomputable def sLives (args : List AVal) (S : St) : R1 :=
  match args with
  | [] => some (.s (.bool true), S)
  | _ => none

noncomputable def summC (far badDraw : Bool) (f : FuncId) : Option (List AVal → St → R1) :=
  if f = 26 then some (sMake badDraw 0)
  else if f = 112 then some (sThere 0)
  else if f = 32 then some sMade
  else if f = 52 then some (sGet 0)
  else if f = 27 then some (sMake badDraw 1)
  else if f = 120 then some (sThere 1)
  else if f = 166 then some (sGet 1)
  else if f = 8 then some (sBuild far)
  else if f = 17 then some sAcross
  else if f = 19 then some sSame
  else if f = 7 then some sLives
  else none

noncomputable def bT : AVal := .s (.bool true)
noncomputable def bF : AVal := .s (.bool false)

/-- Comparisons with a number: of terms (from 100 on), and of those that the way knows: the device 0, the draw 1, the list's length 2, the user 3, the account 4. -/
noncomputable def cmpLit (far badNum neg badDraw : Bool) (op : BinOp) (x : Nat) (z : Int) : Option AVal :=
  match Nat.ble 100 x, op, x, z with
  | true, .lss, _, .ofNat 1 => some bF
  | true, .lss, _, .ofNat 0 => some bF
  | true, .gtr, _, .ofNat 0 => some bT
  | true, .eql, _, .ofNat 0 => some bF
  | true, .neq, _, .ofNat 0 => some bT
  | false, .gtr, 2, .ofNat 2000 => some (.s (.bool far))
  | false, .lss, 0, .ofNat 0 => some (.s (.bool neg))
  | false, .geq, 0, .ofNat 512 => some (.s (.bool badNum))
  | false, .lss, 1, .ofNat 0 => some (.s (.bool badDraw))
  | false, .geq, 0, .ofNat 0 => some (.s (.bool !neg))
  | true, .geq, _, .ofNat 1 => some bT
  | true, .leq, _, .ofNat 0 => some bF
  | false, .quo, 0, .ofNat 8 => some (.sym .i64 3)
  | false, .lss, 4, .ofNat 0 => match neg with
    | false => some bT
    | true => none
  | false, .geq, 4, .ofNat 0 => match neg with
    | false => some bF
    | true => none
  | _, _, _, _ => none

noncomputable def binC (far badNum neg badDraw : Bool) (op : BinOp) (a b : AVal) : Option AVal :=
  match a, b with
  | .sym .i64 x, .s (.int .i64 z) => cmpLit far badNum neg badDraw op x z
  | .s (.int .i64 (.negSucc 0)), .sym .i64 3 => match op with
    | .sub => some (.sym .i64 4)
    | _ => none
  | .sym .i64 x, .sym .i64 y => match Nat.beq x y, op with
    | true, .eql => some bT
    | true, .neq => some bF
    | _, _ => none
  | _, _ => none

noncomputable def lenC (k : Nat) : Option AVal := match k with | 0 => some (.sym .i64 2) | _ => none

noncomputable def envC (far badNum neg badDraw : Bool) : Env := { P := Tryz.prog, G := 16, G0 := 1, ro := fun _ _ => none, bin := binC far badNum neg badDraw, len := lenC, summ := summC far badDraw }

noncomputable def stC : St := { heap := .leaf, next := 1000, nsym := 100, hist := [] }
end Go.Proofs.YtagccbpjpcnmeaaGreatDoor.Ex
