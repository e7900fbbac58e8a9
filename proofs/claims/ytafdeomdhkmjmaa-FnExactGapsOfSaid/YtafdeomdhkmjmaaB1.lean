/-
  An evaluator of the model's code that tells values by what they hold, and the proof that what it answers is what the machine does (part 1).
-/
import Derived.Orders
import Derived.Laws.World
import Derived.Laws.AppendOwn
import Derived.Laws.Sem
import Derived.Laws.Cells
import Derived.Laws.Append
import Derived.Laws.CopyRow
import Derived.Laws.Tables
import Derived.Laws.Entries
import Derived.Laws.Strings
import Derived.Laws.BytesArg
import Derived.Laws.MakeOwn
import Derived.LoopN
import Derived.ProofKit
set_option linter.unusedVariables false
set_option linter.unusedSimpArgs false
/-
  A by-value evaluator for the model's code. Slices, structs and pointers are told by what they hold; names (tokens) say who may write.
  This text: the evaluator. Its soundness: the texts behind it.
-/
namespace Go.BV

/-- What a slice holds. -/
inductive C where
  | ints (k : IntKind) (xs : List Int)
  | bools (xs : List Bool)
  | strs (xs : List ByteArray)
  | rows (xs : List (List Int))

/-- One cell, told to the bottom; nobody writes what it leads to. -/
inductive S where
  | int (k : IntKind) (n : Int)
  | bool (b : Bool)
  | str (s : ByteArray)
  | sl (c : C)

/-- One cell of the running function. -/
inductive X where
  | int (k : IntKind) (n : Int)
  | bool (b : Bool)
  | str (s : ByteArray)
  | nil (c : C)
  | ro (c : C)
  | own (n : Nat) (c : C)
  | el (n : Nat) (c : C) (i : Nat)
  | roel (c : C) (i : Nat)
  | ptr (n off : Nat)
  | rop (cs : List S) (off : Nat)
  | fn (f : FuncId) (caps : List Nat)
  | nilp
  | undef

inductive U where
  | x (x : X)
  | agg (xs : List X)

inductive V where
  | u (u : U)
  | tup (us : List U)

namespace C
def len : C → Nat
  | ints _ xs => xs.length
  | bools xs => xs.length
  | strs xs => xs.length
  | rows xs => xs.length
def get : C → Nat → S
  | ints k xs, i => .int k (xs.getD i 0)
  | bools xs, i => .bool (xs.getD i false)
  | strs xs, i => .str (xs.getD i .empty)
  | rows xs, i => .sl (.ints .i64 (xs.getD i []))
def set : C → Nat → S → Option C
  | ints k xs, i, .int k' n => if k = k' then some (ints k (xs.set i n)) else none
  | bools xs, i, .bool b => some (bools (xs.set i b))
  | strs xs, i, .str s => some (strs (xs.set i s))
  | rows xs, i, .sl (.ints .i64 ys) => some (rows (xs.set i ys))
  | _, _, _ => none
def app : C → C → Option C
  | ints k xs, ints k' ys => if k = k' then some (ints k (xs ++ ys)) else none
  | bools xs, bools ys => some (bools (xs ++ ys))
  | strs xs, strs ys => some (strs (xs ++ ys))
  | rows xs, rows ys => some (rows (xs ++ ys))
  | _, _ => none
def take : C → Nat → C
  | ints k xs, n => ints k (xs.take n)
  | bools xs, n => bools (xs.take n)
  | strs xs, n => strs (xs.take n)
  | rows xs, n => rows (xs.take n)
def drop : C → Nat → C
  | ints k xs, n => ints k (xs.drop n)
  | bools xs, n => bools (xs.drop n)
  | strs xs, n => strs (xs.drop n)
  | rows xs, n => rows (xs.drop n)
/-- n zeros of the kind. -/
def zeros : C → Nat → C
  | ints k _, n => ints k (List.replicate n 0)
  | bools _, n => bools (List.replicate n false)
  | strs _, n => strs (List.replicate n .empty)
  | rows _, n => rows (List.replicate n [])
end C

def C.flat : C → Bool
  | .rows _ => false
  | _ => true
def S.flat : S → Bool
  | .sl c => c.flat
  | _ => true
def S.toX : S → X
  | .int k n => .int k n
  | .bool b => .bool b
  | .str s => .str s
  | .sl c => .ro c
def X.toS : X → Option S
  | .int k n => some (.int k n)
  | .bool b => some (.bool b)
  | .str s => some (.str s)
  | .nil c => some (.sl c)
  | .ro c => some (.sl c)
  | .own _ c => some (.sl c)
  | _ => none
def toSs : List X → Option (List S)
  | [] => some []
  | x :: xs => match x.toS with
    | some s => match toSs xs with
      | some ss => some (s :: ss)
      | none => none
    | none => none

/-- The names that a cell's slice bears. -/
def X.toks : X → List Nat
  | .own n _ => [n]
  | _ => []
def toks : List X → List Nat
  | [] => []
  | x :: xs => x.toks ++ toks xs
/-- May a cell lie in a variable? -/
def X.cellOk : X → Bool
  | .undef => false
  | _ => true

/-! Substitutions: a name is dropped; a name's slice holds something else; a name's slice is written no more. -/
inductive Sb where
  | setc (c : C)
  | ro
def X.sub (n : Nat) (a : Sb) : X → X
  | .own m c => bif m == n then (match a with | .setc c' => .own m c' | .ro => .ro c) else .own m c
  | .el m c i => bif m == n then (match a with | .setc c' => .el m c' i | .ro => .roel c i) else .el m c i
  | x => x
def X.clr (p : Nat → Bool) : X → X
  | .own m c => bif p m then .undef else .own m c
  | .el m c i => bif p m then .undef else .el m c i
  | .ptr m o => bif p m then .undef else .ptr m o
  | .fn f caps => bif caps.any p then .undef else .fn f caps
  | x => x
def U.mp (f : X → X) : U → U
  | .x y => .x (f y)
  | .agg xs => .agg (xs.map f)
def V.mp (f : X → X) : V → V
  | .u y => .u (y.mp f)
  | .tup us => .tup (us.map (U.mp f))

structure St where
  tmps : List V
  tabs : List (Nat × List X)
  mus : List (Nat × C)

def lk {α : Type _} : List (Nat × α) → Nat → Option α
  | [], _ => none
  | (m, a) :: l, n => bif m == n then some a else lk l n
def setl {α : Type} : List (Nat × α) → Nat → α → List (Nat × α)
  | [], _, _ => []
  | (m, a) :: l, n, b => bif m == n then (m, b) :: l else (m, a) :: setl l n b

/-- A new table, in the order of the names. -/
def insl {α : Type} : List (Nat × α) → Nat → α → List (Nat × α)
  | [], n, b => [(n, b)]
  | (m, a) :: l, n, b => bif Nat.blt n m then (n, b) :: (m, a) :: l else (m, a) :: insl l n b

namespace St
def mp (f : X → X) (st : St) : St := { st with tmps := st.tmps.map (V.mp f), tabs := st.tabs.map fun (n, cs) => (n, cs.map f) }
def sub (st : St) (n : Nat) (a : Sb) : St :=
  { st.mp (X.sub n a) with mus := match a with | .setc c => setl st.mus n c | .ro => st.mus.filter fun (m, _) => !(m == n) }
def clr (st : St) (p : Nat → Bool) : St :=
  { tmps := st.tmps.map (V.mp (X.clr p)), tabs := (st.tabs.filter fun (n, _) => !p n).map fun (n, cs) => (n, cs.map (X.clr p)), mus := st.mus.filter fun (m, _) => !p m }
def put (st : St) (dst : Option Tmp) (v : V) : St := match dst with
  | some d => { st with tmps := st.tmps.set d v }
  | none => st
def get (st : St) (t : Tmp) : V := st.tmps.getD t (.u (.x .undef))
end St

/-! Types -/
inductive TU where
  | int (k : IntKind)
  | bool
  | str
  | slice (e : C)
  | struct (fs : List (Nat × Nat × Bool))
  | one
  | other
structure TI where
  u : TU
  size : Nat
  zero : List X

/-! Functions that are called -/
inductive Md where
  | val
  | wr
  | ref
inductive DU where
  | x (s : S)
  | agg (cs : List S)
  | ptr (cs : List S)
def DU.flat : DU → Bool
  | .x s => s.flat
  | .agg cs => cs.all S.flat
  | .ptr cs => cs.all S.flat
structure Out where
  res : List DU
  upd : List DU
structure Ora where
  md : List Md
  weak : Bool
  G : {ρ : Type} → List DU → (Out → Option ρ) → Option ρ

/-- The first name of an operation's own; names from 'high' on lie in memory that was handed in. -/
def high : Nat := 16777216
def nm (site j : Nat) : Nat := 4096 + 16 * site + j
def isLow (n : Nat) : Bool := Nat.blt n 4096 || !(Nat.blt n high)
def ofRegion (rid : Nat) (n : Nat) : Bool := Nat.ble (4096 + 16 * (64 * rid)) (n % high) && Nat.blt (n % high) (4096 + 16 * (64 * rid + 64))

section
variable {ρ : Type} (T : TypeId → TI) (O : FuncId → Option Ora)

def ofConst : Value → V
  | .int k n => .u (.x (.int k n))
  | .bool b => .u (.x (.bool b))
  | .string s => .u (.x (.str s))
  | .slice none 0 0 => .u (.x (.nil (.ints .i64 [])))
  | _ => .u (.x .undef)
def ev (st : St) : Operand → V
  | .tmp t => st.get t
  | .const v => ofConst v
  | .func f => .u (.x (.fn f []))
  | .global _ => .u (.x .undef)

def sameOp : Operand → Operand → Bool
  | .tmp a, .tmp b => a == b
  | .const (.int _ a), .const (.int _ b) => a == b
  | _, _ => false

/-- n cells from a place on. -/
def cut {α : Type} (xs : List α) (off n : Nat) : Option (List α) := bif Nat.ble (off + n) xs.length then some ((xs.drop off).take n) else none
def U.ofCells (isAgg : Bool) (xs : List X) : Option U := match isAgg, xs with
  | true, xs => some (.agg xs)
  | false, [y] => some (.x y)
  | false, _ => none
def TU.isAgg : TU → Bool
  | .struct _ => true
  | _ => false
def U.cells : U → List X
  | .x y => [y]
  | .agg xs => xs
/-- The cells from a place on are others. -/
def splice (xs ys : List X) (off : Nat) : Option (List X) := bif Nat.ble (off + ys.length) xs.length then some (xs.take off ++ ys ++ xs.drop (off + ys.length)) else none

def intOp (op : BinOp) (k : IntKind) (a b : Int) (K : X → Option ρ) : Option ρ :=
  match op with
  | .add => K (.int k (k.wrap (a + b)))
  | .sub => K (.int k (k.wrap (a - b)))
  | .mul => K (.int k (k.wrap (a * b)))
  | .quo => if b = 0 then none else K (.int k (k.wrap (a.tdiv b)))
  | .rem => if b = 0 then none else K (.int k (a.tmod b))
  | .and => K (.int k (k.wrap (BitVec.ofInt k.bits a &&& BitVec.ofInt k.bits b).toNat))
  | .or => K (.int k (k.wrap (BitVec.ofInt k.bits a ||| BitVec.ofInt k.bits b).toNat))
  | .xor => K (.int k (k.wrap (BitVec.ofInt k.bits a ^^^ BitVec.ofInt k.bits b).toNat))
  | .eql => K (.bool (decide (a = b)))
  | .neq => K (.bool (!decide (a = b)))
  | .lss => K (.bool (decide (a < b)))
  | .leq => K (.bool (decide (a ≤ b)))
  | .gtr => K (.bool (decide (a > b)))
  | .geq => K (.bool (decide (a ≥ b)))
  | _ => none
def shOp (op : BinOp) (k : IntKind) (a b : Int) (K : X → Option ρ) : Option ρ :=
  match op with
  | .shl => if b < 0 then none else K (.int k (k.wrap (a * 2 ^ (min b.toNat k.bits))))
  | .shr => if b < 0 then none else K (.int k (a.fdiv (2 ^ (min b.toNat k.bits))))
  | _ => none
def strOp (op : BinOp) (a b : ByteArray) (K : X → Option ρ) : Option ρ :=
  match op with
  | .add => if a.size + b.size ≤ 1099511627776 then K (.str (a ++ b)) else none
  | .eql => K (.bool (decide (a = b)))
  | .neq => K (.bool (!decide (a = b)))
  | _ => none
def eqCells : List X → List X → Option Bool
  | [], [] => some true
  | .int k a :: xs, .int k' b :: ys => if k = k' then (eqCells xs ys).map fun r => decide (a = b) && r else none
  | _, _ => none
def isSh : BinOp → Bool
  | .shl => true
  | .shr => true
  | _ => false
def binV (u : TU) (op : BinOp) (x y : V) (K : X → Option ρ) : Option ρ :=
  match x, y with
  | .u (.x (.int k a)), .u (.x (.int k' b)) => bif isSh op then shOp op k a b K else (if k = k' then intOp op k a b K else none)
  | .u (.x (.bool a)), .u (.x (.bool b)) => (match u, op with
    | .bool, .eql => K (.bool (a == b))
    | .bool, .neq => K (.bool (!(a == b)))
    | _, _ => none)
  | .u (.x (.str a)), .u (.x (.str b)) => strOp op a b K
  | _, _ => none
def unV (op : UnOp) (x : V) (K : X → Option ρ) : Option ρ :=
  match op, x with
  | .not, .u (.x (.bool b)) => K (.bool (!b))
  | .neg, .u (.x (.int k n)) => K (.int k (k.wrap (0 - n)))
  | _, _ => none

def asSlice : V → Option C
  | .u (.x (.ro c)) => some c
  | .u (.x (.nil c)) => some c
  | .u (.x (.own _ c)) => some c
  | _ => none

/-- The parts of a literal of a struct, laid over its zero. -/
def buildC : List (Nat × Nat × Bool) → List X → List (Nat × V) → Option (List X)
  | _, cs, [] => some cs
  | fs, cs, (i, .u u) :: r => match fs[i]? with
    | some (off, size, _) => bif u.cells.length == size && u.cells.all X.cellOk then (match splice cs u.cells off with | some cs' => buildC fs cs' r | none => none) else none
    | none => none
  | _, _, _ => none
def buildL : C → List (Nat × V) → Option C
  | c, [] => some c
  | c, (i, .u (.x x)) :: r => match x with
    | .own _ _ => none
    | x => match x.toS with
      | some s => bif Nat.blt i c.len then (match c.set i s with | some c' => buildL c' r | none => none) else none
      | none => none
  | _, _ => none

def bound (lo hi : Option V) (n : Nat) (K : Nat → Nat → Option ρ) : Option ρ :=
  match lo, hi with
  | none, none => K 0 n
  | some (.u (.x (.int _ l))), none => if 0 ≤ l then if l ≤ (n : Int) then K l.toNat n else none else none
  | none, some (.u (.x (.int _ h))) => if 0 ≤ h then if h ≤ (n : Int) then K 0 h.toNat else none else none
  | some (.u (.x (.int _ l))), some (.u (.x (.int _ h))) => if 0 ≤ l then if l ≤ h then if h ≤ (n : Int) then K l.toNat h.toNat else none else none else none
  | _, _ => none

/-! Calls -/
def toDU (tb : Nat → Option (List X)) : U → Option DU
  | .x (.rop cs o) => bif o == 0 then some (.ptr cs) else none
  | .x (.ptr n o) => bif o == 0 then (match tb n with | some xs => (match toSs xs with | some ss => some (.ptr ss) | none => none) | none => none) else none
  | .x x => (match x.toS with | some s => some (.x s) | none => none)
  | .agg xs => (match toSs xs with | some ss => some (.agg ss) | none => none)
def toDUs (tb : Nat → Option (List X)) : List V → Option (List DU)
  | [] => some []
  | .u u :: vs => (match toDU tb u with
    | some d => (match toDUs tb vs with
      | some ds => some (d :: ds)
      | none => none)
    | none => none)
  | _ => none
/-- The names that a value bears. -/
def uToks (tb : Nat → Option (List X)) : U → List Nat
  | .x (.ptr n _) => n :: (match tb n with | some xs => toks xs | none => [])
  | .x x => x.toks
  | .agg xs => toks xs
def vToks (tb : Nat → Option (List X)) : List V → List Nat
  | [] => []
  | .u u :: vs => uToks tb u ++ vToks tb vs
  | _ :: vs => vToks tb vs
def capsOf : List V → Option (List Nat)
  | [] => some []
  | .u (.x (.ptr n 0)) :: vs => (match capsOf vs with
    | some ns => some (n :: ns)
    | none => none)
  | _ => none
def isPtr : V → Bool
  | .u (.x (.ptr _ _)) => true
  | _ => false
def mutOk : X → Bool
  | .own _ _ => true
  | .int _ _ => true
  | .bool _ => true
  | .str _ => true
  | .nil _ => true
  | _ => false
def Md.isVal : Md → Bool
  | .val => true
  | _ => false
def modesOk : List Md → List V → Bool
  | [], [] => true
  | m :: ms, v :: vs => (match m, v with
    | .val, _ => true
    | .wr, .u u => u.cells.all mutOk
    | .ref, .u (.x (.ptr _ _)) => true
    | _, _ => false) && modesOk ms vs
  | _, _ => false
def part (b : Bool) : List Md → List V → List V
  | m :: ms, v :: vs => bif m.isVal == b then v :: part b ms vs else part b ms vs
  | _, _ => []
def nodupB : List Nat → Bool
  | [] => true
  | n :: l => !(l.contains n) && nodupB l
def disjB (a b : List Nat) : Bool := a.all fun n => !(b.contains n)

/-- A result's cells, new names for its slices. -/
def nameS (nms : Nat → Nat) : Nat → S → X × Nat
  | j, .sl c => (.own (nms j) c, j + 1)
  | j, s => (s.toX, j)
def nameSs (nms : Nat → Nat) : Nat → List S → List X × Nat
  | j, [] => ([], j)
  | j, s :: ss => ((nameS nms j s).1 :: (nameSs nms (nameS nms j s).2 ss).1, (nameSs nms (nameS nms j s).2 ss).2)
def nameD (nms : Nat → Nat) : Nat → DU → Option (U × Nat)
  | j, .x s => some (.x (nameS nms j s).1, (nameS nms j s).2)
  | j, .agg cs => some (.agg (nameSs nms j cs).1, (nameSs nms j cs).2)
  | _, .ptr _ => none
def nameDs (nms : Nat → Nat) : Nat → List DU → Option (List U)
  | j, [] => bif Nat.ble j 8 then some [] else none
  | j, d :: ds => match nameD nms j d with
    | some (u, j1) => (match nameDs nms j1 ds with
      | some us => some (u :: us)
      | none => none)
    | none => none
def weakD : DU → U
  | .x s => .x s.toX
  | .agg cs => .agg (cs.map S.toX)
  | .ptr cs => .x (.rop cs 0)
def resV : List U → V
  | [u] => .u u
  | us => .tup us

def setMut : St → List X → List S → Option St
  | st, [], [] => some st
  | st, .own n _ :: xs, .sl c' :: ss => setMut (st.sub n (.setc c')) xs ss
  | st, .int _ _ :: xs, .int _ _ :: ss => setMut st xs ss
  | st, .bool _ :: xs, .bool _ :: ss => setMut st xs ss
  | st, .str _ :: xs, .str _ :: ss => setMut st xs ss
  | st, .nil _ :: xs, .sl _ :: ss => setMut st xs ss
  | _, _, _ => none
def St.tb (st : St) (n : Nat) : Option (List X) := lk st.tabs n
/-- What the call left in what was handed to it to be written. -/
def update (tb : Nat → Option (List X)) (nms : Nat → Nat) : Nat → St → List Md → List V → List DU → Option St
  | j, st, [], [], [] => bif Nat.ble j 8 then some st else none
  | j, st, .val :: ms, _ :: vs, ds => update tb nms j st ms vs ds
  | j, st, .wr :: ms, .u u :: vs, d :: ds => (match d with
    | .x s => (match setMut st u.cells [s] with | some st' => update tb nms j st' ms vs ds | none => none)
    | .agg cs => (match setMut st u.cells cs with | some st' => update tb nms j st' ms vs ds | none => none)
    | .ptr _ => none)
  | j, st, .ref :: ms, .u (.x (.ptr n _)) :: vs, .ptr cs :: ds =>
    let st1 := st.clr fun m => (match tb n with | some xs => toks xs | none => []).contains m
    update tb nms (nameSs nms j cs).2 { st1 with tabs := setl st1.tabs n (nameSs nms j cs).1 } ms vs ds
  | _, _, _, _, _ => none
def subs (a : Sb) : St → List Nat → St
  | st, [] => st
  | st, n :: l => subs a (st.sub n a) l

/-- Calls that write into what they are handed are left out here. -/
def callF (_ : Ora) (_ : Nat) (_ : Option Tmp) (_ : List V) (_ : St) (_ : St → Option ρ) : Option ρ := none

def isTok (n : Nat) : V → Bool
  | .u (.x (.own m _)) => m == n
  | _ => false
def appendC (site : Nat) (dst : Option Tmp) (st : St) (x y : V) (K : St → Option ρ) : Option ρ :=
  match x, asSlice y with
  | .u (.x (.nil c)), some d => (match c.app d with
    | some e => if e.len ≤ 1099511627776 then K ((st.clr fun m => m == nm site 0).put dst (.u (.x (.own (nm site 0) e)))) else none
    | none => none)
  | .u (.x (.own n c)), some d =>
    bif isTok n y then none else
    (match c.app d with
    | some e => if e.len ≤ 1099511627776 then
        K ((st.clr fun m => m == n || m == (bif isLow n then nm site 0 + high else nm site 0)).put dst (.u (.x (.own (bif isLow n then nm site 0 + high else nm site 0) e))))
      else none
    | none => none)
  | _, _ => none

def loadX (tb : Nat → Option (List X)) (a : X) (size : Nat) (isAgg : Bool) : Option U :=
  match a with
  | .ptr n o => (match tb n with
    | some xs => (match cut xs o size with | some ys => U.ofCells isAgg ys | none => none)
    | none => none)
  | .rop cs o => (match cut cs o size with | some ys => U.ofCells isAgg (ys.map S.toX) | none => none)
  | .el _ c i => bif isAgg then none else some (.x (c.get i).toX)
  | .roel c i => bif isAgg then none else some (.x (c.get i).toX)
  | _ => none

def storeX (st : St) (a : X) (u : U) : Option St :=
  match a with
  | .ptr n o => bif u.cells.all X.cellOk then (match st.tb n with
    | some xs => (match splice xs u.cells o with | some ys => some { st with tabs := setl st.tabs n ys } | none => none)
    | none => none) else none
  | .el n c i => (match u with
    | .x (.own m ys) => bif m == n || isLow m then none else (match c.set i (.sl ys) with | some c' => some ((st.sub m .ro).sub n (.setc c')) | none => none)
    | .x x => (match x.toS with
      | some s => (match c.set i s with | some c' => some (st.sub n (.setc c')) | none => none)
      | none => none)
    | .agg _ => none)
  | _ => none

/-- What an operation gives that writes nothing: its value, and the cells of the variable that it makes. -/
def cv (site : Nat) (op : Op) (e : Operand → V) (tb : Nat → Option (List X)) (K : V → Option (List X) → Option ρ) : Option ρ :=
  match op with
  | .move x => K (e x) none
  | .assign x => K (e x) none
  | .pick c a b => (match e c, e a, e b with
    | .u (.x (.bool c)), .u (.x (.bool a)), .u (.x (.bool b)) => K (.u (.x (.bool (bif c then a else b)))) none
    | .u (.x (.bool c)), .u (.x (.bool a)), _ => bif c then K (.u (.x (.bool a))) none else none
    | .u (.x (.bool c)), _, .u (.x (.bool b)) => bif c then none else K (.u (.x (.bool b))) none
    | _, _, _ => none)
  | .alloc t => bif Nat.blt 0 (T t).zero.length then K (.u (.x (.ptr (nm site 0) 0))) (some (T t).zero) else none
  | .box t x => (match e x with
    | .u u => bif u.cells.all X.cellOk && (u.cells.length == (T t).size) then K (.u (.x (.ptr (nm site 0) 0))) (some u.cells) else none
    | _ => none)
  | .build t ps => (match (T t).u with
    | .struct fs => (match buildC fs (T t).zero (ps.toList.map fun (i, x) => (i, e x)) with
      | some cs => bif cs.all X.cellOk then K (.u (.agg cs)) none else none
      | none => none)
    | _ => none)
  | .buildSlice t n ps => (match (T t).u with
    | .slice c => bif Nat.ble n 4096 then (match buildL (c.zeros n) (ps.toList.map fun (i, x) => (i, e x)) with
      | some c => K (.u (.x (.own (nm site 0) c))) none
      | none => none) else none
    | _ => none)
  | .load t a => (match e a with
    | .u (.x a) => bif Nat.blt 0 (T t).size then (match loadX tb a (T t).size (T t).u.isAgg with
      | some u => K (.u u) none
      | none => none) else none
    | _ => none)
  | .nilCheck x => (match e x with
    | .u (.x (.ptr n k)) => K (.u (.x (.ptr n k))) none
    | .u (.x (.rop cs k)) => K (.u (.x (.rop cs k))) none
    | .u (.x (.el n c k)) => K (.u (.x (.el n c k))) none
    | .u (.x (.roel c k)) => K (.u (.x (.roel c k))) none
    | .u (.x (.fn f cs)) => K (.u (.x (.fn f cs))) none
    | _ => none)
  | .binOp op t x y _ => binV (T t).u op (e x) (e y) fun r => K (.u (.x r)) none
  | .unOp op _ x => unV op (e x) fun r => K (.u (.x r)) none
  | .convert s d x => (match (T s).u, (T d).u, e x with
    | .int _, .int k, .u (.x (.int _ n)) => K (.u (.x (.int k (k.wrap n)))) none
    | .slice (.ints .u8 _), .str, .u (.x (.own _ (.ints .u8 xs))) => K (.u (.x (.str ⟨(xs.map fun n => UInt8.ofNat n.toNat).toArray⟩))) none
    | _, _, _ => none)
  | .makeSlice t l c => (match (T t).u, e l with
    | .slice z, .u (.x (.int _ n)) => bif sameOp l c then (if 0 ≤ n then if n ≤ 1099511627776 then K (.u (.x (.own (nm site 0) (z.zeros n.toNat)))) none else none else none) else none
    | _, _ => none)
  | .slice t x lo hi mx => (match mx with
    | some _ => none
    | none => (match (T t).u, e x with
      | .str, .u (.x (.str s)) => bound (lo.map e) (hi.map e) s.size fun l h => K (.u (.x (.str (s.extract l h)))) none
      | .slice _, .u (.x (.ro c)) => bound (lo.map e) (hi.map e) c.len fun l h => K (.u (.x (.ro ((c.take h).drop l)))) none
      | _, _ => none))
  | .fieldAddr t x f => (match (T t).u, e x with
    | .struct fs, .u (.x (.ptr n k)) => (match fs[f]? with | some (off, _, _) => K (.u (.x (.ptr n (k + off)))) none | none => none)
    | .struct fs, .u (.x (.rop cs k)) => (match fs[f]? with | some (off, _, _) => K (.u (.x (.rop cs (k + off)))) none | none => none)
    | _, _ => none)
  | .field t x f => (match (T t).u, e x with
    | .struct fs, .u (.agg xs) => (match fs[f]? with
      | some (off, size, ag) => (match cut xs off size with
        | some ys => (match U.ofCells ag ys with | some u => K (.u u) none | none => none)
        | none => none)
      | none => none)
    | _, _ => none)
  | .indexAddr t x i => (match (T t).u, e x, e i with
    | .slice _, .u (.x (.own n c)), .u (.x (.int _ i)) => if 0 ≤ i then if i < (c.len : Int) then K (.u (.x (.el n c i.toNat))) none else none else none
    | .slice _, .u (.x (.ro c)), .u (.x (.int _ i)) => if 0 ≤ i then if i < (c.len : Int) then K (.u (.x (.roel c i.toNat))) none else none else none
    | _, _, _ => none)
  | .index t x i => (match (T t).u, e x, e i with
    | .str, .u (.x (.str s)), .u (.x (.int _ i)) => if 0 ≤ i then if i < (s.size : Int) then K (.u (.x (.int .u8 (s.data.toList.getD i.toNat 0).toNat))) none else none else none
    | _, _, _ => none)
  | .extract t i => (match e t with
    | .tup us => (match us[i]? with | some u => K (.u u) none | none => none)
    | _ => none)
  | .makeFunc (.func f) first caps => bif first.size == 0 then (match capsOf (caps.toList.map e) with
    | some ns => K (.u (.x (.fn f ns))) none
    | none => none) else none
  | .call { callee := .value f, args, .. } => (match e f with
    | .u (.x (.fn g [])) => (match O g with
      | some o => bif o.md.all Md.isVal && (o.md.length == args.size) && (!o.weak || (vToks tb (args.toList.map e)).isEmpty) then
          (match toDUs tb (args.toList.map e) with
          | some ds => o.G ds fun out => (match out.upd with
            | [] => bif o.weak then K (resV (out.res.map weakD)) none else bif (vToks tb (args.toList.map e)).isEmpty || out.res.all DU.flat then (match nameDs (fun j => nm site (8 + j)) 0 out.res with
              | some us => K (resV us) none
              | none => none) else none
            | _ :: _ => none)
          | none => none)
        else none
      | none => none)
    | _ => none)
  | .call { callee := .builtin b, args, argTypes } => (match b, args.toList.map e with
    | .len, [x] => bif argTypes.size == 0 then none else (match (T (argTypes.getD 0 0)).u, asSlice x, x with
      | .slice _, some c, _ => K (.u (.x (.int .i64 c.len))) none
      | .str, none, .u (.x (.str s)) => K (.u (.x (.int .i64 s.size))) none
      | _, _, _ => none)
    | .min, [.u (.x (.int k a)), .u (.x (.int _ b))] => K (.u (.x (.int k (if b < a then b else a)))) none
    | .max, [.u (.x (.int k a)), .u (.x (.int _ b))] => K (.u (.x (.int k (if b > a then b else a)))) none
    | _, _ => none)
  | _ => none

def St.out (st : St) (site : Nat) (dst : Option Tmp) (v : V) : Option (List X) → St
  | none => st.put dst v
  | some cs => { st with tabs := insl st.tabs (nm site 0) cs }.put dst v

/-- Operations that write. 'none': it is none of them. -/
def wild (site : Nat) (o : Oper) (st : St) (K : St → Option ρ) : Option (Option ρ) :=
  match o.op with
  | .store t a v => some (match ev st a, ev st v with
    | .u (.x a), .u u => bif u.cells.length == (T t).size && Nat.blt 0 (T t).size then (match storeX st a u with
      | some st' => K (st'.put o.dst (.tup []))
      | none => none) else none
    | _, _ => none)
  | .assign (.const (.slice none 0 0)) => some (match (T o.type).u with
    | .slice c => K (st.put o.dst (.u (.x (.nil (c.zeros 0)))))
    | _ => none)
  | .slice t x lo hi none => (match ev st x with
    | .u (.x (.own n c)) => some (match (T t).u with
      | .slice _ => (bound (lo.map (ev st)) (hi.map (ev st)) c.len fun l h =>
        K ((st.clr fun m => m == n || m == (bif isLow n then nm site 0 + high else nm site 0)).put o.dst (.u (.x (.own (bif isLow n then nm site 0 + high else nm site 0) ((c.take h).drop l)))))) | _ => none)
    | _ => none)
  | .call { callee := .value f, args, .. } => (match ev st f with
    | .u (.x (.fn g caps)) => (match O g with
      | some ora => bif caps.isEmpty && ora.md.all Md.isVal && (!ora.weak || (vToks st.tb (args.toList.map (ev st))).isEmpty) then none
          else some (callF ora site o.dst (args.toList.map (ev st) ++ caps.map fun n => .u (.x (.ptr n 0))) st K)
      | none => none)
    | _ => none)
  | .call { callee := .builtin .append, args, argTypes } => (match args.toList.map (ev st) with
    | [x, y] => some (match argTypes.toList with
      | [t, t'] => bif t == t' then (match (T t).u with | .slice _ => appendC site o.dst st x y K | _ => none) else none
      | _ => none)
    | _ => none)
  | _ => none

def isStore (o : Oper) : Bool := match o.op with | .store _ _ _ => true | _ => false
def step (dr : Bool) (site : Nat) (o : Oper) (st : St) (K : St → Option ρ) : Option ρ :=
  match wild T O site o st K with
  | some r => bif dr && !isStore o then none else r
  | none => cv T O site o.op (ev st) st.tb fun v ext => K (st.out site o.dst v ext)

/-- Is an operation wanted? -/
def guarded (all : List Oper) (o : Oper) (st : St) (yes no : St → Option ρ) : Option ρ :=
  match o.guard with
  | none => yes st
  | some (j, want) => (match (all[j]?).bind (·.dst) with
    | some d => (match st.tmps[d]? with
      | some (.u (.x (.bool b))) => bif b then (bif want then yes (st.put (some d) (.u (.x (.bool true)))) else no (st.put (some d) (.u (.x (.bool true))))) else (bif want then no (st.put (some d) (.u (.x (.bool false)))) else yes (st.put (some d) (.u (.x (.bool false)))))
      | some (.tup _) => no st
      | _ => none)
    | none => none)
def opsRun (dr : Bool) (rid : Nat) (all : List Oper) : List (Nat × Oper) → St → (St → Option ρ) → Option ρ
  | [], st, K => K st
  | (i, o) :: r, st, K => guarded all o st (fun st => step T O dr (64 * rid + i) o st fun st' => opsRun dr rid all r st' K) (fun st => opsRun dr rid all r (st.put o.dst (.tup [])) K)
def numbered : Nat → List Oper → List (Nat × Oper)
  | _, [] => []
  | i, o :: r => (i, o) :: numbered (i + 1) r

/-! May the order be drawn? -/
def maskOf (after : List Edge) (acc : List Nat) : Nat :=
  after.foldl (fun s e => bif Region.binds .any e then s ||| (2 ^ e.on ||| acc.getD e.on 0) else s) 0
def masks : List Oper → List Nat → List Nat
  | [], acc => acc
  | o :: r, acc => masks r (acc ++ [maskOf o.after.toList acc])
def pairOk (ops : Array Oper) (i j : Nat) (bj : Nat) : Bool :=
  bj.testBit i || (match ops[i]?, ops[j]? with
    | some x, some y => !isStore x && !isStore y && x.apart ops y
    | _, _ => false)
def drawOk (ops : Array Oper) : Bool :=
  let ms := masks ops.toList []
  Region.noSelect ops &&
  ((List.range ops.size).all fun j => (List.range j).all fun i => pairOk ops i j (ms.getD j 0)) &&
  (List.range ops.size).all fun j => match ops[j]? with | some o => o.after.all fun e => Nat.blt e.on j | none => true

inductive Ex where
  | normal
  | exit (id : Nat)
  | ret

/-- What is kept at a loop's head. -/
structure Keep where
  tmps : List Nat
  tabs : List Nat
  /-- slices under new names: of a tmp, of a table's cell -/
  names : List (Nat × Nat)
  cells : List (Nat × Nat × Nat)

def keepT (l : List Nat) : Nat → List V → List V
  | _, [] => []
  | i, v :: vs => (bif l.contains i then v else .u (.x .undef)) :: keepT l (i + 1) vs
def X.ren (n n' : Nat) : X → X
  | .own m c => bif m == n then .own n' c else .own m c
  | .el m c i => bif m == n then .el n' c i else .el m c i
  | x => x
def renT (st : St) (t n' : Nat) : St :=
  match st.get t with
  | .u (.x (.nil c)) => (st.clr fun m => m == n').put (some t) (.u (.x (.own n' c)))
  | .u (.x (.own n c)) => bif n == n' then st else (bif isLow n && !isLow n' then st else ((st.clr fun m => m == n || m == n').put (some t) (.u (.x (.own n' c)))))
  | _ => st
def renC (st : St) (tb off n' : Nat) : St :=
  match lk st.tabs tb with
  | some xs => (match xs[off]? with
    | some (.nil c) => let st' := st.clr fun m => m == n'; { st' with tabs := match lk st'.tabs tb with | some ys => setl st'.tabs tb (ys.set off (.own n' c)) | none => st'.tabs }
    | some (.own n c) => bif n == n' then st else (bif isLow n && !isLow n' then st else (let st' := st.clr fun m => m == n || m == n'; { st' with tabs := match lk st'.tabs tb with | some ys => setl st'.tabs tb (ys.set off (.own n' c)) | none => st'.tabs }))
    | _ => st)
  | none => st
def renTs : List (Nat × Nat) → St → St
  | [], st => st
  | (t, n) :: l, st => renTs l (renT st t n)
def renCs : List (Nat × Nat × Nat) → St → St
  | [], st => st
  | (tb, off, n) :: l, st => renCs l (renC st tb off n)
def Keep.nrm (k : Keep) (st : St) : St :=
  renCs k.cells (renTs k.names (St.clr { st with tmps := keepT k.tmps 0 st.tmps } fun n => (st.tabs.any fun (m, _) => m == n) && !k.tabs.contains n))

def firstRid : Code → Nat
  | .region id _ _ => id
  | .seq a b => (match a with | .skip => firstRid b | .label _ => firstRid b | a => firstRid a)
  | .block _ c => firstRid c
  | .loop c => firstRid c
  | .scope c => firstRid c
  | .cond _ a _ => 100000 + firstRid a
  | _ => 0

def nrmAt (kp : Nat → Option Keep) (i : Nat) (st : St) : St := match kp i with
  | some k => k.nrm st
  | none => st
def iter (body : St → (Ex → St → Option ρ) → Option ρ) (nrm : St → St) : Nat → St → (Ex → St → Option ρ) → Option ρ
  | 0, _, _ => none
  | n + 1, st, K => body st fun e st' => match e with
    | .normal => iter body nrm n (nrm st') K
    | e => K e st'
def itK (body : St → (Ex → St → Option ρ) → Option ρ) (nrm : St → St) (n : Nat) (K : Ex → St → Option ρ) : Ex → St → Option ρ := fun e st' => match e with
  | .normal => iter body nrm n (nrm st') K
  | e => K e st'

def seqK (rb : St → (Ex → St → Option ρ) → Option ρ) (nrm : St → St) (K : Ex → St → Option ρ) : Ex → St → Option ρ := fun e st' => match e with
  | .normal => rb (nrm st') K
  | e => K e st'
def blkK (id : Nat) (K : Ex → St → Option ρ) : Ex → St → Option ρ := fun e st' => match e with
  | .exit id' => bif id' == id then K .normal st' else K (.exit id') st'
  | e => K e st'
def run (kp : Nat → Option Keep) (fuel : Nat) : Code → St → (Ex → St → Option ρ) → Option ρ
  | .skip, st, K => K .normal st
  | .region rid ops dr, st, K => bif Nat.blt ops.size 64 && Nat.blt rid 16000 && (!dr || drawOk ops) then opsRun T O dr rid ops.toList (numbered 0 ops.toList) (st.clr (ofRegion rid)) fun st' => K .normal st' else none
  | .seq a b, st, K => run kp fuel a st (seqK (run kp fuel b) (nrmAt kp (200000 + firstRid b)) K)
  | .cond c x y, st, K => match ev st c with
    | .u (.x (.bool b)) => bif b then run kp fuel x st K else run kp fuel y st K
    | _ => none
  | .block id c, st, K => run kp fuel c st (blkK id K)
  | .loop c, st, K => iter (run kp fuel c) (nrmAt kp (firstRid c)) fuel (nrmAt kp (firstRid c) st) K
  | .exit id, st, K => K (.exit id) st
  | .label _, st, K => K .normal st
  | .ret, st, K => K .ret st
  | _, _, _ => none

/-! ### A function -/
def nameM (p : Nat) : Nat → List S → List X
  | _, [] => []
  | j, .sl c :: ss => .own (64 * p + j) c :: nameM p (j + 1) ss
  | j, s :: ss => s.toX :: nameM p (j + 1) ss
def musM (p : Nat) : Nat → List S → List (Nat × C)
  | _, [] => []
  | j, .sl c :: ss => (64 * p + j, c) :: musM p (j + 1) ss
  | j, _ :: ss => musM p (j + 1) ss
def initP (p : Nat) : Md → DU → Option (V × List (Nat × List X) × List (Nat × C))
  | .val, d => some (.u (weakD d), [], [])
  | .wr, .x s => some (.u (.x ((nameM p 0 [s]).headD .undef)), [], musM p 0 [s])
  | .wr, .agg cs => bif Nat.blt cs.length 60 then some (.u (.agg (nameM p 0 cs)), [], musM p 0 cs) else none
  | .ref, .ptr cs => bif Nat.blt cs.length 60 then some (.u (.x (.ptr (64 * p + 63) 0)), [(64 * p + 63, nameM p 0 cs)], []) else none
  | _, _ => none
def initS : Nat → List Md → List DU → Option (List V × List (Nat × List X) × List (Nat × C))
  | p, [], [] => bif Nat.ble p 60 then some ([], [], []) else none
  | p, m :: ms, d :: ds => match initP p m d with
    | some (v, t, u) => (match initS (p + 1) ms ds with
      | some (vs, ts, us) => some (v :: vs, t ++ ts, u ++ us)
      | none => none)
    | none => none
  | _, _, _ => none

/-- A cell that may be given away; 'low': into memory that was handed in. -/
def outS (low : Bool) : X → Option S
  | .own n c => bif low || !isLow n then some (.sl c) else none
  | .nil c => some (.sl c)
  | .int k n => some (.int k n)
  | .bool b => some (.bool b)
  | .str s => some (.str s)
  | _ => none
def outSs (low : Bool) : List X → Option (List S)
  | [] => some []
  | x :: xs => match outS low x with
    | some s => (match outSs low xs with
      | some ss => some (s :: ss)
      | none => none)
    | none => none
def outDs : List U → Option (List DU)
  | [] => some []
  | .x x :: us => (match outS false x with
    | some s => (match outDs us with
      | some ds => some (.x s :: ds)
      | none => none)
    | none => none)
  | .agg xs :: us => (match outSs false xs with
    | some ss => (match outDs us with
      | some ds => some (.agg ss :: ds)
      | none => none)
    | none => none)
def usToks : List U → List Nat
  | [] => []
  | u :: us => toks u.cells ++ usToks us
/-- What a parameter's slices hold now. -/
def updM (mus : List (Nat × C)) (p : Nat) : Nat → List S → Option (List S × List Nat)
  | _, [] => some ([], [])
  | j, .sl _ :: ss => (match lk mus (64 * p + j) with
    | some c => (match updM mus p (j + 1) ss with
      | some (ss', ns) => some (.sl c :: ss', (2 * (64 * p + j)) :: ns)
      | none => none)
    | none => none)
  | j, s :: ss => (match updM mus p (j + 1) ss with
    | some (ss', ns) => some (s :: ss', ns)
    | none => none)
def updP (st : St) (p : Nat) : Md → DU → Option (List DU × List Nat)
  | .val, _ => some ([], [])
  | .wr, .x s => (match updM st.mus p 0 [s] with
    | some ([s'], ns) => some ([.x s'], ns)
    | _ => none)
  | .wr, .agg cs => (match updM st.mus p 0 cs with
    | some (cs', ns) => some ([.agg cs'], ns)
    | none => none)
  | .ref, .ptr _ => (match st.get p with
    | .u (.x (.ptr n 0)) => bif n == 64 * p + 63 then (match st.tb n with
      | some xs => (match outSs true xs with
        | some ss => some ([.ptr ss], (2 * n + 1) :: (toks xs).map fun m => 2 * m)
        | none => none)
      | none => none) else none
    | _ => none)
  | _, _ => none
def updS (st : St) : Nat → List Md → List DU → Option (List DU × List Nat)
  | _, [], [] => some ([], [])
  | p, m :: ms, d :: ds => (match updP st p m d with
    | some (u, ns) => (match updS st (p + 1) ms ds with
      | some (us, ns') => some (u ++ us, ns ++ ns')
      | none => none)
    | none => none)
  | _, _, _ => none
def resU (T : TypeId → TI) (st : St) : List ResultVar → Option (List U)
  | [] => some []
  | .tmp t :: rs => (match st.get t with
    | .u u => (match resU T st rs with
      | some us => some (u :: us)
      | none => none)
    | _ => none)
  | .cell t ty :: rs => (match st.get t with
    | .u (.x x) => bif Nat.blt 0 (T ty).size then (match loadX st.tb x (T ty).size (T ty).u.isAgg with
      | some u => (match resU T st rs with
        | some us => some (u :: us)
        | none => none)
      | none => none) else none
    | _ => none)
def finish (md : List Md) (weak : Bool) (rs : List ResultVar) (ds : List DU) (st : St) (K : Out → Option ρ) : Option ρ :=
  match resU T st rs with
  | some us => (match updS st 0 md ds with
    | some (upd, ns) => bif weak then (match toDUs st.tb (us.map V.u) with
        | some res => bif nodupB ns && ((vToks st.tb (us.map V.u)).all fun n => !isLow n && !ns.contains (2 * n)) then K ⟨res, upd⟩ else none
        | none => none)
      else (match outDs us with
        | some res => bif nodupB ((usToks us).map (fun m => 2 * m) ++ ns) then K ⟨res, upd⟩ else none
        | none => none)
    | none => none)
  | none => none
def topK (md : List Md) (weak : Bool) (rs : List ResultVar) (ds : List DU) (K : Out → Option ρ) : Ex → St → Option ρ := fun e st => match e with
  | .exit _ => none
  | _ => finish T md weak rs ds st K
def runFn (kp : Nat → Option Keep) (fuel : Nat) (md : List Md) (weak : Bool) (ntmps : Nat) (rs : List ResultVar) (body : Code) (ds : List DU) (K : Out → Option ρ) : Option ρ :=
  match initS 0 md ds with
  | some (vs, tabs, mus) => run T O kp fuel body { tmps := vs ++ List.replicate (ntmps - vs.length) (.u (.x .undef)), tabs, mus } (topK T md weak rs ds K)
  | none => none
end
end Go.BV

/-
  The evaluator's values against the model's memory.
-/
namespace Go.BV

/-! ### Rows of cells -/
def row (w : World) (b : Nat) : Option (List Value) :=
  match w.heap[b]? with
  | some (.cells arr _ (lo, hi)) => if lo = 0 ∧ hi = 0 then some arr.toList else none
  | _ => none

theorem row_heap {w : World} {b : Nat} {l : List Value} (h : row w b = some l) : ∃ e, w.heap[b]? = some (.cells l.toArray e (0, 0)) := by
  unfold row at h
  split at h
  · rename_i arr e lo hi hb
    split at h
    · rename_i hz
      obtain ⟨rfl, rfl⟩ := hz
      injection h with h
      subst h
      exact ⟨e, by simpa using hb⟩
    · cases h
  · cases h
theorem row_of_heap {w : World} {b : Nat} {arr : Array Value} {e : TypeId} (h : w.heap[b]? = some (.cells arr e (0, 0))) : row w b = some arr.toList := by
  simp [row, h]
theorem row_lt {w : World} {b : Nat} {l : List Value} (h : row w b = some l) : b < w.heap.size := by
  obtain ⟨e, h⟩ := row_heap h
  exact (Array.getElem?_eq_some_iff.1 h).1
theorem row_cell {w : World} {b : Nat} {l : List Value} (h : row w b = some l) (i : Nat) : w.cell? ⟨b, i, none⟩ = l[i]? := by
  obtain ⟨e, h⟩ := row_heap h
  simp [World.cell?, h]
theorem row_frozen {w : World} {b : Nat} {l : List Value} (h : row w b = some l) (i : Nat) : w.frozen? ⟨b, i, none⟩ = false := by
  obtain ⟨e, h⟩ := row_heap h
  simp [World.frozen?, h]
theorem row_same {w w' : World} {b : Nat} (h : w'.heap[b]? = w.heap[b]?) : row w' b = row w b := by simp [row, h]
theorem cell_same {w w' : World} {a : Addr} (h : w'.heap[a.block]? = w.heap[a.block]?) : w'.cell? a = w.cell? a := by simp [World.cell?, h]
theorem heap_setCell_ne {w : World} {a : Addr} {v : Value} {b : Nat} (h : b ≠ a.block) : (w.setCell a v).heap[b]? = w.heap[b]? := by
  simp only [World.setCell, Array.getElem?_modify]
  rw [if_neg (fun e => h e.symm)]
theorem row_setCell {w : World} {b i : Nat} {v : Value} {l : List Value} (h : row w b = some l) : row (w.setCell ⟨b, i, none⟩ v) b = some (l.set i v) := by
  obtain ⟨e, h⟩ := row_heap h
  simp [row, World.setCell, Array.getElem?_modify, h]
theorem heap_alloc_lt {w : World} {o : Obj} {b : Nat} (h : b < w.heap.size) : (w.alloc o).heap[b]? = w.heap[b]? := by
  show (w.heap.push o)[b]? = _
  rw [Array.getElem?_push, if_neg (by omega)]
theorem row_alloc {w : World} {arr : Array Value} {e : TypeId} : row (w.alloc (.cells arr e)) w.heap.size = some arr.toList := by
  unfold row World.alloc
  simp only [Array.getElem?_push_size]
  rfl
theorem add_none (b o i : Nat) : (⟨b, o, none⟩ : Addr).add i = ⟨b, o + i, none⟩ := by
  unfold Addr.add
  split
  · simp_all
  · rfl
theorem add_block (a : Addr) (i : Nat) : (a.add i).block = a.block := by unfold Addr.add; split <;> rfl

/-! ### What a value reads as -/
def Reads (w : World) (Z : Nat → Prop) (v : Value) (n : Nat) (p : Nat → Value → Prop) : Prop :=
  ∃ a cap, v = .slice a n cap ∧ n ≤ cap ∧ (0 < n → ∃ ad, a = some ad ∧ ad.spot = none ∧ Z ad.block) ∧ ∀ ad, a = some ad → ∀ i, i < n → ∃ u, w.cell? (ad.add i) = some u ∧ p i u
def CR (w : World) (Z : Nat → Prop) : C → Value → Prop
  | .ints k xs, v => Reads w Z v xs.length fun i u => u = .int k (xs.getD i 0)
  | .bools xs, v => Reads w Z v xs.length fun i u => u = .bool (xs.getD i false)
  | .strs xs, v => Reads w Z v xs.length fun i u => u = .string (xs.getD i .empty)
  | .rows xs, v => Reads w Z v xs.length fun i u => Reads w Z u (xs.getD i []).length fun j t => t = .int .i64 ((xs.getD i []).getD j 0)
def SR (w : World) (Z : Nat → Prop) : S → Value → Prop
  | .int k n, v => v = .int k n
  | .bool b, v => v = .bool b
  | .str s, v => v = .string s
  | .sl c, v => CR w Z c v
theorem CR_iff {w : World} {Z : Nat → Prop} {c : C} {v : Value} : CR w Z c v ↔ Reads w Z v c.len fun i u => SR w Z (c.get i) u := by cases c <;> exact Iff.rfl

/-- What is read stays. -/
def Stay (Z : Nat → Prop) (w : World) (Z' : Nat → Prop) (w' : World) : Prop := ∀ b, Z b → Z' b ∧ w'.heap[b]? = w.heap[b]?
theorem Stay.refl (Z : Nat → Prop) (w : World) : Stay Z w Z w := fun _ h => ⟨h, rfl⟩
theorem Reads.mono {w w' : World} {Z Z' : Nat → Prop} (h : Stay Z w Z' w') {v : Value} {n : Nat} {p p' : Nat → Value → Prop} (hp : ∀ i u, p i u → p' i u) (hr : Reads w Z v n p) : Reads w' Z' v n p' := by
  obtain ⟨a, cap, rfl, h0, h1, h2⟩ := hr
  refine ⟨a, cap, rfl, h0, fun hn => ?_, fun ad had i hi => ?_⟩
  · obtain ⟨ad, e, s, z⟩ := h1 hn
    exact ⟨ad, e, s, (h _ z).1⟩
  · obtain ⟨ad', e, s, z⟩ := h1 (by omega)
    rw [had] at e
    injection e with e
    subst e
    obtain ⟨u, hu, hpu⟩ := h2 ad had i hi
    exact ⟨u, by rw [cell_same (w := w) (by rw [add_block]; exact (h _ z).2)]; exact hu, hp _ _ hpu⟩
theorem CR.mono {w w' : World} {Z Z' : Nat → Prop} (h : Stay Z w Z' w') {c : C} {v : Value} (hr : CR w Z c v) : CR w' Z' c v := by
  cases c with
  | ints k xs => exact Reads.mono h (fun _ _ x => x) hr
  | bools xs => exact Reads.mono h (fun _ _ x => x) hr
  | strs xs => exact Reads.mono h (fun _ _ x => x) hr
  | rows xs => exact Reads.mono h (fun _ _ x => Reads.mono h (fun _ _ y => y) x) hr
theorem SR.mono {w w' : World} {Z Z' : Nat → Prop} (h : Stay Z w Z' w') {s : S} {v : Value} (hr : SR w Z s v) : SR w' Z' s v := by
  cases s with
  | sl c => exact CR.mono h hr
  | _ => exact hr

/-- A slice that is somebody's own: in memory that nobody else names. -/
def OW (w : World) (Z : Nat → Prop) (v : Value) (c : C) : Prop :=
  (v = .slice none 0 0 ∧ c.len = 0) ∨
  ∃ b off cap l, v = .slice (some ⟨b, off, none⟩) c.len cap ∧ row w b = some l ∧ off + cap ≤ l.length ∧ c.len ≤ cap ∧ ∀ i, i < c.len → ∃ u, l[off + i]? = some u ∧ SR w Z (c.get i) u
theorem OW.mono {w w' : World} {Z Z' : Nat → Prop} (h : Stay Z w Z' w') {v : Value} {c : C} (hb : ∀ b, v.ownBlock = some b → w'.heap[b]? = w.heap[b]?) (ho : OW w Z v c) : OW w' Z' v c := by
  rcases ho with ho | ⟨b, off, cap, l, rfl, h1, h2, h3, h4⟩
  · exact .inl ho
  · refine .inr ⟨b, off, cap, l, rfl, by rw [row_same (hb b rfl)]; exact h1, h2, h3, fun i hi => ?_⟩
    obtain ⟨u, hu, hs⟩ := h4 i hi
    exact ⟨u, hu, hs.mono h⟩
/-- Written no more, it is read. -/
theorem OW.reads {w : World} {Z : Nat → Prop} {v : Value} {c : C} (ho : OW w Z v c) : CR w (fun b => Z b ∨ v.ownBlock = some b) c v := by
  have hs : Stay Z w (fun b => Z b ∨ v.ownBlock = some b) w := fun b hb => ⟨.inl hb, rfl⟩
  rw [CR_iff]
  rcases ho with ⟨rfl, h0⟩ | ⟨b, off, cap, l, rfl, h1, h2, h3, h4⟩
  · exact ⟨none, 0, by rw [h0], by omega, fun hn => absurd hn (by omega), fun ad h => by cases h⟩
  · refine ⟨_, cap, rfl, h3, fun _ => ⟨_, rfl, rfl, .inr rfl⟩, fun ad h i hi => ?_⟩
    injection h with h
    subst h
    obtain ⟨u, hu, hsr⟩ := h4 i hi
    exact ⟨u, by rw [add_none, row_cell h1]; exact hu, hsr.mono hs⟩

/-- A struct behind a pointer that is read. -/
def PtrR (w : World) (Z : Nat → Prop) (cs : List S) (a : Addr) : Prop :=
  a.spot = none ∧ (0 < cs.length → Z a.block) ∧ ∀ i s, cs[i]? = some s → ∃ u, w.cell? ⟨a.block, a.off + i, none⟩ = some u ∧ SR w Z s u
theorem PtrR.mono {w w' : World} {Z Z' : Nat → Prop} (h : Stay Z w Z' w') {cs : List S} {a : Addr} (hr : PtrR w Z cs a) : PtrR w' Z' cs a := by
  obtain ⟨h1, h2, h3⟩ := hr
  refine ⟨h1, fun hn => (h _ (h2 hn)).1, fun i s hi => ?_⟩
  obtain ⟨u, hu, hs⟩ := h3 i s hi
  have hz := h2 (by have := (List.getElem?_eq_some_iff.1 hi).1; omega)
  exact ⟨u, by rw [cell_same (w := w) (by exact (h _ hz).2)]; exact hu, hs.mono h⟩

/-! ### The running function's values -/
structure Gh where
  own : Nat → Option (Value × C)
  tab : Nat → Option (Nat × List Value)
  Z : Nat → Prop

def XR (g : Gh) (w : World) : X → Value → Prop
  | .int k n, v => v = .int k n
  | .bool b, v => v = .bool b
  | .str s, v => v = .string s
  | .nil c, v => v = .slice none 0 0 ∧ c.len = 0
  | .ro c, v => CR w g.Z c v
  | .own n c, v => g.own n = some (v, c)
  | .el n c i, v => ∃ a len cap, g.own n = some (.slice (some a) len cap, c) ∧ i < c.len ∧ v = .pointer (some (a.add i))
  | .roel c i, v => ∃ a len cap, CR w g.Z c (.slice (some a) len cap) ∧ i < c.len ∧ v = .pointer (some (a.add i))
  | .ptr n o, v => ∃ b vs, g.tab n = some (b, vs) ∧ v = .pointer (some ⟨b, o, none⟩)
  | .rop cs o, v => ∃ a, PtrR w g.Z cs a ∧ v = .pointer (some ⟨a.block, a.off + o, none⟩)
  | .fn f caps, v => ∃ bs : List Nat, (∃ vss : List (List Value), caps.map g.tab = (bs.zip vss).map some ∧ vss.length = bs.length) ∧ v = .func (.func f) #[] (bs.map fun b => Value.pointer (some ⟨b, 0, none⟩)).toArray
  | .nilp, v => v = .pointer none
  | .undef, _ => True
def XsR (g : Gh) (w : World) : List X → List Value → Prop
  | [], [] => True
  | x :: xs, v :: vs => XR g w x v ∧ XsR g w xs vs
  | _, _ => False
def UR (g : Gh) (w : World) : U → Value → Prop
  | .x y, v => XR g w y v
  | .agg xs, v => ∃ vs, v = .agg vs.toArray ∧ XsR g w xs vs
def UsR (g : Gh) (w : World) : List U → List Value → Prop
  | [], [] => True
  | x :: xs, v :: vs => UR g w x v ∧ UsR g w xs vs
  | _, _ => False
def VR (g : Gh) (w : World) : V → Value → Prop
  | .u y, v => UR g w y v
  | .tup us, v => ∃ vs, v = .tuple vs.toArray ∧ UsR g w us vs

theorem XsR.length {g : Gh} {w : World} : ∀ {xs : List X} {vs : List Value}, XsR g w xs vs → xs.length = vs.length
  | [], [], _ => rfl
  | _ :: _, _ :: _, h => by simp [XsR.length h.2]
  | [], _ :: _, h => h.elim
  | _ :: _, [], h => h.elim
theorem XsR.get {g : Gh} {w : World} : ∀ {xs : List X} {vs : List Value}, XsR g w xs vs → ∀ {i : Nat} {x : X}, xs[i]? = some x → ∃ v, vs[i]? = some v ∧ XR g w x v
  | [], [], _, i, x, h => by simp at h
  | _ :: _, v :: _, h, 0, x, hx => by simp at hx; subst hx; exact ⟨v, rfl, h.1⟩
  | _ :: _, _ :: _, h, i + 1, x, hx => by simpa using XsR.get h.2 (by simpa using hx)
  | [], _ :: _, h, _, _, _ => h.elim
  | _ :: _, [], h, _, _, _ => h.elim
theorem XsR.append {g : Gh} {w : World} : ∀ {xs ys : List X} {vs us : List Value}, XsR g w xs vs → XsR g w ys us → XsR g w (xs ++ ys) (vs ++ us)
  | [], _, [], _, _, h => h
  | _ :: _, _, _ :: _, _, h, k => ⟨h.1, XsR.append h.2 k⟩
  | [], _, _ :: _, _, h, _ => h.elim
  | _ :: _, _, [], _, h, _ => h.elim
theorem XsR.take {g : Gh} {w : World} : ∀ {xs : List X} {vs : List Value} (n : Nat), XsR g w xs vs → XsR g w (xs.take n) (vs.take n)
  | [], [], n, _ => by simp [XsR]
  | _ :: _, _ :: _, 0, _ => by simp [XsR]
  | _ :: _, _ :: _, n + 1, h => ⟨h.1, XsR.take n h.2⟩
  | [], _ :: _, _, h => h.elim
  | _ :: _, [], _, h => h.elim
theorem XsR.drop {g : Gh} {w : World} : ∀ {xs : List X} {vs : List Value} (n : Nat), XsR g w xs vs → XsR g w (xs.drop n) (vs.drop n)
  | [], [], n, _ => by simp [XsR]
  | _ :: _, _ :: _, 0, h => h
  | _ :: _, _ :: _, n + 1, h => XsR.drop n h.2
  | [], _ :: _, _, h => h.elim
  | _ :: _, [], _, h => h.elim

/-- A change of a cell's words that keeps what they say. -/
structure Tr (g : Gh) (w : World) (g' : Gh) (w' : World) (f : X → X) : Prop where
  tr : ∀ x v, XR g w x v → XR g' w' (f x) v
theorem Tr.xs {g g' : Gh} {w w' : World} {f : X → X} (h : Tr g w g' w' f) : ∀ {xs : List X} {vs : List Value}, XsR g w xs vs → XsR g' w' (xs.map f) vs
  | [], [], _ => trivial
  | _ :: _, _ :: _, k => ⟨h.tr _ _ k.1, h.xs k.2⟩
  | [], _ :: _, k => k.elim
  | _ :: _, [], k => k.elim
theorem Tr.u {g g' : Gh} {w w' : World} {f : X → X} (h : Tr g w g' w' f) {u : U} {v : Value} (k : UR g w u v) : UR g' w' (u.mp f) v := by
  cases u with
  | x y => exact h.tr _ _ k
  | agg xs => obtain ⟨vs, rfl, k⟩ := k; exact ⟨vs, rfl, h.xs k⟩
theorem Tr.us {g g' : Gh} {w w' : World} {f : X → X} (h : Tr g w g' w' f) : ∀ {xs : List U} {vs : List Value}, UsR g w xs vs → UsR g' w' (xs.map (U.mp f)) vs
  | [], [], _ => trivial
  | _ :: _, _ :: _, k => ⟨h.u k.1, h.us k.2⟩
  | [], _ :: _, k => k.elim
  | _ :: _, [], k => k.elim
theorem Tr.v {g g' : Gh} {w w' : World} {f : X → X} (h : Tr g w g' w' f) {x : V} {v : Value} (k : VR g w x v) : VR g' w' (x.mp f) v := by
  cases x with
  | u y => exact h.u k
  | tup us => obtain ⟨vs, rfl, k⟩ := k; exact ⟨vs, rfl, h.us k⟩

theorem tr_id {g g' : Gh} {w w' : World} (hz : Stay g.Z w g'.Z w') (ho : ∀ n v c, g.own n = some (v, c) → g'.own n = some (v, c)) (ht : ∀ n b vs, g.tab n = some (b, vs) → ∃ vs', g'.tab n = some (b, vs')) : Tr g w g' w' id := by
  refine ⟨fun x v h => ?_⟩
  cases x with
  | ro c => exact CR.mono hz h
  | own n c => exact ho _ _ _ h
  | el n c i => obtain ⟨a, len, cap, h1, h2, h3⟩ := h; exact ⟨a, len, cap, ho _ _ _ h1, h2, h3⟩
  | roel c i => obtain ⟨a, len, cap, h1, h2, h3⟩ := h; exact ⟨a, len, cap, CR.mono hz h1, h2, h3⟩
  | ptr n o => obtain ⟨b, vs, h1, h2⟩ := h; obtain ⟨vs', h3⟩ := ht _ _ _ h1; exact ⟨b, vs', h3, h2⟩
  | rop cs o => obtain ⟨a, h1, h2⟩ := h; exact ⟨a, h1.mono hz, h2⟩
  | fn f caps =>
    obtain ⟨bs, ⟨vss, h1, h2⟩, h3⟩ := h
    refine ⟨bs, ?_, h3⟩
    clear h3
    induction caps generalizing bs vss with
    | nil => exact ⟨vss, h1, h2⟩
    | cons n caps ih =>
      cases bs with
      | nil => simp at h1
      | cons b bs =>
        cases vss with
        | nil => simp at h2
        | cons vs vss =>
          simp only [List.map_cons, List.zip_cons_cons] at h1
          injection h1 with h1 h1'
          obtain ⟨vs', h3⟩ := ht _ _ _ h1
          obtain ⟨vss', h4, h5⟩ := ih bs vss h1' (by simpa using h2)
          exact ⟨vs' :: vss', by simp [h3, h4], by simp [h5]⟩
  | _ => exact h

theorem map_id_u (u : U) : u.mp id = u := by cases u <;> simp [U.mp]
theorem map_id_v (v : V) : v.mp id = v := by
  cases v with
  | u y => simp [V.mp, map_id_u]
  | tup us =>
    simp only [V.mp]
    congr 1
    induction us with
    | nil => rfl
    | cons x xs ih => simp [map_id_u, ih]

/-- Names dropped. -/
theorem tr_clr {g g' : Gh} {w w' : World} (p : Nat → Bool) (hz : Stay g.Z w g'.Z w') (ho : ∀ n v c, p n = false → g.own n = some (v, c) → g'.own n = some (v, c))
    (ht : ∀ n b vs, p n = false → g.tab n = some (b, vs) → ∃ vs', g'.tab n = some (b, vs')) : Tr g w g' w' (X.clr p) := by
  refine ⟨fun x v h => ?_⟩
  cases x with
  | ro c => exact CR.mono hz h
  | own n c =>
    show XR g' w' (bif p n then _ else _) v
    cases e : p n
    · exact ho _ _ _ e h
    · trivial
  | el n c i =>
    show XR g' w' (bif p n then _ else _) v
    cases e : p n
    · obtain ⟨a, len, cap, h1, h2, h3⟩ := h; exact ⟨a, len, cap, ho _ _ _ e h1, h2, h3⟩
    · trivial
  | roel c i => obtain ⟨a, len, cap, h1, h2, h3⟩ := h; exact ⟨a, len, cap, CR.mono hz h1, h2, h3⟩
  | ptr n o =>
    show XR g' w' (bif p n then _ else _) v
    cases e : p n
    · obtain ⟨b, vs, h1, h2⟩ := h; obtain ⟨vs', h3⟩ := ht _ _ _ e h1; exact ⟨b, vs', h3, h2⟩
    · trivial
  | rop cs o => obtain ⟨a, h1, h2⟩ := h; exact ⟨a, h1.mono hz, h2⟩
  | fn f caps =>
    show XR g' w' (bif caps.any p then _ else _) v
    cases e : caps.any p
    · obtain ⟨bs, ⟨vss, h1, h2⟩, h3⟩ := h
      refine ⟨bs, ?_, h3⟩
      clear h3
      induction caps generalizing bs vss with
      | nil => exact ⟨vss, h1, h2⟩
      | cons n caps ih =>
        simp only [List.any_cons, Bool.or_eq_false_iff] at e
        cases bs with
        | nil => simp at h1
        | cons b bs =>
          cases vss with
          | nil => simp at h2
          | cons vs vss =>
            simp only [List.map_cons, List.zip_cons_cons] at h1
            injection h1 with h1 h1'
            obtain ⟨vs', h3⟩ := ht _ _ _ e.1 h1
            obtain ⟨vss', h4, h5⟩ := ih e.2 bs vss h1' (by simpa using h2)
            exact ⟨vs' :: vss', by simp [h3, h4], by simp [h5]⟩
    · trivial
  | _ => exact h

/-- A slice holds something else. -/
theorem tr_set {g g' : Gh} {w w' : World} (n : Nat) (c' : C) (hz : Stay g.Z w g'.Z w') (ho : ∀ m v c, m ≠ n → g.own m = some (v, c) → g'.own m = some (v, c))
    (hn : ∀ v c, g.own n = some (v, c) → g'.own n = some (v, c') ∧ c.len = c'.len) (ht : ∀ n b vs, g.tab n = some (b, vs) → ∃ vs', g'.tab n = some (b, vs')) : Tr g w g' w' (X.sub n (.setc c')) := by
  refine ⟨fun x v h => ?_⟩
  have hid := tr_id (g := { g with own := fun _ => none }) (g' := { g' with own := fun _ => none }) (w := w) (w' := w') hz (fun _ _ _ h => by cases h) ht
  cases x with
  | own m c =>
    show XR g' w' (bif m == n then _ else _) v
    cases e : m == n
    · exact ho _ _ _ (by simpa using e) h
    · obtain rfl : m = n := by simpa using e
      exact (hn _ _ h).1
  | el m c i =>
    show XR g' w' (bif m == n then _ else _) v
    obtain ⟨a, len, cap, h1, h2, h3⟩ := h
    cases e : m == n
    · exact ⟨a, len, cap, ho _ _ _ (by simpa using e) h1, h2, h3⟩
    · obtain rfl : m = n := by simpa using e
      have := hn _ _ h1
      exact ⟨a, len, cap, this.1, by omega, h3⟩
  | ro c => exact hid.tr (.ro c) v h
  | roel c i => exact hid.tr (.roel c i) v h
  | ptr m o => exact hid.tr (.ptr m o) v h
  | rop cs o => exact hid.tr (.rop cs o) v h
  | fn f caps => exact hid.tr (.fn f caps) v h
  | _ => exact h

/-- A slice is written no more. -/
theorem tr_ro {g g' : Gh} {w w' : World} (n : Nat) (hz : Stay g.Z w g'.Z w') (ho : ∀ m v c, m ≠ n → g.own m = some (v, c) → g'.own m = some (v, c))
    (hn : ∀ v c, g.own n = some (v, c) → CR w' g'.Z c v) (ht : ∀ n b vs, g.tab n = some (b, vs) → ∃ vs', g'.tab n = some (b, vs')) : Tr g w g' w' (X.sub n .ro) := by
  refine ⟨fun x v h => ?_⟩
  have hid := tr_id (g := { g with own := fun _ => none }) (g' := { g' with own := fun _ => none }) (w := w) (w' := w') hz (fun _ _ _ h => by cases h) ht
  cases x with
  | own m c =>
    show XR g' w' (bif m == n then _ else _) v
    cases e : m == n
    · exact ho _ _ _ (by simpa using e) h
    · obtain rfl : m = n := by simpa using e
      exact hn _ _ h
  | el m c i =>
    show XR g' w' (bif m == n then _ else _) v
    obtain ⟨a, len, cap, h1, h2, h3⟩ := h
    cases e : m == n
    · exact ⟨a, len, cap, ho _ _ _ (by simpa using e) h1, h2, h3⟩
    · obtain rfl : m = n := by simpa using e
      exact ⟨a, len, cap, hn _ _ h1, h2, h3⟩
  | ro c => exact hid.tr (.ro c) v h
  | roel c i => exact hid.tr (.roel c i) v h
  | ptr m o => exact hid.tr (.ptr m o) v h
  | rop cs o => exact hid.tr (.rop cs o) v h
  | fn f caps => exact hid.tr (.fn f caps) v h
  | _ => exact h
end Go.BV

/-
  The state against the memory, and the changes that keep the two together.
-/
namespace Go.BV

/-- What is fixed while a function runs. -/
structure Fx where
  w0 : World
  M : Nat → Prop
  Z0 : Nat → Prop
  mv : Nat → Value
  tv : Nat → Nat
  Mlt : ∀ b, M b → b < w0.heap.size

structure WG (F : Fx) (g : Gh) (w : World) : Prop where
  os : w.os = F.w0.os
  tape : w.tape = F.w0.tape
  output : w.output = F.w0.output
  size : F.w0.heap.size ≤ w.heap.size
  frame : ∀ b, b < F.w0.heap.size → ¬ F.M b → w.heap[b]? = F.w0.heap[b]?
  Zok : ∀ b, g.Z b → b < w.heap.size ∧ ¬ F.M b ∧ (F.Z0 b ∨ F.w0.heap.size ≤ b)
  Zin : ∀ b, F.Z0 b → g.Z b
  own : ∀ n v c, g.own n = some (v, c) → OW w g.Z v c
  ownP : ∀ n v c b, g.own n = some (v, c) → v.ownBlock = some b → ¬ g.Z b ∧ (F.w0.heap.size ≤ b ∨ (F.M b ∧ isLow n = true))
  ownD : ∀ n v c b n' v' c', g.own n = some (v, c) → v.ownBlock = some b → g.own n' = some (v', c') → v'.ownBlock = some b → n = n'
  tab : ∀ n b vs, g.tab n = some (b, vs) → row w b = some vs
  tabP : ∀ n b vs, g.tab n = some (b, vs) → ¬ g.Z b ∧ (F.w0.heap.size ≤ b ∨ (F.M b ∧ isLow n = true))
  tabD : ∀ n b vs n' vs', g.tab n = some (b, vs) → g.tab n' = some (b, vs') → n = n'
  otD : ∀ n v c b n' vs, g.own n = some (v, c) → v.ownBlock = some b → g.tab n' = some (b, vs) → False

structure SG (F : Fx) (g : Gh) (w : World) (st : St) (a : Act) : Prop where
  size : st.tmps.length = a.tmps.size
  tmps : ∀ (i : Nat) (v : V), st.tmps[i]? = some v → ∃ u : Value, a.tmps[i]? = some u ∧ VR g w v u
  defers : a.defers = []
  tabs : ∀ n b vs, g.tab n = some (b, vs) → ∃ cs, st.tb n = some cs ∧ XsR g w cs vs
  mus : ∀ n c, lk st.mus n = some c → g.own n = some (F.mv n, c)
  low : ∀ n b vs, n < 4096 → g.tab n = some (b, vs) → F.tv n = b

structure R (F : Fx) (g : Gh) (st : St) (a : Act) (w : World) : Prop where
  s : SG F g w st a
  w : WG F g w

/-! ### Lists by names -/
section lists
variable {α β : Type}
theorem lk_filter (p : Nat → Bool) (f : α → β) : ∀ (l : List (Nat × α)) (n : Nat), lk ((l.filter fun (m, _) => !p m).map fun (m, a) => (m, f a)) n = bif p n then none else (lk l n).map f
  | [], n => by cases h : p n <;> simp [lk, h]
  | (m, a) :: l, n => by
    have ih := lk_filter p f l n
    by_cases e : m = n
    · subst e
      cases h : p m
      · simp [h, lk]
      · simp only [List.filter_cons, h, Bool.not_true, Bool.false_eq_true, if_false, ih, cond_true]
    · have e' : (m == n) = false := by simpa using e
      cases h : p m
      · simp only [List.filter_cons, h, Bool.not_false, if_true, List.map_cons, lk, e', cond_false]
        exact ih
      · simp only [List.filter_cons, h, Bool.not_true, Bool.false_eq_true, if_false, lk, e', cond_false]
        exact ih
theorem lk_filter0 (p : Nat → Bool) (l : List (Nat × α)) (n : Nat) : lk (l.filter fun (m, _) => !p m) n = bif p n then none else lk l n := by
  have := lk_filter p (id : α → α) l n
  simpa using this
theorem lk_map (f : α → β) : ∀ (l : List (Nat × α)) (n : Nat), lk (l.map fun (m, a) => (m, f a)) n = (lk l n).map f
  | [], n => by simp [lk]
  | (m, a) :: l, n => by
    have ih := lk_map f l n
    cases h : m == n
    · simp only [List.map_cons, lk, h, cond_false]; exact ih
    · simp [lk, h]
theorem lk_setl_ne : ∀ (l : List (Nat × α)) (n m : Nat) (b : α), m ≠ n → lk (setl l n b) m = lk l m
  | [], _, _, _, _ => rfl
  | (k, a) :: l, n, m, b, h => by
    have ih := lk_setl_ne l n m b h
    cases e : k == n
    · simp only [setl, e, cond_false, lk, ih]
    · obtain rfl : k = n := by simpa using e
      have e' : (k == m) = false := by simpa using fun q => h q.symm
      simp [setl, lk, e']
theorem lk_setl_eq : ∀ (l : List (Nat × α)) (n : Nat) (b a : α), lk l n = some a → lk (setl l n b) n = some b
  | [], _, _, _, h => by simp [lk] at h
  | (k, c) :: l, n, b, a, h => by
    cases e : k == n
    · simp only [setl, e, cond_false, lk]
      exact lk_setl_eq l n b a (by simpa [lk, e] using h)
    · simp [setl, lk, e]
theorem lk_setl_none : ∀ (l : List (Nat × α)) (n : Nat) (b : α) (m : Nat), lk l m = none → lk (setl l n b) m = none
  | [], _, _, _, _ => rfl
  | (k, c) :: l, n, b, m, h => by
    cases e : k == m
    · have h' : lk l m = none := by simpa [lk, e] using h
      cases e2 : k == n
      · simp only [setl, e2, cond_false, lk, e]; exact lk_setl_none l n b m h'
      · simp only [setl, e2, cond_true, lk, e, cond_false]; exact h'
    · simp [lk, e] at h
theorem lk_insl_eq : ∀ (l : List (Nat × α)) (n : Nat) (b : α), lk l n = none → lk (insl l n b) n = some b
  | [], n, b, _ => by simp [insl, lk]
  | (k, c) :: l, n, b, h => by
    cases e : k == n
    · have h' : lk l n = none := by simpa [lk, e] using h
      cases e2 : Nat.blt n k
      · simp only [insl, e2, cond_false, lk, e]; exact lk_insl_eq l n b h'
      · simp [insl, e2, lk]
    · simp [lk, e] at h
theorem lk_insl_ne : ∀ (l : List (Nat × α)) (n m : Nat) (b : α), m ≠ n → lk (insl l n b) m = lk l m
  | [], n, m, b, h => by
    have : (n == m) = false := by simpa using fun q => h q.symm
    simp [insl, lk, this]
  | (k, c) :: l, n, m, b, h => by
    have e' : (n == m) = false := by simpa using fun q => h q.symm
    cases e2 : Nat.blt n k
    · simp only [insl, e2, cond_false, lk]; rw [lk_insl_ne l n m b h]
    · simp [insl, e2, lk, e']
end lists

/-! ### Changes -/
theorem R.put {F : Fx} {g : Gh} {st : St} {a : Act} {w : World} (h : R F g st a w) {v : V} {u : Value} (hv : VR g w v u) (dst : Option Tmp) : R F g (st.put dst v) (a.put dst u) w := by
  cases dst with
  | none => exact h
  | some d =>
    refine ⟨⟨by simpa [St.put, Act.put] using h.s.size, fun i x hx => ?_, h.s.defers, h.s.tabs, h.s.mus, h.s.low⟩, h.w⟩
    simp only [St.put, List.getElem?_set] at hx
    simp only [Act.put, Array.getElem?_setIfInBounds]
    split at hx
    · rename_i e
      subst e
      split at hx
      · rename_i hd
        injection hx with hx
        subst hx
        rw [if_pos rfl, if_pos (by rw [← h.s.size]; exact hd)]
        exact ⟨u, rfl, hv⟩
      · cases hx
    · rename_i e
      rw [if_neg e]
      exact h.s.tmps i x hx

theorem WG.stay {F : Fx} {g : Gh} {w : World} (h : WG F g w) {w' : World} (hh : ∀ b, b < w.heap.size → w'.heap[b]? = w.heap[b]?) : Stay g.Z w g.Z w' := fun b hb => ⟨hb, hh b (h.Zok b hb).1⟩
theorem own_lt {w : World} {Z : Nat → Prop} {v : Value} {c : C} (h : OW w Z v c) {b : Nat} (hb : v.ownBlock = some b) : b < w.heap.size := by
  rcases h with ⟨rfl, _⟩ | ⟨b', off, cap, l, rfl, h1, _⟩
  · simp [Value.ownBlock] at hb
  · have : b' = b := by simpa [Value.ownBlock] using hb
    subst this
    exact row_lt h1

/-- New memory, or none: what is named stays. -/
theorem R.grow {F : Fx} {g : Gh} {st : St} {a : Act} {w w' : World} (h : R F g st a w) (hos : w'.os = w.os) (ht : w'.tape = w.tape) (ho : w'.output = w.output) (hs : w.heap.size ≤ w'.heap.size)
    (hh : ∀ b, b < w.heap.size → w'.heap[b]? = w.heap[b]?) : R F g st a w' := by
  have hst := h.w.stay hh
  have tr := tr_id (g := g) (g' := g) hst (fun _ _ _ h => h) (fun _ b vs h => ⟨vs, h⟩)
  refine ⟨⟨h.s.size, fun i v hv => ?_, h.s.defers, fun n b vs hn => ?_, h.s.mus, h.s.low⟩, ⟨hos.trans h.w.os, ht.trans h.w.tape, ho.trans h.w.output, Nat.le_trans h.w.size hs, fun b hb hm => ?_, fun b hb => ?_, h.w.Zin, fun n v c hn => ?_, h.w.ownP, h.w.ownD, fun n b vs hn => ?_, h.w.tabP, h.w.tabD, h.w.otD⟩⟩
  · obtain ⟨u, hu, hr⟩ := h.s.tmps i v hv
    exact ⟨u, hu, by simpa [map_id_v] using tr.v hr⟩
  · obtain ⟨cs, h1, h2⟩ := h.s.tabs n b vs hn
    exact ⟨cs, h1, by simpa using tr.xs h2⟩
  · exact (hh b (Nat.lt_of_lt_of_le hb h.w.size)).trans (h.w.frame b hb hm)
  · have := h.w.Zok b hb
    exact ⟨Nat.lt_of_lt_of_le this.1 hs, this.2⟩
  · have := h.w.own n v c hn
    exact this.mono hst fun b hb => hh b (own_lt this hb)
  · have := h.w.tab n b vs hn
    rw [row_same (hh b (row_lt this))]
    exact this
theorem R.draw {F : Fx} {g : Gh} {st : St} {a : Act} {w : World} (h : R F g st a w) (k : Nat) : R F g st a { w with drawn := k } := h.grow rfl rfl rfl (Nat.le_refl _) fun _ _ => rfl
theorem R.alloc {F : Fx} {g : Gh} {st : St} {a : Act} {w : World} (h : R F g st a w) (o : Obj) : R F g st a (w.alloc o) := h.grow rfl rfl rfl (by simp) fun _ hb => heap_alloc_lt hb

/-- Names dropped. -/
def Gh.clr (g : Gh) (p : Nat → Bool) : Gh := { g with own := fun n => bif p n then none else g.own n, tab := fun n => bif p n then none else g.tab n }
theorem Gh.clr_own {g : Gh} {p : Nat → Bool} {n : Nat} {x : Value × C} : (g.clr p).own n = some x ↔ p n = false ∧ g.own n = some x := by
  simp only [Gh.clr]; cases p n <;> simp
theorem Gh.clr_tab {g : Gh} {p : Nat → Bool} {n : Nat} {x : Nat × List Value} : (g.clr p).tab n = some x ↔ p n = false ∧ g.tab n = some x := by
  simp only [Gh.clr]; cases p n <;> simp
theorem SG.map {F : Fx} {g g' : Gh} {w w' : World} {st : St} {a : Act} (h : SG F g w st a) {f : X → X} (tr : Tr g w g' w' f) {tabs' : List (Nat × List X)} {mus' : List (Nat × C)}
    (ht : ∀ n b vs, g'.tab n = some (b, vs) → ∃ cs, lk tabs' n = some cs ∧ XsR g' w' cs vs) (hm : ∀ n c, lk mus' n = some c → g'.own n = some (F.mv n, c)) (hl : ∀ n b vs, n < 4096 → g'.tab n = some (b, vs) → F.tv n = b) :
    SG F g' w' { tmps := st.tmps.map (V.mp f), tabs := tabs', mus := mus' } a := by
  refine ⟨by simpa using h.size, fun i v hv => ?_, h.defers, ht, hm, hl⟩
  simp only [List.getElem?_map, Option.map_eq_some_iff] at hv
  obtain ⟨v0, hv0, rfl⟩ := hv
  obtain ⟨u, hu, hr⟩ := h.tmps i v0 hv0
  exact ⟨u, hu, tr.v hr⟩
theorem R.clr {F : Fx} {g : Gh} {st : St} {a : Act} {w : World} (h : R F g st a w) (p : Nat → Bool) : R F (g.clr p) (st.clr p) a w := by
  have tr : Tr g w (g.clr p) w (X.clr p) := tr_clr p (Stay.refl _ _) (fun n v c hp hn => Gh.clr_own.2 ⟨hp, hn⟩) (fun n b vs hp hn => ⟨vs, Gh.clr_tab.2 ⟨hp, hn⟩⟩)
  refine ⟨h.s.map tr (fun n b vs hn => ?_) (fun n c hn => ?_) (fun n b vs hl hn => h.s.low n b vs hl (Gh.clr_tab.1 hn).2), ⟨h.w.os, h.w.tape, h.w.output, h.w.size, h.w.frame, h.w.Zok, h.w.Zin, fun n v c hn => h.w.own n v c (Gh.clr_own.1 hn).2, fun n v c b hn => h.w.ownP n v c b (Gh.clr_own.1 hn).2,
    fun n v c b n' v' c' hn hb hn' => h.w.ownD n v c b n' v' c' (Gh.clr_own.1 hn).2 hb (Gh.clr_own.1 hn').2, fun n b vs hn => h.w.tab n b vs (Gh.clr_tab.1 hn).2, fun n b vs hn => h.w.tabP n b vs (Gh.clr_tab.1 hn).2,
    fun n b vs n' vs' hn hn' => h.w.tabD n b vs n' vs' (Gh.clr_tab.1 hn).2 (Gh.clr_tab.1 hn').2, fun n v c b n' vs hn hb hn' => h.w.otD n v c b n' vs (Gh.clr_own.1 hn).2 hb (Gh.clr_tab.1 hn').2⟩⟩
  · obtain ⟨hp, hn⟩ := Gh.clr_tab.1 hn
    obtain ⟨cs, h1, h2⟩ := h.s.tabs n b vs hn
    refine ⟨cs.map (X.clr p), ?_, tr.xs h2⟩
    rw [lk_filter p (List.map (X.clr p))]
    simp only [St.tb] at h1
    simp [hp, h1]
  · rw [lk_filter0 p] at hn
    cases hp : p n
    · rw [hp, cond_false] at hn
      exact Gh.clr_own.2 ⟨hp, h.s.mus n c hn⟩
    · rw [hp] at hn; cases hn

/-- A new slice of the function's own. -/
def Gh.setOwn (g : Gh) (n : Nat) (x : Value × C) : Gh := { g with own := fun m => if m = n then some x else g.own m }
def Gh.setTab (g : Gh) (n : Nat) (x : Nat × List Value) : Gh := { g with tab := fun m => if m = n then some x else g.tab m }
theorem setOwn_own {g : Gh} {n m : Nat} {x y : Value × C} : (g.setOwn n x).own m = some y ↔ (m = n ∧ x = y) ∨ (m ≠ n ∧ g.own m = some y) := by
  simp only [Gh.setOwn]
  by_cases e : m = n <;> simp [e]
theorem setTab_tab {g : Gh} {n m : Nat} {x y : Nat × List Value} : (g.setTab n x).tab m = some y ↔ (m = n ∧ x = y) ∨ (m ≠ n ∧ g.tab m = some y) := by
  simp only [Gh.setTab]
  by_cases e : m = n <;> simp [e]

/-- A block that nobody names. -/
structure Free (F : Fx) (g : Gh) (b : Nat) : Prop where
  z : ¬ g.Z b
  own : ∀ n v c, g.own n = some (v, c) → v.ownBlock ≠ some b
  tab : ∀ n vs, g.tab n ≠ some (b, vs)
theorem R.free {F : Fx} {g : Gh} {st : St} {a : Act} {w : World} (h : R F g st a w) {b : Nat} (hb : w.heap.size ≤ b) : Free F g b :=
  ⟨fun hz => by have := (h.w.Zok b hz).1; omega, fun n v c hn e => by have := own_lt (h.w.own n v c hn) e; omega, fun n vs hn => by have := row_lt (h.w.tab n b vs hn); omega⟩

theorem R.newOwn {F : Fx} {g : Gh} {st : St} {a : Act} {w : World} (h : R F g st a w) {n : Nat} {v : Value} {c : C} (hn : g.own n = none) (ho : OW w g.Z v c)
    (hf : ∀ b, v.ownBlock = some b → Free F g b ∧ (F.w0.heap.size ≤ b ∨ (F.M b ∧ isLow n = true))) : R F (g.setOwn n (v, c)) st a w := by
  have hle : ∀ m x, g.own m = some x → (g.setOwn n (v, c)).own m = some x := fun m x hm => setOwn_own.2 (.inr ⟨fun e => (by rw [e, hn] at hm; cases hm), hm⟩)
  have tr : Tr g w (g.setOwn n (v, c)) w id := tr_id (Stay.refl _ _) (fun m x y hm => hle m _ hm) (fun _ b vs h => ⟨vs, h⟩)
  refine ⟨⟨h.s.size, fun i x hx => ?_, h.s.defers, fun m b vs hm => ?_, fun m x hm => hle _ _ (h.s.mus m x hm), h.s.low⟩, ⟨h.w.os, h.w.tape, h.w.output, h.w.size, h.w.frame, h.w.Zok, h.w.Zin, fun m x y hm => ?_, fun m x y b hm hb => ?_, fun m x y b m' x' y' hm hb hm' hb' => ?_, h.w.tab, h.w.tabP, h.w.tabD, fun m x y b m' vs hm hb hm' => ?_⟩⟩
  · obtain ⟨u, hu, hr⟩ := h.s.tmps i x hx
    exact ⟨u, hu, by simpa [map_id_v] using tr.v hr⟩
  · obtain ⟨cs, h1, h2⟩ := h.s.tabs m b vs hm
    exact ⟨cs, h1, by simpa using tr.xs h2⟩
  · rcases setOwn_own.1 hm with ⟨_, e⟩ | ⟨_, hm⟩
    · cases e; exact ho
    · exact h.w.own m x y hm
  · rcases setOwn_own.1 hm with ⟨rfl, e⟩ | ⟨_, hm⟩
    · cases e; exact ⟨(hf b hb).1.z, (hf b hb).2⟩
    · exact h.w.ownP m x y b hm hb
  · rcases setOwn_own.1 hm with ⟨rfl, e⟩ | ⟨_, hm1⟩ <;> rcases setOwn_own.1 hm' with ⟨rfl, e'⟩ | ⟨_, hm2⟩
    · rfl
    · cases e; exact absurd hb' ((hf b hb).1.own _ _ _ hm2)
    · cases e'; exact absurd hb ((hf b hb').1.own _ _ _ hm1)
    · exact h.w.ownD m x y b m' x' y' hm1 hb hm2 hb'
  · rcases setOwn_own.1 hm with ⟨rfl, e⟩ | ⟨_, hm⟩
    · cases e; exact (hf b hb).1.tab _ _ hm'
    · exact h.w.otD m x y b m' vs hm hb hm'

theorem R.newTab {F : Fx} {g : Gh} {st : St} {a : Act} {w : World} (h : R F g st a w) {n b : Nat} {vs : List Value} {cs : List X} (hn : g.tab n = none) (hs : st.tb n = none) (hr : row w b = some vs) (hx : XsR g w cs vs)
    (hf : Free F g b) (hb : F.w0.heap.size ≤ b) (hl : 4096 ≤ n) : R F (g.setTab n (b, vs)) { st with tabs := insl st.tabs n cs } a w := by
  have hle : ∀ m x, g.tab m = some x → (g.setTab n (b, vs)).tab m = some x := fun m x hm => setTab_tab.2 (.inr ⟨fun e => (by rw [e, hn] at hm; cases hm), hm⟩)
  have tr : Tr g w (g.setTab n (b, vs)) w id := tr_id (Stay.refl _ _) (fun m x y hm => hm) (fun m b vs h => ⟨vs, hle _ _ h⟩)
  refine ⟨⟨h.s.size, fun i x hx => ?_, h.s.defers, fun m b' vs' hm => ?_, h.s.mus, fun m b' vs' hlow hm => ?_⟩, ⟨h.w.os, h.w.tape, h.w.output, h.w.size, h.w.frame, h.w.Zok, h.w.Zin, h.w.own, h.w.ownP, h.w.ownD, fun m b' vs' hm => ?_, fun m b' vs' hm => ?_, fun m b' vs' m' vs'' hm hm' => ?_, fun m x y b' m' vs' hm hb' hm' => ?_⟩⟩
  · obtain ⟨u, hu, hr⟩ := h.s.tmps i x hx
    exact ⟨u, hu, by simpa [map_id_v] using tr.v hr⟩
  · rcases setTab_tab.1 hm with ⟨rfl, e⟩ | ⟨hne, hm⟩
    · cases e; exact ⟨cs, lk_insl_eq _ _ _ hs, by simpa using tr.xs hx⟩
    · obtain ⟨cs', h1, h2⟩ := h.s.tabs m b' vs' hm
      exact ⟨cs', (lk_insl_ne _ _ _ _ hne).trans h1, by simpa using tr.xs h2⟩
  · rcases setTab_tab.1 hm with ⟨rfl, e⟩ | ⟨hne, hm⟩
    · omega
    · exact h.s.low m b' vs' hlow hm
  · rcases setTab_tab.1 hm with ⟨rfl, e⟩ | ⟨hne, hm⟩
    · cases e; exact hr
    · exact h.w.tab m b' vs' hm
  · rcases setTab_tab.1 hm with ⟨rfl, e⟩ | ⟨hne, hm⟩
    · cases e; exact ⟨hf.z, .inl hb⟩
    · exact h.w.tabP m b' vs' hm
  · rcases setTab_tab.1 hm with ⟨rfl, e⟩ | ⟨hne, hm1⟩ <;> rcases setTab_tab.1 hm' with ⟨rfl, e'⟩ | ⟨hne', hm2⟩
    · rfl
    · cases e; exact absurd hm2 (hf.tab _ _)
    · cases e'; exact absurd hm1 (hf.tab _ _)
    · exact h.w.tabD m b' vs' m' vs'' hm1 hm2
  · rcases setTab_tab.1 hm' with ⟨rfl, e⟩ | ⟨hne, hm'⟩
    · cases e; exact hf.own _ _ _ hm hb'
    · exact h.w.otD m x y b' m' vs' hm hb' hm'

/-- A slice that is written no more. -/
def Gh.ro (g : Gh) (n : Nat) : Gh := { own := fun m => if m = n then none else g.own m, tab := g.tab, Z := fun b => g.Z b ∨ ∃ v c, g.own n = some (v, c) ∧ v.ownBlock = some b }
theorem ro_own {g : Gh} {n m : Nat} {y : Value × C} : (g.ro n).own m = some y ↔ m ≠ n ∧ g.own m = some y := by
  simp only [Gh.ro]
  by_cases e : m = n <;> simp [e]
theorem R.ro {F : Fx} {g : Gh} {st : St} {a : Act} {w : World} (h : R F g st a w) {n : Nat} (hl : isLow n = false) : R F (g.ro n) (st.sub n .ro) a w := by
  have hz : Stay g.Z w (g.ro n).Z w := fun b hb => ⟨.inl hb, rfl⟩
  have tr : Tr g w (g.ro n) w (X.sub n .ro) := by
    refine tr_ro n hz (fun m v c hm h => ro_own.2 ⟨hm, h⟩) (fun v c hn => ?_) (fun _ b vs h => ⟨vs, h⟩)
    refine CR.mono (w := w) (Z := fun b => g.Z b ∨ v.ownBlock = some b) (fun b hb => ⟨?_, rfl⟩) (h.w.own n v c hn).reads
    rcases hb with hb | hb
    · exact .inl hb
    · exact .inr ⟨v, c, hn, hb⟩
  refine ⟨h.s.map tr (fun m b vs hm => ?_) (fun m c hm => ?_) h.s.low, ⟨h.w.os, h.w.tape, h.w.output, h.w.size, h.w.frame, fun b hb => ?_, fun b hb => .inl (h.w.Zin b hb), fun m v c hm => ?_, fun m v c b hm hb => ?_, fun m v c b m' v' c' hm hb hm' => h.w.ownD m v c b m' v' c' (ro_own.1 hm).2 hb (ro_own.1 hm').2, h.w.tab, fun m b vs hm => ?_, h.w.tabD, fun m v c b m' vs hm hb => h.w.otD m v c b m' vs (ro_own.1 hm).2 hb⟩⟩
  · obtain ⟨cs, h1, h2⟩ := h.s.tabs m b vs hm
    refine ⟨cs.map (X.sub n .ro), ?_, tr.xs h2⟩
    show lk (st.tabs.map fun (k, cs) => (k, cs.map (X.sub n .ro))) m = _
    rw [lk_map (List.map (X.sub n .ro))]
    simp only [St.tb] at h1
    simp [h1]
  · rw [lk_filter0 (fun m => m == n)] at hm
    cases e : m == n
    · rw [e, cond_false] at hm
      exact ro_own.2 ⟨by simpa using e, h.s.mus m c hm⟩
    · rw [e] at hm; cases hm
  · rcases hb with hb | ⟨v, c, hn, hb⟩
    · exact h.w.Zok b hb
    · rcases (h.w.ownP n v c b hn hb).2 with h1 | ⟨_, h2⟩
      · exact ⟨own_lt (h.w.own n v c hn) hb, fun hm => by have := F.Mlt b hm; omega, .inr h1⟩
      · rw [hl] at h2; cases h2
  · have := h.w.own m v c (ro_own.1 hm).2
    exact this.mono hz fun _ _ => rfl
  · have hm' := ro_own.1 hm
    refine ⟨?_, (h.w.ownP m v c b hm'.2 hb).2⟩
    rintro (hz | ⟨v', c', hn, hb'⟩)
    · exact (h.w.ownP m v c b hm'.2 hb).1 hz
    · exact hm'.1 (h.w.ownD m v c b n v' c' hm'.2 hb hn hb')
  · refine ⟨?_, (h.w.tabP m b vs hm).2⟩
    rintro (hz | ⟨v', c', hn, hb'⟩)
    · exact (h.w.tabP m b vs hm).1 hz
    · exact h.w.otD n v' c' b m vs hn hb' hm

/-- A store into a slice of the function's own. -/
theorem R.setc {F : Fx} {g : Gh} {st : St} {a : Act} {w w' : World} (h : R F g st a w) {n b : Nat} {v : Value} {c c' : C} (hn : g.own n = some (v, c)) (hlen : c.len = c'.len) (hb : v.ownBlock = some b)
    (hos : w'.os = w.os) (ht : w'.tape = w.tape) (hout : w'.output = w.output) (hs : w'.heap.size = w.heap.size) (hh : ∀ b', b' ≠ b → w'.heap[b']? = w.heap[b']?) (ho : OW w' g.Z v c') :
    R F (g.setOwn n (v, c')) (st.sub n (.setc c')) a w' := by
  have hP := h.w.ownP n v c b hn hb
  have hz : Stay g.Z w g.Z w' := fun b' hb' => ⟨hb', hh b' fun e => hP.1 (e ▸ hb')⟩
  have tr : Tr g w (g.setOwn n (v, c')) w' (X.sub n (.setc c')) := by
    refine tr_set n c' hz (fun m u d hm h => setOwn_own.2 (.inr ⟨hm, h⟩)) (fun u d hd => ?_) (fun _ b vs h => ⟨vs, h⟩)
    rw [hn] at hd
    injection hd with hd
    injection hd with h1 h2
    subst h1 h2
    exact ⟨setOwn_own.2 (.inl ⟨rfl, rfl⟩), hlen⟩
  refine ⟨h.s.map tr (fun m b' vs hm => ?_) (fun m d hm => ?_) h.s.low, ⟨hos.trans h.w.os, ht.trans h.w.tape, hout.trans h.w.output, by rw [hs]; exact h.w.size, fun b' hb' hm => ?_, fun b' hb' => by rw [hs]; exact h.w.Zok b' hb', h.w.Zin, fun m u d hm => ?_, fun m u d b' hm hb' => ?_, fun m u d b' m' u' d' hm hb' hm' hb'' => ?_, fun m b' vs hm => ?_, h.w.tabP, h.w.tabD, fun m u d b' m' vs hm hb' hm' => ?_⟩⟩
  · obtain ⟨cs, h1, h2⟩ := h.s.tabs m b' vs hm
    refine ⟨cs.map (X.sub n (.setc c')), ?_, tr.xs h2⟩
    show lk (st.tabs.map fun (k, cs) => (k, cs.map (X.sub n (.setc c')))) m = _
    rw [lk_map (List.map (X.sub n (.setc c')))]
    simp only [St.tb] at h1
    simp [h1]
  · replace hm : lk (setl st.mus n c') m = some d := hm
    by_cases e : m = n
    · subst e
      cases hl : lk st.mus m with
      | none => rw [lk_setl_none _ _ _ _ hl] at hm; cases hm
      | some d0 =>
        rw [lk_setl_eq _ _ _ _ hl] at hm
        injection hm with hm
        subst hm
        have := h.s.mus m d0 hl
        rw [hn] at this
        injection this with this
        injection this with h1 h2
        subst h1
        exact setOwn_own.2 (.inl ⟨rfl, rfl⟩)
    · rw [lk_setl_ne _ _ _ _ e] at hm
      exact setOwn_own.2 (.inr ⟨e, h.s.mus m d hm⟩)
  · refine (hh b' fun e => ?_).trans (h.w.frame b' hb' hm)
    subst e
    rcases hP.2 with h1 | h1
    · omega
    · exact hm h1.1
  · rcases setOwn_own.1 hm with ⟨rfl, e⟩ | ⟨hne, hm⟩
    · cases e; exact ho
    · refine (h.w.own m u d hm).mono hz fun b' hb' => hh b' fun e => ?_
      subst e
      exact hne (h.w.ownD m u d b' n v c hm hb' hn hb)
  · rcases setOwn_own.1 hm with ⟨rfl, e⟩ | ⟨hne, hm⟩
    · cases e; exact h.w.ownP _ _ _ b' hn hb'
    · exact h.w.ownP m u d b' hm hb'
  · rcases setOwn_own.1 hm with ⟨rfl, e⟩ | ⟨hne, hm1⟩ <;> rcases setOwn_own.1 hm' with ⟨rfl, e'⟩ | ⟨hne', hm2⟩
    · rfl
    · cases e; exact h.w.ownD _ _ _ b' m' u' d' hn hb' hm2 hb''
    · cases e'; exact h.w.ownD m u d b' _ _ _ hm1 hb' hn hb''
    · exact h.w.ownD m u d b' m' u' d' hm1 hb' hm2 hb''
  · have := h.w.tab m b' vs hm
    rw [row_same (hh b' fun e => ?_)]
    · exact this
    · subst e; exact h.w.otD n v c b' m vs hn hb hm
  · rcases setOwn_own.1 hm with ⟨rfl, e⟩ | ⟨hne, hm⟩
    · cases e; exact h.w.otD _ _ _ b' m' vs hn hb' hm'
    · exact h.w.otD m u d b' m' vs hm hb' hm'

/-- A store into a variable. -/
theorem R.setTab {F : Fx} {g : Gh} {st : St} {a : Act} {w w' : World} (h : R F g st a w) {n b : Nat} {vs vs' : List Value} {cs' : List X} (hn : g.tab n = some (b, vs)) (hx : XsR g w cs' vs')
    (hos : w'.os = w.os) (ht : w'.tape = w.tape) (hout : w'.output = w.output) (hs : w'.heap.size = w.heap.size) (hh : ∀ b', b' ≠ b → w'.heap[b']? = w.heap[b']?) (hr : row w' b = some vs') :
    R F (g.setTab n (b, vs')) { st with tabs := setl st.tabs n cs' } a w' := by
  have hP := h.w.tabP n b vs hn
  have hz : Stay g.Z w g.Z w' := fun b' hb' => ⟨hb', hh b' fun e => hP.1 (e ▸ hb')⟩
  have tr : Tr g w (g.setTab n (b, vs')) w' id := by
    refine tr_id hz (fun m u d h => h) (fun m b' us hm => ?_)
    by_cases e : m = n
    · subst e
      rw [hn] at hm
      injection hm with hm
      injection hm with h1 h2
      subst h1
      exact ⟨vs', setTab_tab.2 (.inl ⟨rfl, rfl⟩)⟩
    · exact ⟨us, setTab_tab.2 (.inr ⟨e, hm⟩)⟩
  refine ⟨⟨h.s.size, fun i x hx => ?_, h.s.defers, fun m b' us hm => ?_, h.s.mus, fun m b' us hl hm => ?_⟩, ⟨hos.trans h.w.os, ht.trans h.w.tape, hout.trans h.w.output, by rw [hs]; exact h.w.size, fun b' hb' hm => ?_, fun b' hb' => by rw [hs]; exact h.w.Zok b' hb', h.w.Zin, fun m u d hm => ?_, h.w.ownP, h.w.ownD, fun m b' us hm => ?_, fun m b' us hm => ?_, fun m b' us m' us' hm hm' => ?_, fun m u d b' m' us hm hb' hm' => ?_⟩⟩
  · obtain ⟨u, hu, hr⟩ := h.s.tmps i x hx
    exact ⟨u, hu, by simpa [map_id_v] using tr.v hr⟩
  · rcases setTab_tab.1 hm with ⟨rfl, e⟩ | ⟨hne, hm⟩
    · cases e
      obtain ⟨cs, h1, _⟩ := h.s.tabs _ _ _ hn
      exact ⟨cs', lk_setl_eq _ _ _ _ h1, by simpa using tr.xs hx⟩
    · obtain ⟨cs, h1, h2⟩ := h.s.tabs m b' us hm
      exact ⟨cs, (lk_setl_ne _ _ _ _ hne).trans h1, by simpa using tr.xs h2⟩
  · rcases setTab_tab.1 hm with ⟨rfl, e⟩ | ⟨hne, hm⟩
    · cases e; exact h.s.low _ _ _ hl hn
    · exact h.s.low m b' us hl hm
  · refine (hh b' fun e => ?_).trans (h.w.frame b' hb' hm)
    subst e
    rcases hP.2 with h1 | h1
    · omega
    · exact hm h1.1
  · refine (h.w.own m u d hm).mono hz fun b' hb' => hh b' fun e => ?_
    subst e
    exact h.w.otD m u d b' n vs hm hb' hn
  · rcases setTab_tab.1 hm with ⟨rfl, e⟩ | ⟨hne, hm1⟩
    · cases e; exact hr
    · rw [row_same (hh b' fun e => hne (h.w.tabD m b' us n vs hm1 (e ▸ hn)))]
      exact h.w.tab m b' us hm1
  · rcases setTab_tab.1 hm with ⟨rfl, e⟩ | ⟨hne, hm⟩
    · cases e; exact hP
    · exact h.w.tabP m b' us hm
  · rcases setTab_tab.1 hm with ⟨rfl, e⟩ | ⟨hne, hm1⟩ <;> rcases setTab_tab.1 hm' with ⟨rfl, e'⟩ | ⟨hne', hm2⟩
    · rfl
    · cases e; exact h.w.tabD _ _ _ _ _ hn hm2
    · cases e'; exact h.w.tabD _ _ _ _ _ hm1 hn
    · exact h.w.tabD m b' us m' us' hm1 hm2
  · rcases setTab_tab.1 hm' with ⟨rfl, e⟩ | ⟨hne, hm'⟩
    · cases e; exact h.w.otD _ _ _ _ _ _ hm hb' hn
    · exact h.w.otD m u d b' m' us hm hb' hm'
end Go.BV

/-
  Operations that write nothing: they answer alike whatever comes behind them.
-/
namespace Go.BV

def aggB : TypeDesc → Bool
  | .struct _ => true
  | .array _ _ => true
  | _ => false
/-- What is told of a type is so. -/
def DescOk (P : Program) (t : TypeId) : TU → Prop
  | .int k => P.underlying t = some (.int k)
  | .bool => P.underlying t = some .bool
  | .str => P.underlying t = some .string
  | .slice c => ∃ e ie ze, P.underlying t = some (.slice e) ∧ (match c with | .ints k _ => P.underlying e = some (.int k) | _ => True) ∧ (∃ d, P.underlying e = some d ∧ aggB d = false) ∧ P.info? e = some ie ∧ ie.size = 1 ∧ ie.bytes ≤ 64 ∧ ie.zero = some ze ∧ ze.cells = #[ze] ∧ ∀ w Z n i, i < n → SR w Z ((c.zeros n).get i) ze
  | .struct fs => ∃ fields, P.underlying t = some (.struct fields) ∧ fields.size = fs.length ∧ ∀ (i off size : Nat) (ag : Bool), fs[i]? = some (off, size, ag) → ∃ f inf d, fields[i]? = some f ∧ f.offset = off ∧ P.info? f.type = some inf ∧ inf.size = size ∧ size ≠ 0 ∧ P.underlying f.type = some d ∧ ag = aggB d
  | .one => ∃ d, P.underlying t = some d ∧ aggB d = false
  | .other => True
structure TOk (P : Program) (t : TypeId) (i : TI) : Prop where
  info : ∃ inf z, P.info? t = some inf ∧ inf.size = i.size ∧ inf.zero = some z ∧ ∀ g w, XsR g w i.zero z.cells.toList
  desc : DescOk P t i.u
structure TsOk (P : Program) (T : TypeId → TI) : Prop where
  ok : ∀ t, (T t).u ≠ .other → TOk P t (T t)
  no : ∀ t, (T t).u = .other → (T t).size = 0 ∧ (T t).zero = []

def Nat1 (o : Ora) : Prop := ∀ (ρ : Type) (ds : List DU) (K : Out → Option ρ), o.G ds K = (o.G ds some).bind K

section
variable {ρ : Type} (T : TypeId → TI) (O : FuncId → Option Ora)
def cvD (site : Nat) (op : Op) (e : Operand → V) (tb : Nat → Option (List X)) : Option (V × Option (List X)) := cv T O site op e tb fun v x => some (v, x)

theorem intOp_nat (op : BinOp) (k : IntKind) (a b : Int) (K : X → Option ρ) : intOp op k a b K = (intOp op k a b some).bind K := by
  cases op <;> simp only [intOp] <;> first | rfl | (split <;> rfl)
theorem shOp_nat (op : BinOp) (k : IntKind) (a b : Int) (K : X → Option ρ) : shOp op k a b K = (shOp op k a b some).bind K := by
  cases op <;> simp only [shOp] <;> first | rfl | (split <;> rfl)
theorem strOp_nat (op : BinOp) (a b : ByteArray) (K : X → Option ρ) : strOp op a b K = (strOp op a b some).bind K := by
  cases op <;> simp only [strOp] <;> first | rfl | (split <;> rfl)
theorem binV_nat (u : TU) (op : BinOp) (x y : V) (K : X → Option ρ) : binV u op x y K = (binV u op x y some).bind K := by
  unfold binV
  split
  · cases isSh op
    · simp only [cond_false]
      split
      · exact intOp_nat ..
      · rfl
    · exact shOp_nat ..
  · split <;> rfl
  · exact strOp_nat ..
  · rfl
theorem unV_nat (op : UnOp) (x : V) (K : X → Option ρ) : unV op x K = (unV op x some).bind K := by
  unfold unV
  split <;> rfl
theorem bound_nat (lo hi : Option V) (n : Nat) (K : Nat → Nat → Option ρ) : bound lo hi n K = (bound lo hi n fun l h => some (l, h)).bind fun (l, h) => K l h := by
  unfold bound
  split <;> first | rfl | (split <;> first | rfl | (split <;> first | rfl | (split <;> rfl)))
theorem bindc {σ : Type} (c : Bool) {a b : Option ρ} {a' b' : Option σ} {f : σ → Option ρ} (h1 : a = a'.bind f) (h2 : b = b'.bind f) : cond c a b = (cond c a' b').bind f := by cases c <;> assumption
theorem bindi {σ : Type} {p : Prop} [Decidable p] {a b : Option ρ} {a' b' : Option σ} {f : σ → Option ρ} (h1 : a = a'.bind f) (h2 : b = b'.bind f) : (if p then a else b) = (if p then a' else b').bind f := by split <;> assumption
theorem binV_bind {σ : Type} {u : TU} {op : BinOp} {x y : V} {A : X → Option ρ} {A' : X → Option σ} {f : σ → Option ρ} (h : ∀ r, A r = (A' r).bind f) : binV u op x y A = (binV u op x y A').bind f := by
  rw [binV_nat, binV_nat (ρ := σ)]; cases binV u op x y some
  · rfl
  · exact h _
theorem unV_bind {σ : Type} {op : UnOp} {x : V} {A : X → Option ρ} {A' : X → Option σ} {f : σ → Option ρ} (h : ∀ r, A r = (A' r).bind f) : unV op x A = (unV op x A').bind f := by
  rw [unV_nat, unV_nat (ρ := σ)]; cases unV op x some
  · rfl
  · exact h _
theorem bound_bind {σ : Type} {lo hi : Option V} {n : Nat} {A : Nat → Nat → Option ρ} {A' : Nat → Nat → Option σ} {f : σ → Option ρ} (h : ∀ r s, A r s = (A' r s).bind f) : bound lo hi n A = (bound lo hi n A').bind f := by
  rw [bound_nat, bound_nat (ρ := σ)]; cases bound lo hi n fun l h => some (l, h)
  · rfl
  · exact h _ _
theorem G_bind {σ : Type} {o : Ora} (ho : Nat1 o) {ds : List DU} {A : Out → Option ρ} {A' : Out → Option σ} {f : σ → Option ρ} (h : ∀ r, A r = (A' r).bind f) : o.G ds A = (o.G ds A').bind f := by
  rw [ho, ho σ]; cases o.G ds some
  · rfl
  · exact h _
variable {T O}
theorem cv_nat (hO : ∀ f o, O f = some o → Nat1 o) (site : Nat) (op : Op) (e : Operand → V) (tb : Nat → Option (List X)) (K : V → Option (List X) → Option ρ) :
    cv T O site op e tb K = (cvD T O site op e tb).bind fun p => K p.1 p.2 := by
  unfold cvD cv
  repeat' first
    | rfl
    | refine bindc _ ?_ ?_
    | refine bindi ?_ ?_
    | exact binV_bind fun r => rfl
    | exact unV_bind fun r => rfl
    | exact bound_bind fun r s => rfl
    | refine G_bind (hO _ _ ‹_›) fun r => ?_
    | split
end
end Go.BV

/-
  Operations that write nothing: what the model's machine does is what the evaluator says.
-/
namespace Go.BV

structure Fresh (site : Nat) (g : Gh) (st : St) : Prop where
  own : ∀ j, j < 16 → g.own (nm site j) = none
  tab : ∀ j, j < 16 → g.tab (nm site j) = none
  tb : ∀ j, j < 16 → st.tb (nm site j) = none
  ownH : ∀ j, j < 16 → g.own (nm site j + high) = none
structure Ext (site : Nat) (g g' : Gh) : Prop where
  own : ∀ n, (∀ j, j < 16 → n ≠ nm site j) → g'.own n = g.own n
  tab : ∀ n, (∀ j, j < 16 → n ≠ nm site j) → g'.tab n = g.tab n
theorem Ext.refl (site : Nat) (g : Gh) : Ext site g g := ⟨fun _ _ => rfl, fun _ _ => rfl⟩
def Nx (F : Fx) (site : Nat) (g : Gh) (st' : St) (next : Act → World → Prop) : Prop := ∀ g' a' w', R F g' st' a' w' → Ext site g g' → next a' w'

section
variable {P : Program} {T : TypeId → TI} {O : FuncId → Option Ora} {F : Fx} {g : Gh} {st : St} {a : Act} {w : World} {o : Oper} {site : Nat} {next : Act → World → Prop} {Q : Exit → Act → World → Prop}

theorem ev_ok (h : SG F g w st a) (x : Operand) : VR g w (ev st x) (a.eval x) := by
  cases x with
  | tmp t =>
    show VR g w (st.tmps.getD t _) (a.tmps.getD t undef)
    cases ht : st.tmps[t]? with
    | some v =>
      obtain ⟨u, hu, hr⟩ := h.tmps t v ht
      rw [List.getD_eq_getElem?_getD, ht, Array.getD_eq_getD_getElem?, hu]
      exact hr
    | none =>
      rw [List.getD_eq_getElem?_getD, ht]
      trivial
  | const v =>
    show VR g w (ofConst v) v
    unfold ofConst
    split <;> first | rfl | trivial | exact ⟨rfl, rfl⟩
  | global n => trivial
  | func f => exact ⟨[], ⟨[], rfl, rfl⟩, rfl⟩

theorem fin_val (hR : R F g st a w) {v : V} {u : Value} (hv : VR g w v u) (hrun : (execOp a.eval o).run P w = .ok (.value u) w) (hn : Nx F site g (st.out site o.dst v none) next) : o.wp P a w next Q := by
  unfold Oper.wp
  rw [hrun]
  exact hn g _ _ (hR.put hv o.dst) (Ext.refl _ _)

theorem slice_one {v : Value} {n : Nat} {p : Nat → Value → Prop} {Z : Nat → Prop} (h : Reads w Z v n p) : v.oneCell' = true ∧ v.cells = #[v] := by
  obtain ⟨_, _, rfl, _⟩ := h; exact ⟨rfl, rfl⟩
theorem XR.one (hw : WG F g w) {x : X} {v : Value} (h : XR g w x v) (hc : x.cellOk = true) : v.oneCell' = true ∧ v.cells = #[v] := by
  cases x <;> simp only [XR, X.cellOk] at h hc
  case int => subst h; exact ⟨rfl, rfl⟩
  case bool => subst h; exact ⟨rfl, rfl⟩
  case str => subst h; exact ⟨rfl, rfl⟩
  case nil => rw [h.1]; exact ⟨rfl, rfl⟩
  case ro c => exact slice_one (CR_iff.1 h)
  case own n c =>
    rcases hw.own _ _ _ h with ⟨rfl, _⟩ | ⟨_, _, _, _, rfl, _⟩
    · exact ⟨rfl, rfl⟩
    · exact ⟨rfl, rfl⟩
  case el => obtain ⟨_, _, _, _, _, rfl⟩ := h; exact ⟨rfl, rfl⟩
  case roel => obtain ⟨_, _, _, _, _, rfl⟩ := h; exact ⟨rfl, rfl⟩
  case ptr => obtain ⟨_, _, _, rfl⟩ := h; exact ⟨rfl, rfl⟩
  case rop => obtain ⟨_, _, rfl⟩ := h; exact ⟨rfl, rfl⟩
  case fn => obtain ⟨_, _, rfl⟩ := h; exact ⟨rfl, rfl⟩
  case nilp => subst h; exact ⟨rfl, rfl⟩
  case undef => cases hc
theorem UR.cells (hw : WG F g w) {u : U} {v : Value} (h : UR g w u v) (hc : u.cells.all X.cellOk = true) : XsR g w u.cells v.cells.toList ∧ ∀ x ∈ v.cells.toList, x.oneCell' = true := by
  cases u with
  | x y =>
    simp only [U.cells, List.all_cons, List.all_nil, Bool.and_true] at hc
    have := XR.one hw (x := y) h hc
    rw [this.2]
    exact ⟨⟨h, trivial⟩, fun x hx => by simp at hx; rw [hx]; exact this.1⟩
  | agg xs =>
    obtain ⟨vs, rfl, h⟩ := h
    refine ⟨h, fun x hx => ?_⟩
    simp only [U.cells] at hc
    induction xs generalizing vs with
    | nil => cases vs with
      | nil => cases hx
      | cons => exact h.elim
    | cons y ys ih => cases vs with
      | nil => exact h.elim
      | cons v vs =>
        simp only [List.all_cons, Bool.and_eq_true] at hc
        rcases List.mem_cons.1 hx with rfl | hx
        · exact (XR.one hw h.1 hc.1).1
        · exact ih hc.2 vs h.2 hx

theorem SR.toX {s : S} {v : Value} (h : SR w g.Z s v) : XR g w s.toX v := by cases s <;> exact h
theorem toX_ok (s : S) : s.toX.cellOk = true := by cases s <;> rfl

/-! ### One by one -/
variable (hR : R F g st a w)
include hR

theorem s_move {x : Operand} (ho : o.op = .move x) (hn : Nx F site g (st.out site o.dst (ev st x) none) next) : o.wp P a w next Q :=
  fin_val hR (ev_ok hR.s x) (by simp [execOp, ho]) hn
theorem s_assign {x : Operand} (ho : o.op = .assign x) (hn : Nx F site g (st.out site o.dst (ev st x) none) next) : o.wp P a w next Q :=
  fin_val hR (ev_ok hR.s x) (by simp [execOp, ho]) hn
theorem ev_bool {x : Operand} {b : Bool} (h : ev st x = .u (.x (.bool b))) : a.eval x = .bool b := by have := ev_ok hR.s x; rw [h] at this; exact this
theorem ev_int {x : Operand} {k : IntKind} {b : Int} (h : ev st x = .u (.x (.int k b))) : a.eval x = .int k b := by have := ev_ok hR.s x; rw [h] at this; exact this
theorem ev_str {x : Operand} {b : ByteArray} (h : ev st x = .u (.x (.str b))) : a.eval x = .string b := by have := ev_ok hR.s x; rw [h] at this; exact this
theorem ev_x {x : Operand} {y : X} (h : ev st x = .u (.x y)) : XR g w y (a.eval x) := by have := ev_ok hR.s x; rw [h] at this; exact this
theorem ev_u {x : Operand} {y : U} (h : ev st x = .u y) : UR g w y (a.eval x) := by have := ev_ok hR.s x; rw [h] at this; exact this

theorem s_pick {c x y : Operand} {b : Bool} {r : Bool} (ho : o.op = .pick c x y) (hc : ev st c = .u (.x (.bool b))) (hr : (bif b then ev st x else ev st y) = .u (.x (.bool r)))
    (hn : Nx F site g (st.out site o.dst (.u (.x (.bool r))) none) next) : o.wp P a w next Q := by
  refine fin_val (v := .u (.x (.bool r))) (u := .bool r) hR rfl ?_ hn
  cases b
  · simp only [cond_false] at hr
    simp [execOp, ho, asBool, ev_bool hR hc, ev_bool hR hr]
  · simp only [cond_true] at hr
    simp [execOp, ho, asBool, ev_bool hR hc, ev_bool hR hr]

theorem s_nilCheck {x : Operand} (ho : o.op = .nilCheck x) {y : X} (hx : ev st x = .u (.x y)) (hy : (match y with | .ptr _ _ => true | .rop _ _ => true | .el _ _ _ => true | .roel _ _ => true | .fn _ _ => true | _ => false) = true)
    (hn : Nx F site g (st.out site o.dst (.u (.x y)) none) next) : o.wp P a w next Q := by
  have h := ev_x hR hx
  refine fin_val (v := .u (.x y)) (u := a.eval x) hR h ?_ hn
  cases y <;> simp only [Bool.false_eq_true] at hy <;> simp only [XR] at h
  case ptr => obtain ⟨_, _, _, e⟩ := h; simp [execOp, ho, e]
  case rop => obtain ⟨_, _, e⟩ := h; simp [execOp, ho, e]
  case el => obtain ⟨_, _, _, _, _, e⟩ := h; simp [execOp, ho, e]
  case roel => obtain ⟨_, _, _, _, _, e⟩ := h; simp [execOp, ho, e]
  case fn => obtain ⟨_, _, e⟩ := h; simp [execOp, ho, e]

theorem s_extract {t : Operand} {i : Nat} {us : List U} {u : U} (ho : o.op = .extract t i) (ht : ev st t = .tup us) (hi : us[i]? = some u)
    (hn : Nx F site g (st.out site o.dst (.u u) none) next) : o.wp P a w next Q := by
  have h := ev_ok hR.s t
  rw [ht] at h
  obtain ⟨vs, e, h⟩ := h
  obtain ⟨v, hv, hu⟩ : ∃ v, vs[i]? = some v ∧ UR g w u v := by
    clear ht e hn ho
    induction us generalizing vs i with
    | nil => simp at hi
    | cons x xs ih => cases vs with
      | nil => exact h.elim
      | cons y ys => cases i with
        | zero => simp at hi; subst hi; exact ⟨y, rfl, h.1⟩
        | succ i => simpa using ih (by simpa using hi) ys h.2
  exact fin_val (v := .u u) (u := v) hR hu (by simp [execOp, ho, Instr.extract, e, hv]) hn

theorem s_unOp {op : UnOp} {t : TypeId} {x : Operand} {r : X} (ho : o.op = .unOp op t x) (h : unV op (ev st x) some = some r) (hn : Nx F site g (st.out site o.dst (.u (.x r)) none) next) : o.wp P a w next Q := by
  unfold unV at h
  split at h
  · rename_i b hb
    injection h with h; subst h
    exact fin_val (v := .u (.x (.bool (!b)))) (u := .bool (!b)) hR rfl (by simp [execOp, ho, Op.unary, ev_bool hR hb]) hn
  · rename_i k n hb
    injection h with h; subst h
    exact fin_val (v := .u (.x (.int k (k.wrap (0 - n))))) (u := .int k (k.wrap (0 - n))) hR rfl (by simp [execOp, ho, Op.unary, Op.intArith, ev_int hR hb]) hn
  · cases h

def XV : X → Value
  | .int k n => .int k n
  | .bool b => .bool b
  | .str s => .string s
  | _ => undef
omit hR in
theorem intOp_ok {op : BinOp} {k : IntKind} {p q : Int} {r : X} {t : TypeId} (h : intOp op k p q some = some r) (hs : isSh op = false) : (Go.binOp op t (.int k p) (.int k q)).run P w = .ok (XV r) w ∧ XR g w r (XV r) := by
  cases op <;> simp only [intOp] at h
  case quo =>
    split at h
    · cases h
    · rename_i hq; injection h with h; subst h; exact ⟨by simp [binOp, Op.intDiv, hq, XV], rfl⟩
  case rem =>
    split at h
    · cases h
    · rename_i hq; injection h with h; subst h; exact ⟨by simp [binOp, Op.intDiv, hq, XV], rfl⟩
  case add => injection h with h; subst h; exact ⟨by simp [binOp, Op.intArith, XV], rfl⟩
  case sub => injection h with h; subst h; exact ⟨by simp [binOp, Op.intArith, XV], rfl⟩
  case mul => injection h with h; subst h; exact ⟨by simp [binOp, Op.intArith, XV], rfl⟩
  case and => injection h with h; subst h; exact ⟨by simp [binOp, Op.intBits, XV], rfl⟩
  case or => injection h with h; subst h; exact ⟨by simp [binOp, Op.intBits, XV], rfl⟩
  case xor => injection h with h; subst h; exact ⟨by simp [binOp, Op.intBits, XV], rfl⟩
  case eql => injection h with h; subst h; exact ⟨by simp [binOp, Op.intCmp, XV, bne]; by_cases e : p = q <;> simp [e], rfl⟩
  case neq => injection h with h; subst h; exact ⟨by simp [binOp, Op.intCmp, XV, bne]; by_cases e : p = q <;> simp [e], rfl⟩
  case lss => injection h with h; subst h; exact ⟨by simp [binOp, Op.intCmp, XV, bne], rfl⟩
  case leq => injection h with h; subst h; exact ⟨by simp [binOp, Op.intCmp, XV, bne], rfl⟩
  case gtr => injection h with h; subst h; exact ⟨by simp [binOp, Op.intCmp, XV, bne], rfl⟩
  case geq => injection h with h; subst h; exact ⟨by simp [binOp, Op.intCmp, XV, bne], rfl⟩
  all_goals cases h
omit hR in
theorem shOp_ok {op : BinOp} {k k' : IntKind} {p q : Int} {r : X} {t : TypeId} (h : shOp op k p q some = some r) : (binOp op t (.int k p) (.int k' q)).run P w = .ok (XV r) w ∧ XR g w r (XV r) := by
  cases op <;> simp only [shOp] at h
  case shl =>
    split at h
    · cases h
    · rename_i hq; injection h with h; subst h; exact ⟨by simp [binOp, Op.shift, hq, XV], rfl⟩
  case shr =>
    split at h
    · cases h
    · rename_i hq; injection h with h; subst h; exact ⟨by simp [binOp, Op.shift, hq, XV], rfl⟩
  all_goals cases h
omit hR in
theorem toList_eq (x y : ByteArray) : (x.toList == y.toList) = decide (x = y) := by
  rw [ByteArray.toList_eq, ByteArray.toList_eq]
  by_cases h : x = y
  · subst h; simp
  · have : x.data.toList ≠ y.data.toList := fun e => h (by cases x; cases y; simp at e; rw [e])
    rw [decide_eq_false h]
    simpa using fun e => this (by rw [e])
omit hR in
theorem strOp_ok {op : BinOp} {p q : ByteArray} {r : X} {t : TypeId} (h : strOp op p q some = some r) : (binOp op t (.string p) (.string q)).run P w = .ok (XV r) w ∧ XR g w r (XV r) := by
  cases op <;> simp only [strOp] at h
  case add =>
    split at h
    · rename_i hq
      injection h with h; subst h
      refine ⟨?_, rfl⟩
      have : ¬ (((p.size + q.size : Nat) : Int) > IntKind.i64.max) := by simp [IntKind.max, IntKind.bits, IntKind.signed]; omega
      simp only [binOp, Op.stringOp, if_neg this]
      rfl
    · cases h
  case eql => injection h with h; subst h; exact ⟨by simp only [binOp, Op.stringOp, toList_eq]; rfl, rfl⟩
  case neq => injection h with h; subst h; exact ⟨by simp only [binOp, Op.stringOp, toList_eq]; rfl, rfl⟩
  all_goals cases h
omit hR in
theorem eq_bool {t : TypeId} {p q : Bool} (hd : P.underlying t = some .bool) : (Op.equal t (.bool p) (.bool q)).run P w = .ok (p == q) w := by
  have : ∀ d, (Op.equalIn (d + 1) t (.bool p) (.bool q)).run P w = .ok (p == q) w := fun d => by simp only [Op.equalIn, Sem.run_bind, run_underlying hd, Result.andThen_ok, Sem.run_pure]
  exact this 9999
theorem s_binOp {op : BinOp} {t t' : TypeId} {x y : Operand} {r : X} (hT : TsOk P T) (ho : o.op = .binOp op t x y t') (h : binV (T t).u op (ev st x) (ev st y) some = some r) (hn : Nx F site g (st.out site o.dst (.u (.x r)) none) next) : o.wp P a w next Q := by
  have hex : execOp a.eval o = (do pure (Next.value (← (do eqGuard op t x y (a.eval x) (a.eval y); binOp op t (a.eval x) (a.eval y))))) := by simp only [execOp, ho]
  unfold binV at h
  split at h
  · rename_i k p k' q hx hy
    have hx := ev_int hR hx
    have hy := ev_int hR hy
    have key : (binOp op t (.int k p) (.int k' q)).run P w = .ok (XV r) w ∧ XR g w r (XV r) := by
      cases hs : isSh op
      · rw [hs] at h
        simp only [cond_false] at h
        split at h
        · rename_i hk; subst hk; exact intOp_ok h hs
        · cases h
      · rw [hs] at h; exact shOp_ok h
    refine fin_val (v := .u (.x r)) hR key.2 ?_ hn
    rw [hex, hx, hy]
    simp only [Sem.run_bind]
    rw [show (eqGuard op t x y (Value.int k p) (Value.int k' q)).run P w = .ok () w by simp [eqGuard]]
    simp only [Result.andThen_ok, key.1, Sem.run_pure]
  · rename_i p q hx hy
    have hx := ev_bool hR hx
    have hy := ev_bool hR hy
    split at h
    · rename_i hu
      have hd := (hT.ok t (by rw [hu]; intro e; cases e)).desc
      rw [hu] at hd
      injection h with h; subst h
      refine fin_val (v := .u (.x (.bool (p == q)))) (u := .bool (p == q)) hR rfl ?_ hn
      rw [hex, hx, hy]
      simp only [Sem.run_bind]
      rw [show (eqGuard _ t x y (Value.bool p) (Value.bool q)).run P w = .ok () w by simp [eqGuard]]
      simp only [Result.andThen_ok, binOp, Sem.run_bind, eq_bool hd, Sem.run_pure]
    · rename_i hu
      have hd := (hT.ok t (by rw [hu]; intro e; cases e)).desc
      rw [hu] at hd
      injection h with h; subst h
      refine fin_val (v := .u (.x (.bool (!(p == q))))) (u := .bool (!(p == q))) hR rfl ?_ hn
      rw [hex, hx, hy]
      simp only [Sem.run_bind]
      rw [show (eqGuard _ t x y (Value.bool p) (Value.bool q)).run P w = .ok () w by simp [eqGuard]]
      simp only [Result.andThen_ok, binOp, Sem.run_bind, eq_bool hd, Sem.run_pure]
    · cases h
  · rename_i p q hx hy
    have hx := ev_str hR hx
    have hy := ev_str hR hy
    have key := strOp_ok (P := P) (w := w) (g := g) (t := t) h
    refine fin_val (v := .u (.x r)) hR key.2 ?_ hn
    rw [hex, hx, hy]
    simp only [Sem.run_bind]
    rw [show (eqGuard op t x y (Value.string p) (Value.string q)).run P w = .ok () w by simp [eqGuard]]
    simp only [Result.andThen_ok, key.1, Sem.run_pure]
  · cases h
end
end Go.BV

/-
  Operations that write nothing, and operations that make memory.
-/
namespace Go.BV
section
variable {P : Program} {T : TypeId → TI} {O : FuncId → Option Ora} {F : Fx} {g : Gh} {st : St} {a : Act} {w : World} {o : Oper} {site : Nat} {next : Act → World → Prop} {Q : Exit → Act → World → Prop}

theorem desc (hT : TsOk P T) {t : TypeId} {u : TU} (h : (T t).u = u) (hu : u ≠ .other) : DescOk P t u := by
  have := (hT.ok t (by rw [h]; exact hu)).desc
  rwa [h] at this

variable (hR : R F g st a w)
include hR

theorem s_convInt {s d : TypeId} {x : Operand} {k' k k'' : IntKind} {n : Int} (hT : TsOk P T) (ho : o.op = .convert s d x) (hs : (T s).u = .int k') (hd : (T d).u = .int k) (hx : ev st x = .u (.x (.int k'' n)))
    (hn : Nx F site g (st.out site o.dst (.u (.x (.int k (k.wrap n)))) none) next) : o.wp P a w next Q := by
  refine fin_val (v := .u (.x (.int k (k.wrap n)))) (u := .int k (k.wrap n)) hR rfl ?_ hn
  simp [execOp, ho, convert, run_underlying (desc hT hs (by simp)), run_underlying (desc hT hd (by simp)), ev_int hR hx, Conv.intToInt]

theorem s_convStr {s d : TypeId} {x : Operand} {ys : List Int} {m : Nat} {xs : List Int} (hT : TsOk P T) (ho : o.op = .convert s d x) (hs : (T s).u = .slice (.ints .u8 ys)) (hd : (T d).u = .str) (hx : ev st x = .u (.x (.own m (.ints .u8 xs))))
    (hn : Nx F site g (st.out site o.dst (.u (.x (.str ⟨(xs.map fun n => UInt8.ofNat n.toNat).toArray⟩))) none) next) : o.wp P a w next Q := by
  refine fin_val (v := .u (.x (.str (strOfNums xs)))) (u := .string (strOfNums xs)) hR rfl ?_ hn
  obtain ⟨e, ie, ze, h1, h2, _⟩ := desc hT hs (by simp)
  have h := hR.w.own _ _ _ (ev_x hR hx)
  have hd := desc hT hd (by simp)
  have key : (convert s d (a.eval x)).run P w = .ok (.string (strOfNums xs)) w := by
    rcases h with ⟨e1, e2⟩ | ⟨b, off, cap, l, e1, h3, h4, h5, h6⟩
    · rw [e1, run_convert_bytes_nil w s e h1 h2 0 0 d hd]
      have : xs = [] := List.eq_nil_of_length_eq_zero (by simpa [C.len] using e2)
      rw [this]; rfl
    · rw [e1]
      exact run_convert_bytes_arg w s e h1 h2 b off _ cap xs rfl (fun i hi => by
        obtain ⟨u, hu, hs⟩ := h6 i hi
        rw [row_cell h3, hu]
        simp only [C.get, SR] at hs
        rw [hs]) d hd
  simp only [execOp, ho, Sem.run_bind, key, Result.andThen_ok, Sem.run_pure]

theorem s_fieldPtr {t : TypeId} {x : Operand} {f : Nat} {fs : List (Nat × Nat × Bool)} {n k off size : Nat} {ag : Bool} (hT : TsOk P T) (ho : o.op = .fieldAddr t x f) (ht : (T t).u = .struct fs) (hf : fs[f]? = some (off, size, ag)) (hx : ev st x = .u (.x (.ptr n k)))
    (hn : Nx F site g (st.out site o.dst (.u (.x (.ptr n (k + off)))) none) next) : o.wp P a w next Q := by
  obtain ⟨fields, h1, _, h3⟩ := desc hT ht (by simp)
  obtain ⟨fd, inf, d, h4, h5, h6, h7, h8, _⟩ := h3 f off size ag hf
  obtain ⟨b, vs, h9, h10⟩ := ev_x hR hx
  refine fin_val (v := .u (.x (.ptr n (k + off)))) (u := .pointer (some ⟨b, k + off, none⟩)) hR ⟨b, vs, h9, rfl⟩ ?_ hn
  simp [execOp, ho, Instr.fieldAt, run_underlying h1, h4, h10, Instr.sureAddr, fieldPlace, sizeOf, typeInfo, h6, h7, h8, h5, add_none]

theorem s_fieldRop {t : TypeId} {x : Operand} {f : Nat} {fs : List (Nat × Nat × Bool)} {cs : List S} {k off size : Nat} {ag : Bool} (hT : TsOk P T) (ho : o.op = .fieldAddr t x f) (ht : (T t).u = .struct fs) (hf : fs[f]? = some (off, size, ag)) (hx : ev st x = .u (.x (.rop cs k)))
    (hn : Nx F site g (st.out site o.dst (.u (.x (.rop cs (k + off)))) none) next) : o.wp P a w next Q := by
  obtain ⟨fields, h1, _, h3⟩ := desc hT ht (by simp)
  obtain ⟨fd, inf, d, h4, h5, h6, h7, h8, _⟩ := h3 f off size ag hf
  obtain ⟨ad, h9, h10⟩ := ev_x hR hx
  refine fin_val (v := .u (.x (.rop cs (k + off)))) (u := .pointer (some ⟨ad.block, ad.off + (k + off), none⟩)) hR ⟨ad, h9, rfl⟩ ?_ hn
  simp [execOp, ho, Instr.fieldAt, run_underlying h1, h4, h10, Instr.sureAddr, fieldPlace, sizeOf, typeInfo, h6, h7, h8, h5, add_none, Nat.add_assoc]

theorem run_isAgg {t : TypeId} {d : TypeDesc} (h : P.underlying t = some d) : (isAgg t).run P w = .ok (aggB d) w := by
  have _ := hR
  simp only [isAgg, Sem.run_bind, run_underlying h, Result.andThen_ok]
  cases d <;> rfl
theorem cut_ok {α : Type} {xs ys : List α} {off n : Nat} (h : cut xs off n = some ys) : off + n ≤ xs.length ∧ ys = (xs.drop off).take n := by
  have _ := hR
  unfold cut at h
  cases e : Nat.ble (off + n) xs.length
  · rw [e] at h; cases h
  · rw [e] at h
    injection h with h
    exact ⟨Nat.le_of_ble_eq_true e, h.symm⟩
theorem s_field {t : TypeId} {x : Operand} {f : Nat} {fs : List (Nat × Nat × Bool)} {xs ys : List X} {off size : Nat} {ag : Bool} {u : U} (hT : TsOk P T) (ho : o.op = .field t x f) (ht : (T t).u = .struct fs) (hx : ev st x = .u (.agg xs)) (hf : fs[f]? = some (off, size, ag))
    (hc : cut xs off size = some ys) (hu : U.ofCells ag ys = some u) (hn : Nx F site g (st.out site o.dst (.u u) none) next) : o.wp P a w next Q := by
  obtain ⟨fields, h1, _, h3⟩ := desc hT ht (by simp)
  obtain ⟨fd, inf, d, h4, h5, h6, h7, h8, h9, h10⟩ := h3 f off size ag hf
  obtain ⟨vs, h11, h12⟩ := ev_u hR hx
  obtain ⟨h13, rfl⟩ := cut_ok hR hc
  have hys := (h12.drop off).take size
  have hl := h12.length
  have hag := run_isAgg (P := P) (w := w) hR h9
  rw [← h10] at hag
  cases ag with
  | true =>
    simp only [U.ofCells] at hu
    injection hu with hu
    subst hu
    refine fin_val (v := .u (.agg _)) (u := .agg ((vs.drop off).take size).toArray) hR ⟨_, rfl, hys⟩ ?_ hn
    simp [execOp, ho, Instr.field, run_underlying h1, h4, h11, asAgg, Go.part, hag, sizeOf, typeInfo, h6, h7, h5]
  | false =>
    generalize hys' : (xs.drop off).take size = l at hu hys
    cases l with
    | nil => simp [U.ofCells] at hu
    | cons y r =>
      cases r with
      | cons _ _ => simp [U.ofCells] at hu
      | nil =>
        simp only [U.ofCells] at hu
        injection hu with hu
        subst hu
        generalize hvs : (vs.drop off).take size = m at hys
        cases m with
        | nil => exact hys.elim
        | cons v r' =>
          have hv : vs[off]? = some v := by
            have := congrArg (fun l => l[0]?) hvs
            simp only [List.getElem?_take, List.getElem?_drop, List.getElem?_cons_zero] at this
            split at this
            · simpa using this
            · cases this
          refine fin_val (v := .u (.x y)) (u := v) hR hys.1 ?_ hn
          simp [execOp, ho, Instr.field, run_underlying h1, h4, h11, asAgg, Go.part, hag, h5, hv]

theorem get_cell {c : C} {ad : Addr} {len cap : Nat} (h : CR w g.Z c (.slice (some ad) len cap)) {i : Nat} (hi : i < c.len) : ∃ u, w.cell? (ad.add i) = some u ∧ SR w g.Z (c.get i) u := by
  have _ := hR
  obtain ⟨a', cap', e, _, _, h2⟩ := CR_iff.1 h
  injection e with e1 e2 e3
  exact h2 ad e1.symm i hi
theorem s_indexOwn {t : TypeId} {x i : Operand} {e : C} {n : Nat} {c : C} {k : IntKind} {j : Int} (hT : TsOk P T) (ho : o.op = .indexAddr t x i) (ht : (T t).u = .slice e) (hx : ev st x = .u (.x (.own n c))) (hi : ev st i = .u (.x (.int k j))) (h0 : 0 ≤ j) (h1 : j < (c.len : Int))
    (hn : Nx F site g (st.out site o.dst (.u (.x (.el n c j.toNat))) none) next) : o.wp P a w next Q := by
  obtain ⟨el, ie, ze, d1, _, _, d2, d3, _⟩ := desc hT ht (by simp)
  have hown : g.own n = some (a.eval x, c) := ev_x hR hx
  rcases hR.w.own _ _ _ hown with ⟨e1, e2⟩ | ⟨b, off, cap, l, e1, _⟩
  · omega
  · rw [e1] at hown
    refine fin_val (v := .u (.x (.el n c j.toNat))) (u := .pointer (some ((⟨b, off, none⟩ : Addr).add j.toNat))) hR ⟨_, _, _, hown, by omega, rfl⟩ ?_ hn
    simp [execOp, ho, Instr.indexAt, e1, ev_int hR hi, asIntOf, run_underlying d1, h0, h1, sizeOf, typeInfo, d2, d3]
theorem s_indexRo {t : TypeId} {x i : Operand} {e : C} {c : C} {k : IntKind} {j : Int} (hT : TsOk P T) (ho : o.op = .indexAddr t x i) (ht : (T t).u = .slice e) (hx : ev st x = .u (.x (.ro c))) (hi : ev st i = .u (.x (.int k j))) (h0 : 0 ≤ j) (h1 : j < (c.len : Int))
    (hn : Nx F site g (st.out site o.dst (.u (.x (.roel c j.toNat))) none) next) : o.wp P a w next Q := by
  obtain ⟨el, ie, ze, d1, _, _, d2, d3, _⟩ := desc hT ht (by simp)
  have hro : CR w g.Z c (a.eval x) := ev_x hR hx
  obtain ⟨ad, cap, e1, _, h2, h3⟩ := CR_iff.1 hro
  obtain ⟨ad, rfl, _⟩ := h2 (by omega)
  rw [e1] at hro
  refine fin_val (v := .u (.x (.roel c j.toNat))) (u := .pointer (some (ad.add j.toNat))) hR ⟨_, _, _, hro, by omega, rfl⟩ ?_ hn
  simp [execOp, ho, Instr.indexAt, e1, ev_int hR hi, asIntOf, run_underlying d1, h0, h1, sizeOf, typeInfo, d2, d3]

theorem s_index {t : TypeId} {x i : Operand} {s : ByteArray} {k : IntKind} {j : Int} (hT : TsOk P T) (ho : o.op = .index t x i) (ht : (T t).u = .str) (hx : ev st x = .u (.x (.str s))) (hi : ev st i = .u (.x (.int k j))) (h0 : 0 ≤ j) (h1 : j < (s.size : Int))
    (hn : Nx F site g (st.out site o.dst (.u (.x (.int .u8 (s.data.toList.getD j.toNat 0).toNat))) none) next) : o.wp P a w next Q := by
  have d1 : P.underlying t = some .string := desc hT ht (by simp)
  refine fin_val (v := .u (.x (.int .u8 (s.data.toList.getD j.toNat 0).toNat))) (u := .int .u8 (s.data.toList.getD j.toNat 0).toNat) hR rfl ?_ hn
  have hlt : j.toNat < s.size := by omega
  have hg : s[j.toNat]? = some (s.data.toList.getD j.toNat 0) := by
    rw [getElem?_pos s j.toNat hlt]
    have : j.toNat < s.data.toList.length := by simpa using hlt
    simp [List.getD_eq_getElem?_getD, List.getElem?_eq_getElem this]
    rfl
  simp [execOp, ho, Instr.index, ev_str hR hx, ev_int hR hi, asIntOf, run_underlying d1, h0, hg]
end
end Go.BV

/-
  Loads, new memory, lengths.
-/
namespace Go.BV
section
variable {P : Program} {T : TypeId → TI} {O : FuncId → Option Ora} {F : Fx} {g : Gh} {st : St} {a : Act} {w : World} {o : Oper} {site : Nat} {next : Act → World → Prop} {Q : Exit → Act → World → Prop}

theorem XsR.stay {w' : World} (hz : Stay g.Z w g.Z w') {xs : List X} {vs : List Value} (h : XsR g w xs vs) : XsR g w' xs vs := by
  simpa using (tr_id (g := g) (g' := g) hz (fun _ _ _ h => h) (fun _ b vs h => ⟨vs, h⟩)).xs h
theorem VR.stay {w' : World} (hz : Stay g.Z w g.Z w') {v : V} {u : Value} (h : VR g w v u) : VR g w' v u := by
  simpa [map_id_v] using (tr_id (g := g) (g' := g) hz (fun _ _ _ h => h) (fun _ b vs h => ⟨vs, h⟩)).v h
/-- The cells behind an address, and the load of a type. -/
theorem known (hT : TsOk P T) {t : TypeId} (h : (T t).size ≠ 0) : (T t).u ≠ .other := fun e => h (hT.no t e).1
theorem aggOk {t : TypeId} {u : TU} (h : DescOk P t u) (hu : u ≠ .other) : ∃ d, P.underlying t = some d ∧ aggB d = u.isAgg := by
  cases u with
  | int k => exact ⟨_, h, rfl⟩
  | bool => exact ⟨_, h, rfl⟩
  | str => exact ⟨_, h, rfl⟩
  | slice c => obtain ⟨_, _, _, h, _⟩ := h; exact ⟨_, h, rfl⟩
  | struct fs => obtain ⟨_, h, _⟩ := h; exact ⟨_, h, rfl⟩
  | one => obtain ⟨d, h, hd⟩ := h; exact ⟨d, h, hd⟩
  | other => exact absurd rfl hu
theorem run_loadVar (hR : R F g st a w) (hT : TsOk P T) {t : TypeId} (hk : (T t).u ≠ .other) {ad : Addr} {vs : List Value} {ys : List X} {u : U} (hc : ∀ j v, vs[j]? = some v → w.cell? (ad.add j) = some v) (hx : XsR g w ys vs)
    (hl : ys.length = (T t).size) (hu : U.ofCells (T t).u.isAgg ys = some u) : ∃ v, (loadVar t ad).run P w = .ok v w ∧ UR g w u v := by
  have ht := hT.ok t hk
  obtain ⟨inf, z, h1, h2, _⟩ := ht.info
  obtain ⟨d, h3, h4⟩ := aggOk ht.desc hk
  have hag := run_isAgg (P := P) hR h3
  rw [h4] at hag
  have hlen := hx.length
  cases hb : (T t).u.isAgg with
  | true =>
    rw [hb] at hu hag
    simp only [U.ofCells] at hu
    injection hu with hu
    subst hu
    refine ⟨.agg vs.toArray, ?_, vs, rfl, hx⟩
    have := run_loadCells_list (P := P) w ad vs hc
    rw [← hlen, hl] at this
    simp [loadVar, hag, sizeOf, typeInfo, h1, h2, this]
  | false =>
    rw [hb] at hu hag
    cases ys with
    | nil => simp [U.ofCells] at hu
    | cons y r =>
      cases r with
      | cons _ _ => simp [U.ofCells] at hu
      | nil =>
        simp only [U.ofCells] at hu
        injection hu with hu
        subst hu
        cases vs with
        | nil => exact hx.elim
        | cons v r =>
          have h0 := hc 0 v rfl
          rw [show ad.add 0 = ad by simp [Addr.add]] at h0
          exact ⟨v, by simp [loadVar, hag, h0], hx.1⟩

theorem mapX {cs : List S} {vs : List Value} (h : cs.length = vs.length) (hc : ∀ (i : Nat) s v, cs[i]? = some s → vs[i]? = some v → SR w g.Z s v) : XsR g w (cs.map S.toX) vs := by
  induction cs generalizing vs with
  | nil => cases vs with
    | nil => trivial
    | cons => simp at h
  | cons s cs ih => cases vs with
    | nil => simp at h
    | cons v vs => exact ⟨SR.toX (hc 0 s v rfl rfl), ih (by simpa using h) fun i s' v' h1 h2 => hc (i + 1) s' v' (by simpa using h1) (by simpa using h2)⟩

variable (hR : R F g st a w)
include hR

theorem loadX_ok (hT : TsOk P T) {t : TypeId} {x : X} {ad : Value} {u : U} (hk : (T t).u ≠ .other) (hx : XR g w x ad) (h : loadX st.tb x (T t).size (T t).u.isAgg = some u) : ∃ b v, ad = .pointer (some b) ∧ (loadVar t b).run P w = .ok v w ∧ UR g w u v := by
  unfold loadX at h
  split at h
  · rename_i n k
    obtain ⟨b, vs, h1, rfl⟩ := hx
    obtain ⟨cs, h2, h3⟩ := hR.s.tabs n b vs h1
    rw [h2] at h
    simp only at h
    split at h
    · rename_i ys hc
      obtain ⟨h4, rfl⟩ := cut_ok hR hc
      have hl := h3.length
      obtain ⟨v, hv, hu⟩ := run_loadVar hR hT (t := t) hk (ad := ⟨b, k, none⟩) (vs := (vs.drop k).take (T t).size) (ys := (cs.drop k).take (T t).size) (u := u) (fun j v hj => by
        rw [add_none, row_cell (hR.w.tab n b vs h1)]
        rw [List.getElem?_take] at hj
        split at hj
        · simpa using hj
        · cases hj) ((h3.drop k).take _) (by simp; omega) h
      exact ⟨_, v, rfl, hv, hu⟩
    · cases h
  · rename_i cs k
    obtain ⟨b, ⟨h1, h2, h3⟩, rfl⟩ := hx
    split at h
    · rename_i ys hc
      obtain ⟨h4, rfl⟩ := cut_ok hR hc
      have hex : ∀ i : Nat, ∃ v, i < cs.length → w.cell? ⟨b.block, b.off + i, none⟩ = some v ∧ SR w g.Z (cs.getD i (.bool false)) v := by
        intro i
        by_cases hi : i < cs.length
        · obtain ⟨v, hv, hs⟩ := h3 i cs[i] (List.getElem?_eq_getElem hi)
          exact ⟨v, fun _ => ⟨hv, by simpa [List.getD_eq_getElem?_getD, List.getElem?_eq_getElem hi] using hs⟩⟩
        · exact ⟨.nilFunc, fun h => absurd h hi⟩
      have hex' := fun i => Classical.choose_spec (hex i)
      generalize hfd : (fun i => Classical.choose (hex i)) = f
      have hf : ∀ i, i < cs.length → w.cell? ⟨b.block, b.off + i, none⟩ = some (f i) ∧ SR w g.Z (cs.getD i (.bool false)) (f i) := fun i hi => by rw [← hfd]; exact hex' i hi
      obtain ⟨v, hv, hu⟩ := run_loadVar hR hT (t := t) hk (ad := ⟨b.block, b.off + k, none⟩) (vs := (List.range (T t).size).map fun j => f (k + j)) (ys := ((cs.drop k).take (T t).size).map S.toX) (u := u) (fun j v hj => by
        rw [add_none]
        simp only [List.getElem?_map, Option.map_eq_some_iff, List.getElem?_range'] at hj
        obtain ⟨j', hj', rfl⟩ := hj
        obtain ⟨hlt, rfl⟩ := List.getElem?_eq_some_iff.1 hj'
        simp at hlt ⊢
        rw [Nat.add_assoc]
        exact (hf (k + j) (by omega)).1) (mapX (by simp; omega) (fun i s v h1 h2 => by
          simp only [List.getElem?_map, Option.map_eq_some_iff] at h2
          obtain ⟨j', hj', rfl⟩ := h2
          obtain ⟨hlt, rfl⟩ := List.getElem?_eq_some_iff.1 hj'
          simp at hlt ⊢
          rw [List.getElem?_take, if_pos hlt, List.getElem?_drop] at h1
          have := (hf (k + i) (by omega)).2
          rw [List.getD_eq_getElem?_getD, h1] at this
          exact this)) (by simp; omega) h
      exact ⟨_, v, rfl, hv, hu⟩
    · cases h
  · rename_i n c i
    cases hb : (T t).u.isAgg with
    | true => rw [hb] at h; cases h
    | false =>
      rw [hb] at h
      injection h with h
      subst h
      obtain ⟨b, len, cap, h1, h2, rfl⟩ := hx
      rcases hR.w.own _ _ _ h1 with ⟨e, _⟩ | ⟨b', off, cap', l, e, h3, h4, h5, h6⟩
      · cases e
      · injection e with e1 e2 e3
        injection e1 with e1
        subst e1
        obtain ⟨v, hv, hs⟩ := h6 i h2
        obtain ⟨d, h7, h8⟩ := aggOk (hT.ok t hk).desc hk
        have hag := run_isAgg (P := P) hR h7
        rw [h8, hb] at hag
        refine ⟨_, v, rfl, ?_, SR.toX hs⟩
        simp [loadVar, hag, add_none, row_cell h3, hv]
  · rename_i c i
    cases hb : (T t).u.isAgg with
    | true => rw [hb] at h; cases h
    | false =>
      rw [hb] at h
      injection h with h
      subst h
      obtain ⟨b, len, cap, h1, h2, rfl⟩ := hx
      obtain ⟨v, hv, hs⟩ := get_cell hR h1 h2
      obtain ⟨d, h7, h8⟩ := aggOk (hT.ok t hk).desc hk
      have hag := run_isAgg (P := P) hR h7
      rw [h8, hb] at hag
      refine ⟨_, v, rfl, ?_, SR.toX hs⟩
      simp [loadVar, hag, hv]
  · cases h

theorem blt_ok {n : Nat} (h : Nat.blt 0 n = true) : n ≠ 0 := by
  have _ := hR
  have := Nat.le_of_ble_eq_true h
  omega
theorem s_load {t : TypeId} {x : Operand} {y : X} {u : U} (hT : TsOk P T) (ho : o.op = .load t x) (hx : ev st x = .u (.x y)) (hs : Nat.blt 0 (T t).size = true) (h : loadX st.tb y (T t).size (T t).u.isAgg = some u)
    (hn : Nx F site g (st.out site o.dst (.u u) none) next) : o.wp P a w next Q := by
  obtain ⟨b, v, e, h1, h2⟩ := loadX_ok hR hT (known hT (blt_ok hR hs)) (ev_x hR hx) h
  refine fin_val (v := .u u) (u := v) hR h2 ?_ hn
  simp [execOp, ho, Instr.loadAt, e, Instr.sureAddr, h1]

/-! ### New memory -/
/-- A new variable. -/
theorem fin_tab (hf : Fresh site g st) {cs : List X} {vs : Array Value} {e : TypeId} (hx : XsR g w cs vs.toList) (hrun : (execOp a.eval o).run P w = .ok (.value (.pointer (some ⟨w.heap.size, 0, none⟩))) (w.alloc (.cells vs e)))
    (hn : Nx F site g (st.out site o.dst (.u (.x (.ptr (nm site 0) 0))) (some cs)) next) : o.wp P a w next Q := by
  unfold Oper.wp
  rw [hrun]
  have hlow : 4096 ≤ nm site 0 := by unfold nm; omega
  have h1 := hR.alloc (.cells vs e)
  have h2 := h1.newTab (n := nm site 0) (b := w.heap.size) (vs := vs.toList) (cs := cs) (hf.tab 0 (by omega)) (hf.tb 0 (by omega)) row_alloc
    (XsR.stay (hR.w.stay fun _ hb => heap_alloc_lt hb) hx)
    (hR.free (Nat.le_refl _)) hR.w.size hlow
  refine hn _ _ _ (h2.put (v := .u (.x (.ptr (nm site 0) 0))) ⟨w.heap.size, vs.toList, setTab_tab.2 (.inl ⟨rfl, rfl⟩), rfl⟩ o.dst) ⟨fun _ _ => rfl, fun n hne => ?_⟩
  simp only [Gh.setTab]
  rw [if_neg (hne 0 (by omega))]

/-- A new slice. -/
theorem fin_own (hf : Fresh site g st) {c : C} {vs : Array Value} {e : TypeId} {cap : Nat} (hl : c.len ≤ cap) (hcap : cap ≤ vs.size) (hc : ∀ i, i < c.len → ∃ u, vs[i]? = some u ∧ SR w g.Z (c.get i) u)
    (hrun : (execOp a.eval o).run P w = .ok (.value (.slice (some ⟨w.heap.size, 0, none⟩) c.len cap)) (w.alloc (.cells vs e)))
    (hn : Nx F site g (st.out site o.dst (.u (.x (.own (nm site 0) c))) none) next) : o.wp P a w next Q := by
  unfold Oper.wp
  rw [hrun]
  have h1 := hR.alloc (.cells vs e)
  have hst : Stay g.Z w g.Z (w.alloc (.cells vs e)) := hR.w.stay fun _ hb => heap_alloc_lt hb
  have h2 := h1.newOwn (n := nm site 0) (v := .slice (some ⟨w.heap.size, 0, none⟩) c.len cap) (c := c) (hf.own 0 (by omega))
    (.inr ⟨w.heap.size, 0, cap, vs.toList, rfl, row_alloc, by simpa using hcap, hl, fun i hi => by
      obtain ⟨u, hu, hs⟩ := hc i hi
      exact ⟨u, by simpa using hu, hs.mono hst⟩⟩)
    (fun b hb => by
      have : w.heap.size = b := by simpa [Value.ownBlock] using hb
      subst this
      exact ⟨hR.free (Nat.le_refl _), .inl hR.w.size⟩)
  refine hn _ _ _ (h2.put (v := .u (.x (.own (nm site 0) c))) (setOwn_own.2 (.inl ⟨rfl, rfl⟩)) o.dst) ⟨fun n hne => ?_, fun _ _ => rfl⟩
  simp only [Gh.setOwn]
  rw [if_neg (hne 0 (by omega))]

theorem s_alloc {t : TypeId} (hT : TsOk P T) (hf : Fresh site g st) (ho : o.op = .alloc t) (hz : Nat.blt 0 (T t).zero.length = true)
    (hn : Nx F site g (st.out site o.dst (.u (.x (.ptr (nm site 0) 0))) (some (T t).zero)) next) : o.wp P a w next Q := by
  have hk : (T t).u ≠ .other := fun e => blt_ok hR hz (by rw [(hT.no t e).2]; rfl)
  obtain ⟨inf, z, h1, h2, h3, h4⟩ := (hT.ok t hk).info
  refine fin_tab hR hf (vs := z.cells) (e := t) (h4 g w) ?_ hn
  simp [execOp, ho, Instr.alloc, zeroValue, typeInfo, h1, h3, newVar, newRow]
theorem s_box {t : TypeId} {x : Operand} {u : U} (hT : TsOk P T) (hf : Fresh site g st) (ho : o.op = .box t x) (hx : ev st x = .u u) (hc : u.cells.all X.cellOk = true)
    (hn : Nx F site g (st.out site o.dst (.u (.x (.ptr (nm site 0) 0))) (some u.cells)) next) : o.wp P a w next Q := by
  have h := UR.cells hR.w (ev_u hR hx) hc
  refine fin_tab hR hf (vs := (a.eval x).cells) (e := t) h.1 ?_ hn
  simp [execOp, ho, Instr.box, newVar, newRow]
end
end Go.BV

/-
  Literals, made slices, parts of slices, lengths.
-/
namespace Go.BV
section
variable {P : Program} {T : TypeId → TI} {O : FuncId → Option Ora} {F : Fx} {g : Gh} {st : St} {a : Act} {w : World} {o : Oper} {site : Nat} {next : Act → World → Prop} {Q : Exit → Act → World → Prop}

theorem foldl_set (off : Nat) : ∀ (vs : List Value) (k : Nat) (cells : Array Value), off + k + vs.length ≤ cells.size →
    ((vs.zipIdx k).foldl (fun cs (p : Value × Nat) => cs.setIfInBounds (off + p.2) p.1) cells).toList = cells.toList.take (off + k) ++ vs ++ cells.toList.drop (off + k + vs.length)
  | [], k, cells, _ => by simp
  | v :: vs, k, cells, h => by
    simp only [List.length_cons] at h
    simp only [List.zipIdx_cons, List.foldl_cons]
    rw [foldl_set off vs (k + 1) _ (by simp; omega)]
    simp only [Array.toList_setIfInBounds, List.length_cons]
    rw [show off + (k + 1) = off + k + 1 by omega, show off + k + 1 + vs.length = off + k + (vs.length + 1) by omega]
    have hk : off + k < cells.toList.length := by simp; omega
    rw [List.drop_set_of_lt (by omega), List.take_set, List.take_succ_eq_append_getElem (by simpa using hk)]
    rw [List.set_append_right _ _ (by simp; exact Nat.min_le_left _ _)]
    simp only [List.length_take]
    rw [show off + k - min (off + k) cells.toList.length = 0 by omega]
    simp
theorem fill_step {place : Nat → Option (Nat × Nat)} {cells : Array Value} {i off size : Nat} {v : Value} {rest : List (Nat × Value)} (hp : place i = some (off, size)) (hs : v.cells.size = size) (hb : off + size ≤ cells.size) :
    ∃ cells', cells'.toList = cells.toList.take off ++ v.cells.toList ++ cells.toList.drop (off + size) ∧ Instr.fill place cells ((i, v) :: rest) = Instr.fill place cells' rest := by
  refine ⟨(v.cells.toList.zipIdx).foldl (fun cs (p : Value × Nat) => cs.setIfInBounds (off + p.2) p.1) cells, ?_, ?_⟩
  · have := foldl_set off v.cells.toList 0 cells (by simpa [hs] using hb)
    simpa [hs] using this
  · have h1 : (v.cells.size ≠ size || off + v.cells.size > cells.size) = false := by
      rw [hs]; simp; omega
    simp only [Instr.fill, hp, h1, Bool.false_eq_true, if_false]
    congr 1
    rw [← Array.foldl_toList]
    simp

variable (hR : R F g st a w)
include hR

theorem fill_ok {fs : List (Nat × Nat × Bool)} {place : Nat → Option (Nat × Nat)} (hp : ∀ i off size ag, fs[i]? = some (off, size, ag) → place i = some (off, size)) :
    ∀ (ps : List (Nat × V)) (vs : List (Nat × Value)) (cs cs' : List X) (cells : Array Value), ps.map (·.1) = vs.map (·.1) → (∀ (k : Nat) v u, (ps.map (·.2))[k]? = some v → (vs.map (·.2))[k]? = some u → VR g w v u) → buildC fs cs ps = some cs' → XsR g w cs cells.toList →
      ∃ cells', Instr.fill place cells vs = some cells' ∧ XsR g w cs' cells'.toList
  | [], [], cs, cs', cells, _, _, h, hx => by
    simp only [buildC] at h
    injection h with h
    subst h
    exact ⟨cells, rfl, hx⟩
  | [], _ :: _, _, _, _, he, _, _, _ => by simp at he
  | _ :: _, [], _, _, _, he, _, _, _ => by simp at he
  | (i, pv) :: ps, (j, v) :: vs, cs, cs', cells, he, hv, h, hx => by
    simp only [List.map_cons] at he
    injection he with e1 e2
    subst e1
    cases pv with
    | tup us => simp [buildC] at h
    | u y =>
      simp only [buildC] at h
      split at h
      · rename_i off size ag hf
        cases hb : (y.cells.length == size && y.cells.all X.cellOk)
        · rw [hb] at h; cases h
        · rw [hb] at h
          simp only [cond_true] at h
          simp only [Bool.and_eq_true] at hb
          split at h
          · rename_i cs1 hsp
            have hlen : y.cells.length = size := by simpa using hb.1
            have hy := UR.cells hR.w (hv 0 (.u y) v rfl rfl) hb.2
            have hl := hy.1.length
            unfold splice at hsp
            cases hble : Nat.ble (off + y.cells.length) cs.length
            · rw [hble] at hsp; cases hsp
            · rw [hble] at hsp
              injection hsp with hsp
              subst hsp
              have hle := Nat.le_of_ble_eq_true hble
              have hxl : cs.length = cells.size := by simpa using hx.length
              obtain ⟨cells', h1, h2⟩ := fill_step (cells := cells) (v := v) (rest := vs) (hp i off size ag hf) (by simpa [hlen] using hl.symm) (by rw [hlen] at hle; omega)
              rw [h2]
              refine fill_ok hp ps vs _ cs' cells' e2 (fun k v' u' h3 h4 => hv (k + 1) v' u' (by simpa using h3) (by simpa using h4)) h ?_
              rw [h1, hlen]
              exact ((hx.take off).append hy.1).append (hx.drop _)
          · cases h
      · cases h

theorem s_build {t : TypeId} {ps : Array (Nat × Operand)} {fs : List (Nat × Nat × Bool)} {cs : List X} (hT : TsOk P T) (ho : o.op = .build t ps) (ht : (T t).u = .struct fs) (hb : buildC fs (T t).zero (ps.toList.map fun (i, x) => (i, ev st x)) = some cs)
    (hn : Nx F site g (st.out site o.dst (.u (.agg cs)) none) next) : o.wp P a w next Q := by
  have hk : (T t).u ≠ .other := by rw [ht]; simp
  obtain ⟨inf, z, h1, h2, h3, h4⟩ := (hT.ok t hk).info
  obtain ⟨fields, h5, h6, h7⟩ := desc hT ht (by simp)
  have hpl : ∀ (l : List Field) (fs' : List (Nat × Nat × Bool)), l.length = fs'.length → (∀ (i off size : Nat) (ag : Bool), fs'[i]? = some (off, size, ag) → ∃ f inf d, l[i]? = some f ∧ f.offset = off ∧ P.info? f.type = some inf ∧ inf.size = size ∧ size ≠ 0 ∧ P.underlying f.type = some d ∧ ag = aggB d) →
      l.mapM (fun f => (P.info? f.type).map fun i => (f.offset, i.size)) = some (fs'.map fun (x : Nat × Nat × Bool) => (x.1, x.2.1)) := by
    intro l
    induction l with
    | nil => intro fs' hl _; cases fs' with
      | nil => rfl
      | cons => simp at hl
    | cons f l ih => intro fs' hl hh; cases fs' with
      | nil => simp at hl
      | cons x fs' =>
        obtain ⟨f', inf', d', q1, q2, q3, q4, _⟩ := hh 0 x.1 x.2.1 x.2.2 rfl
        simp at q1
        subst q1
        have := ih fs' (by simpa using hl) fun i off size ag hi => hh (i + 1) off size ag (by simpa using hi)
        simp [q3, this, q2, q4]
  have hpl' := hpl fields.toList fs (by simpa using h6) (by simpa using h7)
  obtain ⟨cells, h8, h9⟩ := fill_ok hR (fs := fs) (place := ((fs.map fun (x : Nat × Nat × Bool) => (x.1, x.2.1)).toArray[·]?)) (fun i off size ag hi => by simp [hi]) (ps.toList.map fun (i, x) => (i, ev st x)) (ps.toList.map fun (i, x) => (i, a.eval x)) _ cs z.cells (by simp) (fun k v u h10 h11 => by
    simp only [List.map_map, List.getElem?_map, Option.map_eq_some_iff] at h10 h11
    obtain ⟨p, hp, rfl⟩ := h10
    obtain ⟨q, hq, rfl⟩ := h11
    rw [hp] at hq
    injection hq with hq
    subst hq
    exact ev_ok hR.s _) hb (h4 g w)
  refine fin_val (v := .u (.agg cs)) (u := .agg cells) hR ⟨cells.toList, by simp, h9⟩ ?_ hn
  have := run_build (P := P) w t (ps.map fun (i, x) => (i, a.eval x)) cells (by
    unfold Program.built
    simp only [h1, h5, h3, hpl']
    simpa using h8)
  simp only [execOp, ho, Sem.run_bind, this, Result.andThen_ok, Sem.run_pure]

theorem C_set {c c' : C} {i : Nat} {s : S} (h : c.set i s = some c') (hi : i < c.len) : c'.len = c.len ∧ ∀ j, j < c.len → c'.get j = if j = i then s else c.get j := by
  have _ := hR
  unfold C.set at h
  split at h
  · split at h
    · rename_i hk
      injection h with h
      subst h hk
      refine ⟨by simp [C.len], fun j hj => ?_⟩
      simp only [C.len] at hi hj
      by_cases e : j = i
      · subst e; simp [C.get, List.getD_eq_getElem?_getD, List.getElem?_set, hi]
      · simp [C.get, List.getD_eq_getElem?_getD, List.getElem?_set, e, Ne.symm e]
    · cases h
  all_goals first
    | (injection h with h
       subst h
       refine ⟨by simp [C.len], fun j hj => ?_⟩
       simp only [C.len] at hi hj
       by_cases e : j = i
       · subst e; simp [C.get, List.getD_eq_getElem?_getD, List.getElem?_set, hi]
       · simp [C.get, List.getD_eq_getElem?_getD, List.getElem?_set, e, Ne.symm e])
    | cases h
theorem toS_ok {x : X} {s : S} {v : Value} (hx : XR g w x v) (hs : x.toS = some s) (hno : ∀ n c, x ≠ .own n c) : SR w g.Z s v := by
  have _ := hR
  cases x <;> simp only [X.toS] at hs <;> first
    | (cases hs; done)
    | (injection hs with hs; subst hs; exact hx)
    | skip
  case nil c =>
    injection hs with hs; subst hs
    refine CR_iff.2 ⟨none, 0, by rw [hx.2]; exact hx.1, by rw [hx.2]; exact Nat.le_refl _, fun h => by rw [hx.2] at h; omega, fun ad h => by cases h⟩
  case own n c => exact absurd rfl (hno n c)
theorem buildL_ok : ∀ (ps : List (Nat × V)) (vs : List (Nat × Value)) (c c' : C) (cells : Array Value), ps.map (·.1) = vs.map (·.1) → (∀ (k : Nat) v u, (ps.map (·.2))[k]? = some v → (vs.map (·.2))[k]? = some u → VR g w v u) → buildL c ps = some c' →
      cells.size = c.len → (∀ i, i < c.len → ∃ u, cells[i]? = some u ∧ SR w g.Z (c.get i) u) → ∃ cells', Instr.fill (fun i => some (i * 1, 1)) cells vs = some cells' ∧ c'.len = c.len ∧ cells'.size = c.len ∧ ∀ i, i < c.len → ∃ u, cells'[i]? = some u ∧ SR w g.Z (c'.get i) u
  | [], [], c, c', cells, _, _, h, hl, hx => by
    simp only [buildL] at h
    injection h with h
    subst h
    exact ⟨cells, rfl, rfl, hl, hx⟩
  | [], _ :: _, _, _, _, he, _, _, _, _ => by simp at he
  | _ :: _, [], _, _, _, he, _, _, _, _ => by simp at he
  | (i, pv) :: ps, (j, v) :: vs, c, c', cells, he, hv, h, hl, hx => by
    simp only [List.map_cons] at he
    injection he with e1 e2
    subst e1
    have hvr := hv 0 pv v rfl rfl
    cases pv with
    | tup us => simp [buildL] at h
    | u y0 => cases y0 with
    | agg xs => simp [buildL] at h
    | x y =>
      simp only [buildL] at h
      split at h
      · cases h
      · rename_i hno
        split at h
        · rename_i s hs
          cases hb : Nat.blt i c.len
          · rw [hb] at h; cases h
          · rw [hb] at h
            simp only [cond_true] at h
            split at h
            · rename_i c1 hset
              have hi : i < c.len := by simpa using hb
              obtain ⟨hl1, hg1⟩ := C_set hR hset hi
              have hsr := toS_ok hR (x := y) hvr hs (fun n d e => hno n d e)
              have hok : y.cellOk = true := by cases y <;> first | rfl | (simp [X.toS] at hs)
              have hone := (XR.one hR.w (x := y) hvr hok).2
              obtain ⟨cells1, h1, h2⟩ := fill_step (place := fun i => some (i * 1, 1)) (cells := cells) (i := i) (v := v) (rest := vs) rfl (by rw [hone]; rfl) (by omega)
              rw [h2]
              have hlen1 : cells1.size = cells.size := by
                have := congrArg List.length h1
                simp [hone] at this
                omega
              obtain ⟨cells', q1, q2, q3, q4⟩ := buildL_ok ps vs c1 c' cells1 e2 (fun k v' u' h3 h4 => hv (k + 1) v' u' (by simpa using h3) (by simpa using h4)) h (by omega) (fun j hj => by
                rw [hl1] at hj
                have hgj : cells1[j]? = if j = i then some v else cells[j]? := by
                  have hset' : cells1.toList = cells.toList.set i v := by
                    rw [h1, hone, List.set_eq_take_append_cons_drop, if_pos (by simp; omega)]
                    simp
                  rw [← Array.getElem?_toList, hset', List.getElem?_set]
                  by_cases e : i = j
                  · rw [if_pos e, if_pos e.symm, if_pos (by simp; omega)]
                  · rw [if_neg e, if_neg (Ne.symm e)]; simp
                rw [hgj, hg1 j hj]
                by_cases e : j = i
                · rw [if_pos e, if_pos e]; exact ⟨v, rfl, hsr⟩
                · rw [if_neg e, if_neg e]; exact hx j hj)
              exact ⟨cells', q1, by omega, by omega, fun i hi => q4 i (by omega)⟩
            · cases h
        · cases h

theorem s_buildSlice {t : TypeId} {n : Nat} {ps : Array (Nat × Operand)} {e c : C} (hT : TsOk P T) (hf : Fresh site g st) (ho : o.op = .buildSlice t n ps) (ht : (T t).u = .slice e) (h24 : Nat.ble n 4096 = true)
    (hb : buildL (e.zeros n) (ps.toList.map fun (i, x) => (i, ev st x)) = some c) (hn : Nx F site g (st.out site o.dst (.u (.x (.own (nm site 0) c))) none) next) : o.wp P a w next Q := by
  obtain ⟨el, ie, ze, d1, _, _, d2, d3, d4, d5, d6, d7⟩ := desc hT ht (by simp)
  have hn4 : n ≤ 4096 := Nat.le_of_ble_eq_true h24
  have hzl : (e.zeros n).len = n := by cases e <;> simp [C.zeros, C.len]
  obtain ⟨cells, h1, h2, h3, h4⟩ := buildL_ok hR (ps.toList.map fun (i, x) => (i, ev st x)) (ps.toList.map fun (i, x) => (i, a.eval x)) (e.zeros n) c ((Array.range n).map fun _ => ze) (by simp) (fun k v u h10 h11 => by
    simp only [List.map_map, List.getElem?_map, Option.map_eq_some_iff] at h10 h11
    obtain ⟨p, hp, rfl⟩ := h10
    obtain ⟨q, hq, rfl⟩ := h11
    rw [hp] at hq
    injection hq with hq
    subst hq
    exact ev_ok hR.s _) hb (by simp [hzl]) (fun i hi => ⟨ze, by rw [hzl] at hi; simp [hi], d7 _ _ _ _ (by omega)⟩)
  rw [hzl] at h2 h3 h4
  refine fin_own hR hf (c := c) (vs := cells) (e := el) (cap := n) (by omega) (by omega) (by rw [h2]; exact h4) ?_ hn
  have hm : ∀ m, m = n → ((Array.range m).map fun x => (#[ze] : Array Value)[x % (#[ze] : Array Value).size]!) = (Array.range n).map fun _ => ze := by
    intro m hm
    subst hm
    apply Array.map_congr_left
    intro x _
    simp [Nat.mod_one]
  by_cases h0 : n = 0
  · subst h0
    simp [execOp, ho, Instr.buildSlice, run_underlying d1, sizeOf, typeInfo, d2, d3, newRow]
    have : ((Array.range 0).map fun _ => ze) = #[] := by simp
    rw [this] at h1
    have hd0 : Array.map (fun x => (default : Value)) (Array.range 0) = #[] := by simp
    simp at h1
    rw [hd0]
    simp [h1, h2]
  · have hfill : Instr.fill (fun i => some (i, 1)) ((Array.range n).map fun _ => ze) (ps.toList.map fun (i, x) => (i, a.eval x)) = some cells := by simpa using h1
    have hle : ¬ (2 ^ 24 < n) := by omega
    have h24' : ¬ (16777216 < n) := by omega
    simp only [execOp, ho, Instr.buildSlice, Sem.run_bind, run_underlying d1, Result.andThen_ok, sizeOf, typeInfo, run_program, d2, d3, Nat.mul_one, zeroValue, d5, d6, Sem.run_pure]
    simp only [hle, if_false, Sem.run_bind, Sem.run_pure, Result.andThen_ok, h0, run_program, d2, d5, d6]
    rw [hm n rfl]
    simp [hfill, newRow, h2]
theorem madeCells_one {ze : Value} {n : Nat} : madeCells #[ze] n = (Array.range n).map fun _ => ze := by
  have _ := hR
  unfold madeCells
  apply Array.map_congr_left
  intro x _
  simp [Nat.mod_one]
theorem s_makeSlice {t : TypeId} {l c : Operand} {e : C} {k : IntKind} {n : Int} (hT : TsOk P T) (hf : Fresh site g st) (ho : o.op = .makeSlice t l c) (ht : (T t).u = .slice e) (hl : ev st l = .u (.x (.int k n))) (hs : sameOp l c = true) (h0 : 0 ≤ n) (h1 : n ≤ 1099511627776)
    (hn : Nx F site g (st.out site o.dst (.u (.x (.own (nm site 0) (e.zeros n.toNat)))) none) next) : o.wp P a w next Q := by
  obtain ⟨el, ie, ze, d1, _, _, d2, d3, d4, d5, d6, d7⟩ := desc hT ht (by simp)
  have hle := ev_int hR hl
  obtain ⟨k', hc⟩ : ∃ k', a.eval c = .int k' n := by
    unfold sameOp at hs
    split at hs
    · have := eq_of_beq hs
      subst this
      exact ⟨k, hle⟩
    · rename_i k1 p k2 q
      have := eq_of_beq hs
      subst this
      have h2 : Value.int k1 p = Value.int k n := hle
      injection h2 with _ h2
      exact ⟨k2, by rw [← h2]; rfl⟩
    · cases hs
  have hby : (ie.bytes : Int) * n ≤ 281474976710656 := by
    have h2 : (ie.bytes : Int) ≤ 64 := by omega
    have h3 := Int.mul_le_mul_of_nonneg_right h2 h0
    omega
  have hzl : (e.zeros n.toNat).len = n.toNat := by cases e <;> simp [C.zeros, C.len]
  have hrun := run_make (P := P) w t el ie ze d1 d2 d5 k k' n n h0 (Int.le_refl _) hby (by omega)
  rw [d3, d6, Nat.mul_one, madeCells_one hR] at hrun
  refine fin_own hR hf (c := e.zeros n.toNat) (vs := (Array.range n.toNat).map fun _ => ze) (e := el) (cap := n.toNat) (by omega) (by simp) (fun i hi => ⟨ze, by rw [hzl] at hi; simp [hi], d7 _ _ _ _ (by omega)⟩) ?_ hn
  rw [hzl]
  simp only [execOp, ho, hle, hc, Sem.run_bind, hrun, Result.andThen_ok, Sem.run_pure]

theorem s_len {t : TypeId} {x : Operand} {args : Array Operand} {tys : Array TypeId} {e c : C} (hT : TsOk P T) (ho : o.op = .call { callee := .builtin .len, args := args, argTypes := tys }) (ha : args.toList = [x]) (ht : (T (tys.getD 0 0)).u = .slice e) (hx : asSlice (ev st x) = some c) (h0 : 0 < tys.size)
    (hn : Nx F site g (st.out site o.dst (.u (.x (.int .i64 c.len))) none) next) : o.wp P a w next Q := by
  obtain ⟨el, ie, ze, d1, _⟩ := desc hT ht (by simp)
  have hv : ∃ b cap, a.eval x = .slice b c.len cap := by
    have := ev_ok hR.s x
    unfold asSlice at hx
    split at hx <;> rename_i he <;> first | (cases hx; done) | (injection hx with hx; subst hx; rw [he] at this)
    · obtain ⟨b, cap, e, _⟩ := CR_iff.1 this; exact ⟨b, cap, e⟩
    · obtain ⟨e1, e2⟩ := this; exact ⟨none, 0, by rw [e2]; exact e1⟩
    · rcases hR.w.own _ _ _ this with ⟨e1, e2⟩ | ⟨b, off, cap, l, e1, _⟩
      · exact ⟨none, 0, by rw [e2]; exact e1⟩
      · exact ⟨_, cap, e1⟩
  obtain ⟨b, cap, hv⟩ := hv
  have ha' : args = #[x] := by rw [← Array.toArray_toList (xs := args), ha]
  have ht0 : tys[0]? = some (tys.getD 0 0) := by simp [Array.getD_eq_getD_getElem?, h0]
  refine fin_val (v := .u (.x (.int .i64 c.len))) (u := .int .i64 c.len) hR rfl ?_ hn
  simp only [execOp, ho, ha', resolve, invoke, builtin, Sem.run_bind, Sem.run_pure, Result.andThen_ok, List.map_toArray, List.map_cons, List.map_nil, hv]
  simp only [Builtin.len_, ht0, List.getElem?_toArray, List.getElem?_cons_zero, Sem.run_bind, run_underlying d1, Result.andThen_ok, Sem.run_pure, goInt]
theorem s_lenStr {t : TypeId} {x : Operand} {args : Array Operand} {tys : Array TypeId} {s : ByteArray} (hT : TsOk P T) (ho : o.op = .call { callee := .builtin .len, args := args, argTypes := tys }) (ha : args.toList = [x]) (ht : (T (tys.getD 0 0)).u = .str) (hx : ev st x = .u (.x (.str s))) (h0 : 0 < tys.size)
    (hn : Nx F site g (st.out site o.dst (.u (.x (.int .i64 s.size))) none) next) : o.wp P a w next Q := by
  have d1 : P.underlying (tys.getD 0 0) = some .string := desc hT ht (by simp)
  have ha' : args = #[x] := by rw [← Array.toArray_toList (xs := args), ha]
  have ht0 : tys[0]? = some (tys.getD 0 0) := by simp [Array.getD_eq_getD_getElem?, h0]
  refine fin_val (v := .u (.x (.int .i64 s.size))) (u := .int .i64 s.size) hR rfl ?_ hn
  simp only [execOp, ho, ha', resolve, invoke, builtin, Sem.run_bind, Sem.run_pure, Result.andThen_ok, List.map_toArray, List.map_cons, List.map_nil, ev_str hR hx]
  simp only [Builtin.len_, ht0, List.getElem?_toArray, List.getElem?_cons_zero, Sem.run_bind, run_underlying d1, Result.andThen_ok, Sem.run_pure, goInt]
theorem s_min {x y : Operand} {args : Array Operand} {tys : Array TypeId} {k k' : IntKind} {p q : Int} (ho : o.op = .call { callee := .builtin .min, args := args, argTypes := tys }) (ha : args.toList = [x, y]) (hx : ev st x = .u (.x (.int k p))) (hy : ev st y = .u (.x (.int k' q)))
    (hn : Nx F site g (st.out site o.dst (.u (.x (.int k (if q < p then q else p)))) none) next) : o.wp P a w next Q := by
  have ha' : args = #[x, y] := by rw [← Array.toArray_toList (xs := args), ha]
  refine fin_val (v := .u (.x (.int k (if q < p then q else p)))) (u := .int k (if q < p then q else p)) hR rfl ?_ hn
  simp [execOp, ho, resolve, invoke, builtin, Builtin.min_, Builtin.min2, ha', ev_int hR hx, ev_int hR hy]
theorem s_max {x y : Operand} {args : Array Operand} {tys : Array TypeId} {k k' : IntKind} {p q : Int} (ho : o.op = .call { callee := .builtin .max, args := args, argTypes := tys }) (ha : args.toList = [x, y]) (hx : ev st x = .u (.x (.int k p))) (hy : ev st y = .u (.x (.int k' q)))
    (hn : Nx F site g (st.out site o.dst (.u (.x (.int k (if q > p then q else p)))) none) next) : o.wp P a w next Q := by
  have ha' : args = #[x, y] := by rw [← Array.toArray_toList (xs := args), ha]
  refine fin_val (v := .u (.x (.int k (if q > p then q else p)))) (u := .int k (if q > p then q else p)) hR rfl ?_ hn
  simp [execOp, ho, resolve, invoke, builtin, Builtin.max_, Builtin.max2, ha', ev_int hR hx, ev_int hR hy]
end
end Go.BV

/-
  Parts of strings and slices, functions as values; what a call is told and what it gives.
-/
namespace Go.BV
section
variable {P : Program} {T : TypeId → TI} {O : FuncId → Option Ora} {F : Fx} {g : Gh} {st : St} {a : Act} {w : World} {o : Oper} {site : Nat} {next : Act → World → Prop} {Q : Exit → Act → World → Prop}
variable (hR : R F g st a w)
include hR

theorem bound_ok {lo hi : Option Operand} {n cap l h : Nat} {isSlice : Bool} (hc : n ≤ cap) (hb : bound (lo.map (ev st)) (hi.map (ev st)) n (fun l h => some (l, h)) = some (l, h)) :
    (Instr.sliceBounds isSlice n cap (lo.map a.eval) (hi.map a.eval) none).run P w = .ok (l, h, cap) w ∧ l ≤ h ∧ h ≤ n := by
  have sb : ∀ {x : Operand} {k : IntKind} {i : Int} {y : Nat} {code : BoundsCode}, ev st x = .u (.x (.int k i)) → 0 ≤ i → i ≤ (y : Int) → (Instr.sliceBound (a.eval x) y code).run P w = .ok i.toNat w := by
    intro x k i y code hx h0 h1
    simp [Instr.sliceBound, ev_int hR hx, asIntOf, h0, h1]
  unfold bound at hb
  split at hb
  · rename_i h1 h2
    injection hb with hb
    injection hb with e1 e2
    subst e1 e2
    cases lo <;> cases hi <;> simp at h1 h2
    simp [Instr.sliceBounds]
  · rename_i k i h1 h2
    cases lo <;> simp at h1
    cases hi <;> simp at h2
    split at hb
    · rename_i h3
      split at hb
      · rename_i h4
        injection hb with hb
        injection hb with e1 e2
        subst e1 e2
        refine ⟨?_, by omega, Nat.le_refl _⟩
        simp [Instr.sliceBounds, sb h1 h3 h4]
      · cases hb
    · cases hb
  · rename_i k i h1 h2
    cases lo <;> simp at h1
    cases hi <;> simp at h2
    split at hb
    · rename_i h3
      split at hb
      · rename_i h4
        injection hb with hb
        injection hb with e1 e2
        subst e1 e2
        refine ⟨?_, by omega, by omega⟩
        simp [Instr.sliceBounds, sb h2 h3 (show i ≤ (cap : Int) by omega)]
      · cases hb
    · cases hb
  · rename_i k i k' j h1 h2
    cases lo <;> simp at h1
    cases hi <;> simp at h2
    split at hb
    · rename_i h3
      split at hb
      · rename_i h4
        split at hb
        · rename_i h5
          injection hb with hb
          injection hb with e1 e2
          subst e1 e2
          refine ⟨?_, by omega, by omega⟩
          simp [Instr.sliceBounds, sb h2 (show 0 ≤ j by omega) (show j ≤ (cap : Int) by omega), sb (y := j.toNat) h1 h3 (by omega)]
        · cases hb
      · cases hb
    · cases hb
  · cases hb

theorem s_sliceStr {t : TypeId} {x : Operand} {lo hi : Option Operand} {s : ByteArray} {l h : Nat} (hT : TsOk P T) (ho : o.op = .slice t x lo hi none) (ht : (T t).u = .str) (hx : ev st x = .u (.x (.str s))) (hb : bound (lo.map (ev st)) (hi.map (ev st)) s.size (fun l h => some (l, h)) = some (l, h))
    (hn : Nx F site g (st.out site o.dst (.u (.x (.str (s.extract l h)))) none) next) : o.wp P a w next Q := by
  have d1 : P.underlying t = some .string := desc hT ht (by simp)
  obtain ⟨h1, _⟩ := bound_ok (P := P) (isSlice := false) hR (Nat.le_refl _) hb
  refine fin_val (v := .u (.x (.str (s.extract l h)))) (u := .string (s.extract l h)) hR rfl ?_ hn
  simp [execOp, ho, Instr.sliceAt, Instr.slice, run_underlying d1, ev_str hR hx, h1]

theorem C_take (c : C) (n : Nat) : (c.take n).len = min n c.len ∧ ∀ i, i < n → (c.take n).get i = c.get i := by
  have _ := hR
  cases c <;> refine ⟨by simp [C.take, C.len], fun i hi => ?_⟩ <;> simp [C.take, C.get, List.getD_eq_getElem?_getD, List.getElem?_take, hi]
theorem C_drop (c : C) (n : Nat) : (c.drop n).len = c.len - n ∧ ∀ i, (c.drop n).get i = c.get (n + i) := by
  have _ := hR
  cases c <;> refine ⟨by simp [C.drop, C.len], fun i => ?_⟩ <;> simp [C.drop, C.get, List.getD_eq_getElem?_getD, List.getElem?_drop]
theorem C_part (c : C) {l h : Nat} (h1 : l ≤ h) (h2 : h ≤ c.len) : ((c.take h).drop l).len = h - l ∧ ∀ i, i < h - l → ((c.take h).drop l).get i = c.get (l + i) := by
  refine ⟨by rw [(C_drop hR _ _).1, (C_take hR _ _).1]; omega, fun i hi => ?_⟩
  rw [(C_drop hR _ _).2, (C_take hR _ _).2 _ (by omega)]
theorem s_sliceRo {t : TypeId} {x : Operand} {lo hi : Option Operand} {e c : C} {l h : Nat} (hT : TsOk P T) (ho : o.op = .slice t x lo hi none) (ht : (T t).u = .slice e) (hx : ev st x = .u (.x (.ro c))) (hb : bound (lo.map (ev st)) (hi.map (ev st)) c.len (fun l h => some (l, h)) = some (l, h))
    (hn : Nx F site g (st.out site o.dst (.u (.x (.ro ((c.take h).drop l)))) none) next) : o.wp P a w next Q := by
  obtain ⟨el, ie, ze, d1, _, _, d2, d3, _⟩ := desc hT ht (by simp)
  obtain ⟨b, cap, e1, e2, e3, e4⟩ := CR_iff.1 (ev_x hR hx)
  obtain ⟨h1, h2, h3⟩ := bound_ok (P := P) (isSlice := true) hR e2 hb
  obtain ⟨q1, q2⟩ := C_part hR c h2 h3
  refine fin_val (v := .u (.x (.ro ((c.take h).drop l)))) (u := .slice (if cap = l then b else b.map (·.add l)) (h - l) (cap - l)) hR ?_ ?_ hn
  · refine CR_iff.2 ⟨_, _, by rw [q1], by rw [q1]; omega, fun hpos => ?_, fun ad had i hi => ?_⟩
    · rw [q1] at hpos
      obtain ⟨ad, rfl, hs, hz⟩ := e3 (by omega)
      rw [if_neg (by omega)]
      exact ⟨ad.add l, rfl, by cases ad; simp at hs; subst hs; rw [add_none], by rw [add_block]; exact hz⟩
    · rw [q1] at hi
      rw [if_neg (by omega)] at had
      obtain ⟨ad0, rfl, hs, hz⟩ := e3 (by omega)
      simp at had
      subst had
      obtain ⟨u, hu, hsr⟩ := e4 ad0 rfl (l + i) (by omega)
      refine ⟨u, ?_, by show SR w g.Z _ u; rw [q2 i hi]; exact hsr⟩
      cases ad0
      simp at hs
      subst hs
      rw [add_none] at hu ⊢
      rw [add_none, Nat.add_assoc]
      exact hu
  · simp [execOp, ho, Instr.sliceAt, Instr.slice, run_underlying d1, e1, h1, sizeOf, typeInfo, d2, d3]

theorem s_makeFunc {f : FuncId} {first caps : Array Operand} {ns : List Nat} (ho : o.op = .makeFunc (.func f) first caps) (h0 : (first.size == 0) = true)
    (hc : capsOf (caps.toList.map (ev st)) = some ns) (hn : Nx F site g (st.out site o.dst (.u (.x (.fn f ns))) none) next) : o.wp P a w next Q := by
  have key : ∀ (l : List Operand) (ns : List Nat), capsOf (l.map (ev st)) = some ns → ∃ bs : List Nat, (∃ vss : List (List Value), ns.map g.tab = (bs.zip vss).map some ∧ vss.length = bs.length) ∧ l.map a.eval = bs.map fun b => Value.pointer (some ⟨b, 0, none⟩) := by
    intro l
    induction l with
    | nil => intro ns h; simp [capsOf] at h; subst h; exact ⟨[], ⟨[], rfl, rfl⟩, rfl⟩
    | cons x l ih =>
      intro ns h
      rw [List.map_cons] at h
      unfold capsOf at h
      split at h
      · rename_i heq; cases heq
      · rename_i n vs heq
        injection heq with hx hvs
        subst hvs
        split at h
        · rename_i ns' h2
          injection h with h
          subst h
          obtain ⟨bs, ⟨vss, h4, h5⟩, h6⟩ := ih ns' h2
          obtain ⟨b, vs, h7, h8⟩ := ev_x hR hx
          exact ⟨b :: bs, ⟨vs :: vss, by simp [h7, h4], by simp [h5]⟩, by simp [h8, h6]⟩
        · cases h
      · cases h
  obtain ⟨bs, h1, h2⟩ := key caps.toList ns hc
  have hfirst : first = #[] := by simpa using h0
  refine fin_val (v := .u (.x (.fn f ns))) (u := .func (.func f) #[] (bs.map fun b => Value.pointer (some ⟨b, 0, none⟩)).toArray) hR ⟨bs, h1, rfl⟩ ?_ hn
  simp only [execOp, ho, Instr.makeFunc, hfirst, Sem.run_bind, Sem.run_pure, Result.andThen_ok, ← h2]
  have : caps.map a.eval = (caps.toList.map a.eval).toArray := by apply Array.ext'; simp
  rw [this]
  simp
end

/-! ### What a function is told, and what it gives -/
def blks (v : Value) : List Nat := match v.ownBlock with | some b => [b] | none => []
def MutS (w : World) (Z : Nat → Prop) : S → Value → List Nat → Prop
  | .sl c, v, bs => OW w Z v c ∧ bs = blks v
  | s, v, bs => SR w Z s v ∧ bs = []
def MutSs (w : World) (Z : Nat → Prop) : List S → List Value → List Nat → Prop
  | [], [], bs => bs = []
  | s :: ss, v :: vs, bs => ∃ b1 b2, bs = b1 ++ b2 ∧ MutS w Z s v b1 ∧ MutSs w Z ss vs b2
  | _, _, _ => False
def MutD (w : World) (Z : Nat → Prop) : DU → Value → List Nat → Prop
  | .x s, v, bs => MutS w Z s v bs
  | .agg cs, v, bs => ∃ vs, v = .agg vs.toArray ∧ MutSs w Z cs vs bs
  | .ptr cs, v, bs => ∃ b vs bs', v = .pointer (some ⟨b, 0, none⟩) ∧ row w b = some vs ∧ MutSs w Z cs vs bs' ∧ bs = b :: bs'
def SsR (w : World) (Z : Nat → Prop) : List S → List Value → Prop
  | [], [] => True
  | s :: ss, v :: vs => SR w Z s v ∧ SsR w Z ss vs
  | _, _ => False
def ReadD (w : World) (Z : Nat → Prop) : DU → Value → Prop
  | .x s, v => SR w Z s v
  | .agg cs, v => ∃ vs, v = .agg vs.toArray ∧ SsR w Z cs vs
  | .ptr cs, v => ∃ a, v = .pointer (some a) ∧ PtrR w Z cs a
def notPtr : DU → Prop
  | .ptr _ => False
  | _ => True
def isPtrD : DU → Prop
  | .ptr _ => True
  | _ => False
def ArgsR (w : World) (Z : Nat → Prop) : List Md → List DU → List Value → List Nat → Prop
  | [], [], [], bs => bs = []
  | .val :: ms, d :: ds, v :: vs, bs => ReadD w Z d v ∧ ArgsR w Z ms ds vs bs
  | .wr :: ms, d :: ds, v :: vs, bs => ∃ b1 b2, bs = b1 ++ b2 ∧ notPtr d ∧ MutD w Z d v b1 ∧ ArgsR w Z ms ds vs b2
  | .ref :: ms, d :: ds, v :: vs, bs => ∃ b1 b2, bs = b1 ++ b2 ∧ isPtrD d ∧ MutD w Z d v b1 ∧ ArgsR w Z ms ds vs b2
  | _, _, _, _ => False
/-- What was handed over to be written holds afterwards. -/
def UpdR (w : World) (Z : Nat → Prop) : List Md → List DU → List Value → List Nat → Prop
  | [], [], [], bs => bs = []
  | .val :: ms, ds, _ :: vs, bs => UpdR w Z ms ds vs bs
  | .wr :: ms, d :: ds, v :: vs, bs => ∃ b1 b2, bs = b1 ++ b2 ∧ notPtr d ∧ MutD w Z d v b1 ∧ UpdR w Z ms ds vs b2
  | .ref :: ms, d :: ds, v :: vs, bs => ∃ b1 b2, bs = b1 ++ b2 ∧ isPtrD d ∧ MutD w Z d v b1 ∧ UpdR w Z ms ds vs b2
  | _, _, _, _ => False
def MutDs (w : World) (Z : Nat → Prop) : List DU → List Value → List Nat → Prop
  | [], [], bs => bs = []
  | d :: ds, v :: vs, bs => ∃ b1 b2, bs = b1 ++ b2 ∧ notPtr d ∧ MutD w Z d v b1 ∧ MutDs w Z ds vs b2
  | _, _, _ => False
def ReadDs (w : World) (Z : Nat → Prop) : List DU → List Value → Prop
  | [], [] => True
  | d :: ds, v :: vs => ReadD w Z d v ∧ ReadDs w Z ds vs
  | _, _ => False
def resVal : List Value → Value
  | [v] => v
  | vs => .tuple vs.toArray

structure Post (w : World) (Z : Nat → Prop) (md : List Md) (weak : Bool) (args : List Value) (bs : List Nat) (out : Out) (v : Value) (w' : World) (rs : List Value) (bR bU : List Nat) : Prop where
  os : w'.os = w.os
  tape : w'.tape = w.tape
  output : w'.output = w.output
  size : w.heap.size ≤ w'.heap.size
  frame : ∀ b, b < w.heap.size → b ∉ bs → w'.heap[b]? = w.heap[b]?
  val : v = resVal rs
  res : weak = false → MutDs w' (fun b => Z b ∨ (w.heap.size ≤ b ∧ b < w'.heap.size ∧ b ∉ bR ++ bU)) out.res rs bR
  rdr : weak = true → bR = [] ∧ ReadDs w' (fun b => Z b ∨ (w.heap.size ≤ b ∧ b < w'.heap.size ∧ b ∉ bR ++ bU)) out.res rs
  fresh : ∀ b, b ∈ bR → w.heap.size ≤ b
  upd : UpdR w' (fun b => Z b ∨ (w.heap.size ≤ b ∧ b < w'.heap.size ∧ b ∉ bR ++ bU)) md out.upd args bU
  updB : ∀ b, b ∈ bU → b ∈ bs ∨ w.heap.size ≤ b
  nodup : (bR ++ bU).Nodup

/-- A function does what is said of it: called with values that read as 'ds', it returns what 'spec' tells. -/
def Meets (P : Program) (f : FuncId) (md : List Md) (weak : Bool) (spec : List DU → Out → Prop) : Prop :=
  ∀ (w : World) (Z : Nat → Prop) (args : List Value) (ds : List DU) (bs : List Nat) (out : Out), (∀ b, Z b → b < w.heap.size ∧ b ∉ bs) → bs.Nodup → ArgsR w Z md ds args bs → spec ds out →
    Calls P f args.toArray w fun e w' => ∃ v rs bR bU, e = .returned v ∧ Post w Z md weak args bs out v w' rs bR bU
end Go.BV

/-
  Calls of functions that write nothing that was there.
-/
namespace Go.BV

/-- What is told of the functions that are called is so. -/
structure OOk (P : Program) (O : FuncId → Option Ora) : Prop where
  nat : ∀ f o, O f = some o → Nat1 o
  meets : ∀ f o, O f = some o → ∃ spec, Meets P f o.md o.weak spec ∧ ∀ ds out, o.G ds some = some out → spec ds out
  fn : ∀ f o, O f = some o → ∃ fn : Func, P.funcs[f]? = some fn ∧ fn.body.isNone = false ∧ (fn.name == "runtime.NumGoroutine") = false

section
variable {P : Program} {T : TypeId → TI} {O : FuncId → Option Ora} {F : Fx} {g : Gh} {st : St} {a : Act} {w : World} {o : Oper} {site : Nat} {next : Act → World → Prop} {Q : Exit → Act → World → Prop}

theorem G_some {ρ : Type} {o : Ora} (ho : Nat1 o) {ds : List DU} {A : Out → Option ρ} {r : ρ} (h : o.G ds A = some r) : ∃ out, o.G ds some = some out ∧ A out = some r := by
  rw [ho] at h
  cases hg : o.G ds some with
  | none => rw [hg] at h; cases h
  | some out => rw [hg] at h; exact ⟨out, rfl, h⟩

theorem flat_SR {w w' : World} {Z Z' : Nat → Prop} {c : C} (hf : c.flat = true) {i : Nat} {v : Value} (h : SR w Z (c.get i) v) : SR w' Z' (c.get i) v := by
  cases c <;> first | exact h | (simp [C.flat] at hf)
theorem flat_OW {Z Z' : Nat → Prop} {c : C} {v : Value} (hf : c.flat = true) (h : OW w Z v c) : OW w Z' v c := by
  rcases h with h | ⟨b, off, cap, l, h1, h2, h3, h4, h5⟩
  · exact .inl h
  · refine .inr ⟨b, off, cap, l, h1, h2, h3, h4, fun i hi => ?_⟩
    obtain ⟨u, hu, hs⟩ := h5 i hi
    exact ⟨u, hu, flat_SR hf hs⟩
theorem flat_MutS {Z Z' : Nat → Prop} {s : S} {v : Value} {bs : List Nat} (hf : s.flat = true) (h : MutS w Z s v bs) : MutS w Z' s v bs := by
  cases s <;> first | exact h | exact ⟨flat_OW hf h.1, h.2⟩
theorem flat_MutSs {Z Z' : Nat → Prop} : ∀ {ss : List S} {vs : List Value} {bs : List Nat}, ss.all S.flat = true → MutSs w Z ss vs bs → MutSs w Z' ss vs bs
  | [], [], _, _, h => h
  | s :: ss, v :: vs, bs, hf, h => by
    simp only [List.all_cons, Bool.and_eq_true] at hf
    obtain ⟨b1, b2, e, h1, h2⟩ := h
    exact ⟨b1, b2, e, flat_MutS hf.1 h1, flat_MutSs hf.2 h2⟩
  | [], _ :: _, _, _, h => h.elim
  | _ :: _, [], _, _, h => h.elim
theorem flat_MutD {Z Z' : Nat → Prop} {d : DU} {v : Value} {bs : List Nat} (hf : d.flat = true) (h : MutD w Z d v bs) : MutD w Z' d v bs := by
  cases d with
  | x s => exact flat_MutS hf h
  | agg cs => obtain ⟨vs, e, h⟩ := h; exact ⟨vs, e, flat_MutSs hf h⟩
  | ptr cs => obtain ⟨b, vs, bs', e, hr, h, e'⟩ := h; exact ⟨b, vs, bs', e, hr, flat_MutSs hf h, e'⟩
theorem flat_MutDs {Z Z' : Nat → Prop} : ∀ {ds : List DU} {vs : List Value} {bs : List Nat}, ds.all DU.flat = true → MutDs w Z ds vs bs → MutDs w Z' ds vs bs
  | [], [], _, _, h => h
  | s :: ss, v :: vs, bs, hf, h => by
    simp only [List.all_cons, Bool.and_eq_true] at hf
    obtain ⟨b1, b2, e, hp, h1, h2⟩ := h
    exact ⟨b1, b2, e, hp, flat_MutD hf.1 h1, flat_MutDs hf.2 h2⟩
  | [], _ :: _, _, _, h => h.elim
  | _ :: _, [], _, _, h => h.elim

/-! ### Arguments -/
theorem toS_read (hw : WG F g w) {x : X} {s : S} {v : Value} {Z' : Nat → Prop} (hz : ∀ b, g.Z b → Z' b) (ht : ∀ n, n ∈ x.toks → ∀ v c b, g.own n = some (v, c) → v.ownBlock = some b → Z' b) (hx : XR g w x v) (hs : x.toS = some s) : SR w Z' s v := by
  have hst : Stay g.Z w Z' w := fun b hb => ⟨hz b hb, rfl⟩
  cases x <;> simp only [X.toS] at hs <;> first
    | (cases hs; done)
    | (injection hs with hs; subst hs; exact hx)
    | skip
  case nil c =>
    injection hs with hs; subst hs
    refine CR_iff.2 ⟨none, 0, by rw [hx.2]; exact hx.1, by rw [hx.2]; exact Nat.le_refl _, fun h => by rw [hx.2] at h; omega, fun ad h => by cases h⟩
  case ro c => injection hs with hs; subst hs; exact CR.mono hst hx
  case own n c =>
    injection hs with hs; subst hs
    refine CR.mono (w := w) (Z := fun b => g.Z b ∨ v.ownBlock = some b) (fun b hb => ⟨?_, rfl⟩) (hw.own n v c hx).reads
    rcases hb with hb | hb
    · exact hz b hb
    · exact ht n (by simp [X.toks]) v c b hx hb
theorem toSs_read (hw : WG F g w) {Z' : Nat → Prop} (hz : ∀ b, g.Z b → Z' b) : ∀ {xs : List X} {ss : List S} {vs : List Value}, (∀ n, n ∈ toks xs → ∀ v c b, g.own n = some (v, c) → v.ownBlock = some b → Z' b) → XsR g w xs vs → toSs xs = some ss → SsR w Z' ss vs
  | [], ss, [], _, _, h => by simp only [toSs] at h; injection h with h; subst h; trivial
  | x :: xs, ss, v :: vs, ht, hx, h => by
    simp only [toSs] at h
    split at h
    · rename_i s hs
      split at h
      · rename_i ss' hss
        injection h with h
        subst h
        exact ⟨toS_read hw hz (fun n hn => ht n (by simp [toks, hn])) hx.1 hs, toSs_read hw hz (fun n hn => ht n (by simp [toks, hn])) hx.2 hss⟩
      · cases h
    · cases h
  | [], _, _ :: _, _, hx, _ => hx.elim
  | _ :: _, _, [], _, hx, _ => hx.elim
theorem SsR.get {Z : Nat → Prop} : ∀ {ss : List S} {vs : List Value}, SsR w Z ss vs → ∀ {i : Nat} {s : S}, ss[i]? = some s → ∃ v, vs[i]? = some v ∧ SR w Z s v
  | [], [], _, _, _, h => by simp at h
  | s :: ss, v :: vs, h, 0, s', hs => by simp at hs; subst hs; exact ⟨v, rfl, h.1⟩
  | s :: ss, v :: vs, h, i + 1, s', hs => by simpa using SsR.get h.2 (by simpa using hs)
  | [], _ :: _, h, _, _, _ => h.elim
  | _ :: _, [], h, _, _, _ => h.elim
theorem toDU_read (hS : SG F g w st a) (hw : WG F g w) {Z' : Nat → Prop} (hz : ∀ b, g.Z b → Z' b) {u : U} {d : DU} {v : Value} (ht : ∀ n, n ∈ uToks st.tb u → (∀ v c b, g.own n = some (v, c) → v.ownBlock = some b → Z' b) ∧ ∀ b vs, g.tab n = some (b, vs) → Z' b) (hx : UR g w u v) (h : toDU st.tb u = some d) : ReadD w Z' d v := by
  have hst : Stay g.Z w Z' w := fun b hb => ⟨hz b hb, rfl⟩
  unfold toDU at h
  split at h
  · rename_i cs k
    cases hk : k == 0
    · rw [hk] at h; cases h
    · rw [hk] at h
      injection h with h
      subst h
      have : k = 0 := by simpa using hk
      subst this
      obtain ⟨b, hp, rfl⟩ := hx
      exact ⟨_, rfl, by have := hp.mono hst; obtain ⟨bb, oo, sp⟩ := b; have hsp := this.1; simp at hsp; subst hsp; exact this⟩
  · rename_i n k
    cases hk : k == 0
    · rw [hk] at h; cases h
    · rw [hk] at h
      simp only [cond_true] at h
      split at h
      · rename_i xs hxs
        split at h
        · rename_i ss hss
          injection h with h
          subst h
          have : k = 0 := by simpa using hk
          subst this
          obtain ⟨b, vs, h1, rfl⟩ := hx
          obtain ⟨xs', h2, h3⟩ := hS.tabs n b vs h1
          rw [hxs] at h2
          injection h2 with h2
          subst h2
          have hn := (ht n (by simp [uToks])).2 b vs h1
          have hr := toSs_read hw hz (fun m hm => (ht m (by simp [uToks, hxs, hm])).1) h3 hss
          refine ⟨_, rfl, rfl, fun _ => hn, fun i s hi => ?_⟩
          obtain ⟨v, hv, hs⟩ := hr.get hi
          exact ⟨v, by simp [row_cell (hw.tab n b vs h1), hv], hs⟩
        · cases h
      · cases h
  · rename_i y hy1 hy2
    split at h
    · rename_i s hs
      injection h with h
      subst h
      refine toS_read hw hz (fun n hn => (ht n ?_).1) hx hs
      cases y <;> first | exact hn | (simp [X.toks] at hn)
    · cases h
  · rename_i xs
    split at h
    · rename_i ss hss
      injection h with h
      subst h
      obtain ⟨vs, rfl, hx⟩ := hx
      exact ⟨vs, rfl, toSs_read hw hz (fun n hn => (ht n hn).1) hx hss⟩
    · cases h
theorem vals_read (hS : SG F g w st a) (hw : WG F g w) {Z' : Nat → Prop} (hz : ∀ b, g.Z b → Z' b) : ∀ {md : List Md} {xs : List V} {ds : List DU} {vs : List Value}, md.all Md.isVal = true → md.length = xs.length → xs.length = vs.length → (∀ (i : Nat) x v, xs[i]? = some x → vs[i]? = some v → VR g w x v) →
    (∀ n, n ∈ vToks st.tb xs → (∀ v c b, g.own n = some (v, c) → v.ownBlock = some b → Z' b) ∧ ∀ b vs, g.tab n = some (b, vs) → Z' b) → toDUs st.tb xs = some ds → ArgsR w Z' md ds vs []
  | [], [], ds, [], _, _, _, _, _, h => by simp only [toDUs] at h; injection h with h; subst h; rfl
  | m :: md, x :: xs, ds, v :: vs, hm, h1, h2, hx, ht, h => by
    simp only [List.all_cons, Bool.and_eq_true] at hm
    cases x with
    | tup us => simp [toDUs] at h
    | u u =>
      simp only [toDUs] at h
      split at h
      · rename_i d hd
        split at h
        · rename_i ds' hds
          injection h with h
          subst h
          cases m with
          | val => exact ⟨toDU_read hS hw hz (fun n hn => ht n (by simp [vToks, hn])) (hx 0 (.u u) v rfl rfl) hd, vals_read hS hw hz hm.2 (by simpa using h1) (by simpa using h2) (fun i y z hy hz' => hx (i + 1) y z (by simpa using hy) (by simpa using hz')) (fun n hn => ht n (by simp [vToks, hn])) hds⟩
          | wr => simp [Md.isVal] at hm
          | ref => simp [Md.isVal] at hm
        · cases h
      · cases h
  | [], _ :: _, _, _, _, h1, _, _, _, _ => by simp at h1
  | _ :: _, [], _, _, _, h1, _, _, _, _ => by simp at h1
  | [], [], _, _ :: _, _, _, h2, _, _, _ => by simp at h2
  | _ :: _, _ :: _, _, [], _, _, h2, _, _, _ => by simp at h2

/-! ### Results -/
/-- The world behind a call that left alone what was there; what it made is read. -/
theorem R.called (h : R F g st a w) {w' : World} {bs : List Nat} (hos : w'.os = w.os) (ht : w'.tape = w.tape) (hout : w'.output = w.output) (hs : w.heap.size ≤ w'.heap.size) (hh : ∀ b, b < w.heap.size → w'.heap[b]? = w.heap[b]?) :
    R F { g with Z := fun b => g.Z b ∨ (w.heap.size ≤ b ∧ b < w'.heap.size ∧ b ∉ bs) } st a w' := by
  have h1 := h.grow hos ht hout hs hh
  have hz : Stay g.Z w' (fun b => g.Z b ∨ (w.heap.size ≤ b ∧ b < w'.heap.size ∧ b ∉ bs)) w' := fun b hb => ⟨.inl hb, rfl⟩
  have tr : Tr g w' { g with Z := fun b => g.Z b ∨ (w.heap.size ≤ b ∧ b < w'.heap.size ∧ b ∉ bs) } w' id := tr_id hz (fun _ _ _ h => h) (fun _ b vs h => ⟨vs, h⟩)
  refine ⟨⟨h1.s.size, fun i v hv => ?_, h1.s.defers, fun n b vs hn => ?_, h1.s.mus, h1.s.low⟩, ⟨h1.w.os, h1.w.tape, h1.w.output, h1.w.size, h1.w.frame, fun b hb => ?_, fun b hb => .inl (h1.w.Zin b hb), fun n v c hn => (h1.w.own n v c hn).mono hz fun _ _ => rfl, fun n v c b hn hb => ⟨?_, (h1.w.ownP n v c b hn hb).2⟩, h1.w.ownD, h1.w.tab, fun n b vs hn => ⟨?_, (h1.w.tabP n b vs hn).2⟩, h1.w.tabD, h1.w.otD⟩⟩
  · obtain ⟨u, hu, hr⟩ := h1.s.tmps i v hv
    exact ⟨u, hu, by simpa [map_id_v] using tr.v hr⟩
  · obtain ⟨cs, h2, h3⟩ := h1.s.tabs n b vs hn
    exact ⟨cs, h2, by simpa using tr.xs h3⟩
  · rcases hb with hb | ⟨hb1, hb2, hb3⟩
    · exact h1.w.Zok b hb
    · have := h.w.size
      exact ⟨hb2, fun hm => by have := F.Mlt b hm; omega, .inr (by omega)⟩
  · rintro (hz' | ⟨hz', _⟩)
    · exact (h1.w.ownP n v c b hn hb).1 hz'
    · have := own_lt (h.w.own n v c hn) hb; omega
  · rintro (hz' | ⟨hz', _⟩)
    · exact (h1.w.tabP n b vs hn).1 hz'
    · have := row_lt (h.w.tab n b vs hn); omega

theorem nameS_le {nms : Nat → Nat} {j : Nat} {s : S} : j ≤ (nameS nms j s).2 := by cases s <;> simp [nameS]
theorem nameSs_le {nms : Nat → Nat} : ∀ {ss : List S} {j : Nat}, j ≤ (nameSs nms j ss).2
  | [], j => by simp [nameSs]
  | s :: ss, j => by
    have h1 := nameS_le (nms := nms) (j := j) (s := s)
    have h2 := nameSs_le (nms := nms) (ss := ss) (j := (nameS nms j s).2)
    simp only [nameSs]
    omega
theorem nameD_le {nms : Nat → Nat} {j j' : Nat} {d : DU} {u : U} (h : nameD nms j d = some (u, j')) : j ≤ j' := by
  cases d <;> simp only [nameD] at h
  · injection h with h; injection h with _ h; subst h; exact nameS_le
  · injection h with h; injection h with _ h; subst h; exact nameSs_le
  · cases h
theorem nameDs_le {nms : Nat → Nat} : ∀ {ds : List DU} {j : Nat} {us : List U}, nameDs nms j ds = some us → j ≤ 8
  | [], j, us, h => by
    simp only [nameDs] at h
    cases hb : Nat.ble j 8
    · rw [hb] at h; cases h
    · exact Nat.le_of_ble_eq_true hb
  | d :: ds, j, us, h => by
    simp only [nameDs] at h
    split at h
    · rename_i u j1 hd
      split at h
      · rename_i us' hds
        have := nameDs_le hds
        have := nameD_le hd
        omega
      · cases h
    · cases h

/-- Names that are to be given are free; what was told stays told. -/
structure Adds (nms : Nat → Nat) (j k : Nat) (g g' : Gh) : Prop where
  z : g'.Z = g.Z
  tab : g'.tab = g.tab
  own : ∀ n x, g.own n = some x → g'.own n = some x
  new : ∀ n, (∀ i, j ≤ i → i < k → n ≠ nms i) → g'.own n = g.own n
theorem Adds.refl (nms : Nat → Nat) (j k : Nat) (g : Gh) : Adds nms j k g g := ⟨rfl, rfl, fun _ _ h => h, fun _ _ => rfl⟩
theorem Adds.trans {nms : Nat → Nat} {j k l : Nat} {g g' g'' : Gh} (hjk : j ≤ k) (hkl : k ≤ l) (h : Adds nms j k g g') (h' : Adds nms k l g' g'') : Adds nms j l g g'' :=
  ⟨h'.z.trans h.z, h'.tab.trans h.tab, fun n x hn => h'.own n x (h.own n x hn), fun n hn => (h'.new n fun i h1 h2 => hn i (by omega) h2).trans (h.new n fun i h1 h2 => hn i h1 (by omega))⟩
theorem Adds.xr {nms : Nat → Nat} {j k : Nat} {g g' : Gh} (h : Adds nms j k g g') {x : X} {v : Value} (hx : XR g w x v) : XR g' w x v :=
  (tr_id (g := g) (g' := g') (fun b hb => ⟨by rw [h.z]; exact hb, rfl⟩) (fun n v c hn => h.own n _ hn) (fun n b vs hn => ⟨vs, by rw [h.tab]; exact hn⟩)).tr x v hx
theorem Adds.xs {nms : Nat → Nat} {j k : Nat} {g g' : Gh} (h : Adds nms j k g g') {xs : List X} {vs : List Value} (hx : XsR g w xs vs) : XsR g' w xs vs := by
  simpa using (tr_id (g := g) (g' := g') (fun b hb => ⟨by rw [h.z]; exact hb, rfl⟩) (fun n v c hn => h.own n _ hn) (fun n b vs hn => ⟨vs, by rw [h.tab]; exact hn⟩)).xs hx
theorem Adds.ur {nms : Nat → Nat} {j k : Nat} {g g' : Gh} (h : Adds nms j k g g') {u : U} {v : Value} (hx : UR g w u v) : UR g' w u v := by
  simpa [map_id_u] using (tr_id (g := g) (g' := g') (fun b hb => ⟨by rw [h.z]; exact hb, rfl⟩) (fun n v c hn => h.own n _ hn) (fun n b vs hn => ⟨vs, by rw [h.tab]; exact hn⟩)).u hx

structure Room (F : Fx) (nms : Nat → Nat) (j : Nat) (g : Gh) (bs : List Nat) : Prop where
  free : ∀ i, j ≤ i → i < 8 → g.own (nms i) = none
  inj : ∀ i i', i < 8 → i' < 8 → nms i = nms i' → i = i'
  blocks : ∀ b, b ∈ bs → Free F g b ∧ ∀ i, i < 8 → F.w0.heap.size ≤ b ∨ (F.M b ∧ isLow (nms i) = true)
  nodup : bs.Nodup
theorem Room.step {nms : Nat → Nat} {j k : Nat} {g g' : Gh} {b1 b2 : List Nat} (h : Room F nms j g (b1 ++ b2)) (hjk : j ≤ k) (ha : Adds nms j k g g') (hn : ∀ n v c b, g.own n = none → g'.own n = some (v, c) → v.ownBlock = some b → b ∈ b1) : Room F nms k g' b2 := by
  have hnd := List.nodup_append.1 h.nodup
  refine ⟨fun i h1 h2 => ?_, h.inj, fun b hb => ⟨⟨?_, fun n v c hn' e => ?_, fun n vs hn' => ?_⟩, (h.blocks b (by simp [hb])).2⟩, hnd.2.1⟩
  · rw [ha.new _ fun i' h3 h4 e => ?_]
    · exact h.free i (by omega) h2
    · have := h.inj i i' h2 (by omega) e; omega
  · rw [ha.z]; exact (h.blocks b (by simp [hb])).1.z
  · cases hg : g.own n with
    | none =>
      have := hn n v c b hg hn' e
      exact absurd rfl (hnd.2.2 b this b hb)
    | some x =>
      have := ha.own n x hg
      rw [hn'] at this
      injection this with this
      subst this
      exact (h.blocks b (by simp [hb])).1.own n v c hg e
  · rw [ha.tab] at hn'
    exact (h.blocks b (by simp [hb])).1.tab n vs hn'

theorem nameS_ok {nms : Nat → Nat} {j : Nat} {s : S} {v : Value} {bs : List Nat} (hR : R F g st a w) (hm : MutS w g.Z s v bs) (hr : Room F nms j g bs) (h8 : (nameS nms j s).2 ≤ 8) :
    ∃ g', R F g' st a w ∧ Adds nms j (nameS nms j s).2 g g' ∧ XR g' w (nameS nms j s).1 v ∧ ∀ n u c b, g.own n = none → g'.own n = some (u, c) → u.ownBlock = some b → b ∈ bs := by
  cases s with
  | sl c =>
    simp only [nameS] at h8 ⊢
    obtain ⟨ho, rfl⟩ := hm
    have h1 := hR.newOwn (n := nms j) (hr.free j (Nat.le_refl _) (by omega)) ho fun b hb => by
      have := hr.blocks b (by simp [blks, hb])
      exact ⟨this.1, this.2 j (by omega)⟩
    refine ⟨_, h1, ⟨rfl, rfl, fun n x hn => setOwn_own.2 (.inr ⟨fun e => ?_, hn⟩), fun n hn => ?_⟩, setOwn_own.2 (.inl ⟨rfl, rfl⟩), fun n u d b hn hn' hb => ?_⟩
    · rw [e, hr.free j (Nat.le_refl _) (by omega)] at hn; cases hn
    · simp only [Gh.setOwn]; rw [if_neg (hn j (Nat.le_refl _) (by omega))]
    · rcases setOwn_own.1 hn' with ⟨_, e⟩ | ⟨_, hn'⟩
      · cases e; simp [blks, hb]
      · rw [hn] at hn'; cases hn'
  | int k n => exact ⟨g, hR, Adds.refl _ _ _ _, hm.1, fun n u c b h h' => by rw [h] at h'; cases h'⟩
  | bool b => exact ⟨g, hR, Adds.refl _ _ _ _, hm.1, fun n u c b h h' => by rw [h] at h'; cases h'⟩
  | str s => exact ⟨g, hR, Adds.refl _ _ _ _, hm.1, fun n u c b h h' => by rw [h] at h'; cases h'⟩

theorem nameSs_ok {nms : Nat → Nat} : ∀ {ss : List S} {j : Nat} {vs : List Value} {bs : List Nat} {g : Gh}, R F g st a w → MutSs w g.Z ss vs bs → Room F nms j g bs → (nameSs nms j ss).2 ≤ 8 →
    ∃ g', R F g' st a w ∧ Adds nms j (nameSs nms j ss).2 g g' ∧ XsR g' w (nameSs nms j ss).1 vs ∧ ∀ n u c b, g.own n = none → g'.own n = some (u, c) → u.ownBlock = some b → b ∈ bs
  | [], j, [], bs, g, hR, hm, hr, h8 => ⟨g, hR, Adds.refl _ _ _ _, trivial, fun n u c b h h' => by rw [h] at h'; cases h'⟩
  | s :: ss, j, v :: vs, bs, g, hR, hm, hr, h8 => by
    obtain ⟨b1, b2, rfl, hm1, hm2⟩ := hm
    simp only [nameSs] at h8 ⊢
    have hl1 := nameS_le (nms := nms) (j := j) (s := s)
    have hl2 := nameSs_le (nms := nms) (ss := ss) (j := (nameS nms j s).2)
    have hr1 : Room F nms j g b1 := ⟨hr.free, hr.inj, fun b hb => hr.blocks b (by simp [hb]), (List.nodup_append.1 hr.nodup).1⟩
    obtain ⟨g1, hR1, ha1, hx1, hn1⟩ := nameS_ok hR hm1 hr1 (by omega)
    have hr2 := hr.step hl1 ha1 hn1
    obtain ⟨g2, hR2, ha2, hx2, hn2⟩ := nameSs_ok (g := g1) hR1 (by rw [ha1.z]; exact hm2) hr2 h8
    refine ⟨g2, hR2, ha1.trans hl1 hl2 ha2, ⟨ha2.xr hx1, hx2⟩, fun n u c b hn hn' hb => ?_⟩
    cases hg : g1.own n with
    | none => exact List.mem_append_right _ (hn2 n u c b hg hn' hb)
    | some x =>
      have := ha2.own n x hg
      rw [hn'] at this
      injection this with this
      subst this
      exact List.mem_append_left _ (hn1 n u c b hn hg hb)
  | [], _, _ :: _, _, _, _, hm, _, _ => hm.elim
  | _ :: _, _, [], _, _, _, hm, _, _ => hm.elim

theorem nameDs_ok {nms : Nat → Nat} : ∀ {ds : List DU} {j : Nat} {vs : List Value} {bs : List Nat} {g : Gh} {us : List U}, R F g st a w → MutDs w g.Z ds vs bs → Room F nms j g bs → nameDs nms j ds = some us →
    ∃ g', R F g' st a w ∧ Adds nms j 8 g g' ∧ UsR g' w us vs
  | [], j, [], bs, g, us, hR, hm, hr, h => by
    simp only [nameDs] at h
    cases hb : Nat.ble j 8
    · rw [hb] at h; cases h
    · rw [hb] at h
      injection h with h
      subst h
      exact ⟨g, hR, Adds.refl _ _ _ _, trivial⟩
  | d :: ds, j, v :: vs, bs, g, us, hR, hm, hr, h => by
    obtain ⟨b1, b2, rfl, hp, hm1, hm2⟩ := hm
    simp only [nameDs] at h
    split at h
    · rename_i u j1 hd
      split at h
      · rename_i us' hds
        injection h with h
        subst h
        have hl1 := nameD_le hd
        have hl2 := nameDs_le hds
        have hr1 : Room F nms j g b1 := ⟨hr.free, hr.inj, fun b hb => hr.blocks b (by simp [hb]), (List.nodup_append.1 hr.nodup).1⟩
        have key : ∃ g1, R F g1 st a w ∧ Adds nms j j1 g g1 ∧ UR g1 w u v ∧ ∀ n u c b, g.own n = none → g1.own n = some (u, c) → u.ownBlock = some b → b ∈ b1 := by
          cases d with
          | x s =>
            simp only [nameD] at hd
            injection hd with hd
            injection hd with e1 e2
            subst e1 e2
            exact nameS_ok hR hm1 hr1 hl2
          | agg cs =>
            simp only [nameD] at hd
            injection hd with hd
            injection hd with e1 e2
            subst e1 e2
            obtain ⟨vs', rfl, hm1⟩ := hm1
            obtain ⟨g1, q1, q2, q3, q4⟩ := nameSs_ok hR hm1 hr1 hl2
            exact ⟨g1, q1, q2, ⟨vs', rfl, q3⟩, q4⟩
          | ptr cs => simp [nameD] at hd
        obtain ⟨g1, hR1, ha1, hx1, hn1⟩ := key
        have hr2 := hr.step hl1 ha1 hn1
        obtain ⟨g2, hR2, ha2, hx2⟩ := nameDs_ok (g := g1) hR1 (by rw [ha1.z]; exact hm2) hr2 hds
        exact ⟨g2, hR2, ha1.trans hl1 hl2 ha2, ha2.ur hx1, hx2⟩
      · cases h
    · cases h
  | [], _, _ :: _, _, _, _, _, hm, _, _ => hm.elim
  | _ :: _, _, [], _, _, _, _, hm, _, _ => hm.elim

theorem weak_ok : ∀ {ds : List DU} {vs : List Value}, ReadDs w g.Z ds vs → UsR g w (ds.map weakD) vs
  | [], [], _ => trivial
  | d :: ds, v :: vs, h => by
    refine ⟨?_, weak_ok h.2⟩
    cases d with
    | x s => exact SR.toX h.1
    | agg cs =>
      obtain ⟨us, rfl, hs⟩ := h.1
      refine ⟨us, rfl, ?_⟩
      clear h
      induction cs generalizing us with
      | nil => cases us with
        | nil => trivial
        | cons => exact hs.elim
      | cons c cs ih => cases us with
        | nil => exact hs.elim
        | cons u us => exact ⟨SR.toX hs.1, ih us hs.2⟩
    | ptr cs => obtain ⟨ad, rfl, hp⟩ := h.1; exact ⟨ad, hp, by have := hp.1; cases ad; simp at this; subst this; rfl⟩
  | [], _ :: _, h => h.elim
  | _ :: _, [], h => h.elim
theorem res_ok : ∀ {us : List U} {vs : List Value}, UsR g w us vs → VR g w (resV us) (resVal vs)
  | [], [], h => ⟨[], rfl, h⟩
  | [u], [v], h => h.1
  | u :: u' :: us, v :: v' :: vs, h => ⟨_, rfl, h⟩
  | [], _ :: _, h => h.elim
  | _ :: _, [], h => h.elim
  | [_], _ :: _ :: _, h => h.2.elim
  | _ :: _ :: _, [_], h => h.2.elim
end
end Go.BV

/-
  A call that writes nothing; all such operations together.
-/
namespace Go.BV
section
variable {P : Program} {T : TypeId → TI} {O : FuncId → Option Ora} {F : Fx} {g : Gh} {st : St} {a : Act} {w : World} {o : Oper} {site : Nat} {next : Act → World → Prop} {Q : Exit → Act → World → Prop}

theorem upd_val {w : World} {Z : Nat → Prop} {md : List Md} {vs : List Value} {bs : List Nat} (hm : md.all Md.isVal = true) (h : UpdR w Z md [] vs bs) : bs = [] := by
  induction md generalizing vs with
  | nil => cases vs with
    | nil => exact h
    | cons => exact h.elim
  | cons m md ih =>
    simp only [List.all_cons, Bool.and_eq_true] at hm
    cases m with
    | val => cases vs with
      | nil => exact h.elim
      | cons v vs => exact ih hm.2 h
    | wr => simp [Md.isVal] at hm
    | ref => simp [Md.isVal] at hm

theorem run_callFn {f : Operand} {args : Array Operand} {tys : Array TypeId} {k : FuncId} {caps : List Value} {fn : Func} (ho : o.op = .call { callee := .value f, args := args, argTypes := tys }) (he : a.eval f = .func (.func k) #[] caps.toArray) (hfn : P.funcs[k]? = some fn) (hb : fn.body.isNone = false) (hnm : (fn.name == "runtime.NumGoroutine") = false) :
    (execOp a.eval o).run P w = .ok (.enter k (args.toList.map a.eval ++ caps).toArray) w := by
  have hmap : args.map a.eval = (args.toList.map a.eval).toArray := by apply Array.ext'; simp
  simp only [execOp, ho, resolve, Deferred.ofValue, he, Sem.run_bind, Sem.run_pure, Result.andThen_ok, invoke, callFunc, run_program, hfn, hnm, hb, Bool.false_eq_true, if_false, hmap]
  simp

theorem s_call (hR : R F g st a w) {f : Operand} {args : Array Operand} {tys : Array TypeId} {k : FuncId} {ora : Ora} {ds : List DU} {out : Out} {v : V} (hO : OOk P O) (hf : Fresh site g st) (ho : o.op = .call { callee := .value f, args := args, argTypes := tys })
    (he : ev st f = .u (.x (.fn k []))) (hk : O k = some ora) (hv : ora.md.all Md.isVal = true) (hl : ora.md.length = args.size) (hw : ora.weak = true → vToks st.tb (args.toList.map (ev st)) = []) (hds : toDUs st.tb (args.toList.map (ev st)) = some ds)
    (hG : ora.G ds some = some out) (hu : out.upd = []) (hres : (ora.weak = true ∧ v = resV (out.res.map weakD)) ∨ (ora.weak = false ∧ (vToks st.tb (args.toList.map (ev st)) = [] ∨ out.res.all DU.flat = true) ∧ ∃ us, nameDs (fun j => nm site (8 + j)) 0 out.res = some us ∧ v = resV us))
    (hn : Nx F site g (st.out site o.dst v none) next) : o.wp P a w next Q := by
  obtain ⟨spec, hm, hsp⟩ := hO.meets k ora hk
  obtain ⟨fn, hfn, hb, hnm⟩ := hO.fn k ora hk
  have hev : a.eval f = .func (.func k) #[] ([] : List Value).toArray := by
    obtain ⟨bs, ⟨vss, h1, h2⟩, h3⟩ := ev_x hR he
    cases bs with
    | nil => exact h3
    | cons b bs => cases vss with
      | nil => simp at h2
      | cons => simp at h1
  unfold Oper.wp
  rw [run_callFn ho hev hfn hb hnm]
  simp only [List.append_nil, Oper.upon_enter]
  -- what may be read
  obtain ⟨Zc, hz1, hz2, hz3⟩ : ∃ Zc : Nat → Prop, (∀ b, g.Z b → Zc b) ∧ (∀ b, Zc b → b < w.heap.size) ∧ ((∀ n, n ∈ vToks st.tb (args.toList.map (ev st)) → (∀ v c b, g.own n = some (v, c) → v.ownBlock = some b → Zc b) ∧ ∀ b vs, g.tab n = some (b, vs) → Zc b) ∧ (vToks st.tb (args.toList.map (ev st)) = [] → Zc = g.Z)) := by
    by_cases he : vToks st.tb (args.toList.map (ev st)) = []
    · exact ⟨g.Z, fun _ h => h, fun b h => (hR.w.Zok b h).1, fun n hn => (by rw [he] at hn; cases hn), fun _ => rfl⟩
    · refine ⟨fun b => b < w.heap.size, fun b h => (hR.w.Zok b h).1, fun _ h => h, fun n hn => ⟨fun v c b h h' => own_lt (hR.w.own n v c h) h', fun b vs h => row_lt (hR.w.tab n b vs h)⟩, fun h => absurd h he⟩
  have hargs := vals_read hR.s hR.w hz1 (md := ora.md) (xs := args.toList.map (ev st)) (vs := args.toList.map a.eval) (ds := ds) hv (by simpa using hl) (by simp) (fun i x u hx hu => by
    simp only [List.getElem?_map, Option.map_eq_some_iff] at hx hu
    obtain ⟨p, hp, rfl⟩ := hx
    obtain ⟨q, hq, rfl⟩ := hu
    rw [hp] at hq
    injection hq with hq
    subst hq
    exact ev_ok hR.s _) hz3.1 hds
  refine (hm w Zc (args.toList.map a.eval) ds [] out (fun b hb => ⟨hz2 b hb, by simp⟩) List.nodup_nil hargs (hsp ds out hG)).mono ?_
  rintro e w' ⟨u, rs, bR, bU, rfl, hp⟩
  show next (a.put o.dst u) w'
  have hbU : bU = [] := upd_val hv (by rw [← hu]; exact hp.upd)
  subst hbU
  have hR1 := hR.called (bs := bR) hp.os hp.tape hp.output hp.size (fun b hb => hp.frame b hb (by simp))
  rw [hp.val]
  rcases hres with ⟨hwk, rfl⟩ | ⟨hwk, hfl, us, hus, rfl⟩
  · obtain ⟨hbR, hrd⟩ := hp.rdr hwk
    have hZ := hz3.2 (hw hwk)
    subst hZ
    simp only [List.append_nil] at hrd
    exact hn _ _ _ (hR1.put (res_ok (weak_ok hrd)) o.dst) ⟨fun _ _ => rfl, fun _ _ => rfl⟩
  · have hmut := hp.res hwk
    simp only [List.append_nil] at hmut
    have hmut' : MutDs w' (fun b => g.Z b ∨ (w.heap.size ≤ b ∧ b < w'.heap.size ∧ b ∉ bR)) out.res rs bR := by
      rcases hfl with hfl | hfl
      · have hZ := hz3.2 hfl
        subst hZ
        exact hmut
      · exact flat_MutDs hfl hmut
    have hroom : Room F (fun j => nm site (8 + j)) 0 { g with Z := fun b => g.Z b ∨ (w.heap.size ≤ b ∧ b < w'.heap.size ∧ b ∉ bR) } bR := by
      refine ⟨fun i _ hi => hf.own (8 + i) (by omega), fun i i' _ _ h => by unfold nm at h; omega, fun b hb => ⟨⟨?_, fun n v c hn' e => ?_, fun n vs hn' => ?_⟩, fun i hi => .inl ?_⟩, by simpa using hp.nodup⟩
      · rintro (h | ⟨_, _, h⟩)
        · have := (hR.w.Zok b h).1; have := hp.fresh b hb; omega
        · exact h hb
      · have := own_lt (hR.w.own n v c hn') e; have := hp.fresh b hb; omega
      · have := row_lt (hR.w.tab n b vs hn'); have := hp.fresh b hb; omega
      · have := hp.fresh b hb; have := hR.w.size; omega
    obtain ⟨g', hR2, ha, hu'⟩ := nameDs_ok hR1 hmut' hroom hus
    refine hn _ _ _ (hR2.put (res_ok hu') o.dst) ⟨fun n hne => ?_, fun n _ => by rw [ha.tab]⟩
    rw [ha.new n fun i _ hi => hne (8 + i) (by omega)]

/-! ### All together -/
theorem isEmpty_nil {α : Type} {l : List α} (h : l.isEmpty = true) : l = [] := by cases l <;> first | rfl | cases h
theorem cv_sound (hT : TsOk P T) (hO : OOk P O) (hR : R F g st a w) (hf : Fresh site g st) {v : V} {ext : Option (List X)} (h : cvD T O site o.op (ev st) st.tb = some (v, ext)) (hn : Nx F site g (st.out site o.dst v ext) next) : o.wp P a w next Q := by
  unfold cvD cv at h
  have inj : ∀ {x y : V × Option (List X)}, some x = some y → x.1 = y.1 ∧ x.2 = y.2 := fun h => by injection h with h; subst h; exact ⟨rfl, rfl⟩
  split at h
  · rename_i x ho; obtain ⟨rfl, rfl⟩ := inj h; exact s_move hR ho hn
  · rename_i x ho; obtain ⟨rfl, rfl⟩ := inj h; exact s_assign hR ho hn
  · rename_i c x y ho
    split at h
    · rename_i b p q h1 h2 h3
      obtain ⟨rfl, rfl⟩ := inj h
      exact s_pick hR ho h1 (by cases b <;> first | exact h2 | exact h3) hn
    · rename_i b p h1 h2 h3
      cases b
      · cases h
      · obtain ⟨rfl, rfl⟩ := inj h
        exact s_pick hR ho h1 h2 hn
    · rename_i b q h1 h2 h3
      cases b
      · obtain ⟨rfl, rfl⟩ := inj h
        exact s_pick hR ho h1 h2 hn
      · cases h
    · cases h
  · rename_i t ho
    cases hb : Nat.blt 0 (T t).zero.length
    · rw [hb] at h; cases h
    · rw [hb] at h
      obtain ⟨rfl, rfl⟩ := inj h
      exact s_alloc hR hT hf ho hb hn
  · rename_i t x ho
    split at h
    · rename_i u hu
      cases hb : (u.cells.all X.cellOk && (u.cells.length == (T t).size))
      · rw [hb] at h; cases h
      · rw [hb] at h
        simp only [Bool.and_eq_true] at hb
        obtain ⟨rfl, rfl⟩ := inj h
        exact s_box hR hT hf ho hu hb.1 hn
    · cases h
  · rename_i t ps ho
    split at h
    · rename_i fs ht
      split at h
      · rename_i cs hcs
        cases hb : cs.all X.cellOk
        · rw [hb] at h; cases h
        · rw [hb] at h
          obtain ⟨rfl, rfl⟩ := inj h
          exact s_build hR hT ho ht hcs hn
      · cases h
    · cases h
  · rename_i t n ps ho
    split at h
    · rename_i c ht
      cases hb : Nat.ble n 4096
      · rw [hb] at h; cases h
      · rw [hb] at h
        simp only [cond_true] at h
        split at h
        · rename_i c' hc
          obtain ⟨rfl, rfl⟩ := inj h
          exact s_buildSlice hR hT hf ho ht hb hc hn
        · cases h
    · cases h
  · rename_i t x ho
    split at h
    · rename_i y hy
      cases hb : Nat.blt 0 (T t).size
      · rw [hb] at h; cases h
      · rw [hb] at h
        simp only [cond_true] at h
        split at h
        · rename_i u hu
          obtain ⟨rfl, rfl⟩ := inj h
          exact s_load hR hT ho hy hb hu hn
        · cases h
    · cases h
  · rename_i x ho
    split at h
    all_goals first
      | (rename_i hx; obtain ⟨rfl, rfl⟩ := inj h; exact s_nilCheck hR ho hx rfl hn)
      | cases h
  · rename_i op t x y t' ho
    rw [binV_nat] at h
    obtain ⟨r, h1, h2⟩ := Option.bind_eq_some_iff.1 h
    obtain ⟨rfl, rfl⟩ := inj h2
    exact s_binOp hR hT ho h1 hn
  · rename_i op t x ho
    rw [unV_nat] at h
    obtain ⟨r, h1, h2⟩ := Option.bind_eq_some_iff.1 h
    obtain ⟨rfl, rfl⟩ := inj h2
    exact s_unOp hR ho h1 hn
  · rename_i s d x ho
    split at h
    · rename_i h1 h2 h3; obtain ⟨rfl, rfl⟩ := inj h; exact s_convInt hR hT ho h1 h2 h3 hn
    · rename_i h1 h2 h3; obtain ⟨rfl, rfl⟩ := inj h; exact s_convStr hR hT ho h1 h2 h3 hn
    · cases h
  · rename_i t l c ho
    split at h
    · rename_i h1 h2
      cases hb : sameOp l c
      · rw [hb] at h; cases h
      · rw [hb] at h
        simp only [cond_true] at h
        split at h
        · rename_i h3
          split at h
          · rename_i h4
            obtain ⟨rfl, rfl⟩ := inj h
            exact s_makeSlice hR hT hf ho h1 h2 hb h3 h4 hn
          · cases h
        · cases h
    · cases h
  · rename_i t x lo hi mx ho
    split at h
    · cases h
    · split at h
      · rename_i h1 h2
        rw [bound_nat] at h
        obtain ⟨⟨l, hh⟩, h3, h4⟩ := Option.bind_eq_some_iff.1 h
        obtain ⟨rfl, rfl⟩ := inj h4
        exact s_sliceStr hR hT ho h1 h2 h3 hn
      · rename_i h1 h2
        rw [bound_nat] at h
        obtain ⟨⟨l, hh⟩, h3, h4⟩ := Option.bind_eq_some_iff.1 h
        obtain ⟨rfl, rfl⟩ := inj h4
        exact s_sliceRo hR hT ho h1 h2 h3 hn
      · cases h
  · rename_i t x f ho
    split at h
    · rename_i h1 h2
      split at h
      · rename_i h3; obtain ⟨rfl, rfl⟩ := inj h; exact s_fieldPtr hR hT ho h1 h3 h2 hn
      · cases h
    · rename_i h1 h2
      split at h
      · rename_i h3; obtain ⟨rfl, rfl⟩ := inj h; exact s_fieldRop hR hT ho h1 h3 h2 hn
      · cases h
    · cases h
  · rename_i t x f ho
    split at h
    · rename_i h1 h2
      split at h
      · rename_i h3
        split at h
        · rename_i h4
          split at h
          · rename_i h5; obtain ⟨rfl, rfl⟩ := inj h; exact s_field hR hT ho h1 h2 h3 h4 h5 hn
          · cases h
        · cases h
      · cases h
    · cases h
  · rename_i t x i ho
    split at h
    · rename_i h1 h2 h3
      split at h
      · rename_i h4
        split at h
        · rename_i h5; obtain ⟨rfl, rfl⟩ := inj h; exact s_indexOwn hR hT ho h1 h2 h3 h4 h5 hn
        · cases h
      · cases h
    · rename_i h1 h2 h3
      split at h
      · rename_i h4
        split at h
        · rename_i h5; obtain ⟨rfl, rfl⟩ := inj h; exact s_indexRo hR hT ho h1 h2 h3 h4 h5 hn
        · cases h
      · cases h
    · cases h
  · rename_i t x i ho
    split at h
    · rename_i h1 h2 h3
      split at h
      · rename_i h4
        split at h
        · rename_i h5; obtain ⟨rfl, rfl⟩ := inj h; exact s_index hR hT ho h1 h2 h3 h4 h5 hn
        · cases h
      · cases h
    · cases h
  · rename_i t i ho
    split at h
    · rename_i h1
      split at h
      · rename_i h2; obtain ⟨rfl, rfl⟩ := inj h; exact s_extract hR ho h1 h2 hn
      · cases h
    · cases h
  · rename_i f first caps ho
    cases hb : first.size == 0
    · rw [hb] at h; cases h
    · rw [hb] at h
      simp only [cond_true] at h
      split at h
      · rename_i ns hns; obtain ⟨rfl, rfl⟩ := inj h; exact s_makeFunc hR ho hb hns hn
      · cases h
  · rename_i f args tys ho
    split at h
    · rename_i k hk
      split at h
      · rename_i ora hora
        cases hb : (ora.md.all Md.isVal && (ora.md.length == args.size) && (!ora.weak || (vToks st.tb (args.toList.map (ev st))).isEmpty))
        · rw [hb] at h; cases h
        · rw [hb] at h
          simp only [cond_true] at h
          simp only [Bool.and_eq_true, Bool.or_eq_true] at hb
          obtain ⟨⟨hb1, hb2⟩, hb3⟩ := hb
          split at h
          · rename_i ds hds
            obtain ⟨out, hG, h⟩ := G_some (hO.nat k ora hora) h
            split at h
            · rename_i hup
              refine s_call hR hO hf ho hk hora hb1 (by simpa using hb2) (fun hw => ?_) hds hG hup ?_ (v := v) ?_
              · rcases hb3 with hb3 | hb3
                · rw [hw] at hb3; cases hb3
                · exact isEmpty_nil hb3
              · cases hw : ora.weak
                · rw [hw] at h
                  simp only [cond_false] at h
                  cases hc : ((vToks st.tb (args.toList.map (ev st))).isEmpty || out.res.all DU.flat)
                  · rw [hc] at h; cases h
                  · rw [hc] at h
                    simp only [cond_true] at h
                    simp only [Bool.or_eq_true] at hc
                    split at h
                    · rename_i us hus
                      obtain ⟨h1, h2⟩ := inj h
                      exact .inr ⟨rfl, hc.imp isEmpty_nil id, us, hus, h1.symm⟩
                    · cases h
                · rw [hw] at h
                  obtain ⟨h1, h2⟩ := inj h
                  exact .inl ⟨rfl, h1.symm⟩
              · have : ext = none := by
                  cases hw : ora.weak
                  · rw [hw] at h
                    simp only [cond_false] at h
                    cases hc : ((vToks st.tb (args.toList.map (ev st))).isEmpty || out.res.all DU.flat)
                    · rw [hc] at h; cases h
                    · rw [hc] at h
                      simp only [cond_true] at h
                      split at h
                      · exact (inj h).2.symm
                      · cases h
                  · rw [hw] at h
                    exact (inj h).2.symm
                subst this
                exact hn
            · cases h
          · cases h
      · cases h
    · cases h
  · rename_i b args tys ho
    split at h
    · rename_i x hx
      have hmap : ∃ y, args.toList = [y] ∧ ev st y = x := by
        cases hl : args.toList with
        | nil => rw [hl] at hx; cases hx
        | cons y l => cases l with
          | nil => rw [hl] at hx; injection hx with hx; exact ⟨y, rfl, hx⟩
          | cons => rw [hl] at hx; simp at hx
      obtain ⟨y, hy, rfl⟩ := hmap
      cases hb : tys.size == 0
      · rw [hb] at h
        simp only [cond_false] at h
        have h0 : 0 < tys.size := by have : tys.size ≠ 0 := by simpa using hb
                                     omega
        split at h
        · rename_i h1 h2; obtain ⟨rfl, rfl⟩ := inj h; exact s_len (t := 0) hR hT ho hy h1 h2 h0 hn
        · rename_i h1 h2 h3; obtain ⟨rfl, rfl⟩ := inj h; exact s_lenStr (t := 0) hR hT ho hy h1 h3 h0 hn
        · cases h
      · rw [hb] at h; cases h
    · rename_i k p k' q hx
      obtain ⟨y, z, hy, h1, h2⟩ : ∃ y z, args.toList = [y, z] ∧ ev st y = .u (.x (.int k p)) ∧ ev st z = .u (.x (.int k' q)) := by
        cases hl : args.toList with
        | nil => rw [hl] at hx; cases hx
        | cons y l => cases l with
          | nil => rw [hl] at hx; simp at hx
          | cons z l => cases l with
            | nil => rw [hl] at hx; simp at hx; exact ⟨y, z, rfl, hx.1, hx.2⟩
            | cons => rw [hl] at hx; simp at hx
      obtain ⟨rfl, rfl⟩ := inj h
      exact s_min hR ho hy h1 h2 hn
    · rename_i k p k' q hx
      obtain ⟨y, z, hy, h1, h2⟩ : ∃ y z, args.toList = [y, z] ∧ ev st y = .u (.x (.int k p)) ∧ ev st z = .u (.x (.int k' q)) := by
        cases hl : args.toList with
        | nil => rw [hl] at hx; cases hx
        | cons y l => cases l with
          | nil => rw [hl] at hx; simp at hx
          | cons z l => cases l with
            | nil => rw [hl] at hx; simp at hx; exact ⟨y, z, rfl, hx.1, hx.2⟩
            | cons => rw [hl] at hx; simp at hx
      obtain ⟨rfl, rfl⟩ := inj h
      exact s_max hR ho hy h1 h2 hn
    · cases h
  · cases h
end
end Go.BV

