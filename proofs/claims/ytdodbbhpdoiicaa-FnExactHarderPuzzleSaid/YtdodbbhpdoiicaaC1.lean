/-
  An evaluator of the model's code that tells values by what they hold, and the proof that what it answers is what the machine does (part 1).
-/
import Derived.Orders
import Derived.Laws.World
import Derived.Laws.AppendOwn
import Derived.Laws.Sem
import Derived.Laws.Cells
import Derived.Laws.Append
import Derived.Laws.CopyRow
import Derived.Laws.Tables
import Derived.Laws.Entries
import Derived.Laws.Strings
import Derived.Laws.BytesArg
import Derived.Laws.MakeOwn
import Derived.LoopN
import Derived.ProofKit
import Derived.Sort.Grow
set_option linter.unusedVariables false
set_option linter.unusedSimpArgs false
/-
  A by-value evaluator for the model's code. Slices, structs and pointers are told by what they hold; names (tokens) say who may write.
  This text: the evaluator. Its soundness: the texts behind it.
-/
namespace Go.BV

/-- What a slice holds. 'orows': each row is the slice's own; 'hrows': each but one. -/
inductive C where
  | ints (k : IntKind) (xs : List Int)
  | bools (xs : List Bool)
  | strs (xs : List ByteArray)
  | rows (xs : List (List Int))
  | orows (xs : List (List Int))
  | hrows (xs : List (List Int)) (i : Nat)

/-- One cell, told to the bottom; nobody writes what it leads to. -/
inductive S0 where
  | int (k : IntKind) (n : Int)
  | bool (b : Bool)
  | str (s : ByteArray)
  | sl (c : C)

/-- One cell of what is handed over. 'rs': a slice that is read; 'rp': a pointer to a struct that is read, or (false) to nothing; 'fnv': a function, what is bound to it, and at which places the pointers to its variables are handed over. -/
inductive S where
  | int (k : IntKind) (n : Int)
  | bool (b : Bool)
  | str (s : ByteArray)
  | sl (c : C)
  | rs (c : C)
  | rp (b : Bool) (cs : List S0)
  | nilp
  | fnv (f : FuncId) (first : List (Bool × List S0)) (ps : List Nat)

/-- One cell of the running function. 'bw': a row of a slice of its own; 'sus': a slice that was appended to, while what came of that is in use. -/
inductive X where
  | int (k : IntKind) (n : Int)
  | bool (b : Bool)
  | str (s : ByteArray)
  | nil (c : C)
  | ro (c : C)
  | own (n : Nat) (c : C)
  | bw (n : Nat) (c : C) (i : Nat)
  | sus (n m : Nat) (c : C)
  | el (n : Nat) (c : C) (i : Nat)
  | roel (c : C) (i : Nat)
  | ptr (n off : Nat)
  | rop (b : Bool) (cs : List S0) (off : Nat)
  | fn (f : FuncId) (first : List (Bool × List S0)) (caps : List Nat)
  | nilp
  | undef

inductive U where
  | x (x : X)
  | agg (xs : List X)

inductive V where
  | u (u : U)
  | tup (us : List U)

namespace C
def len : C → Nat
  | ints _ xs => xs.length
  | bools xs => xs.length
  | strs xs => xs.length
  | rows xs => xs.length
  | orows xs => xs.length
  | hrows xs _ => xs.length
def get : C → Nat → S0
  | ints k xs, i => .int k (xs.getD i 0)
  | bools xs, i => .bool (xs.getD i false)
  | strs xs, i => .str (xs.getD i .empty)
  | rows xs, i => .sl (.ints .i64 (xs.getD i []))
  | orows xs, i => .sl (.ints .i64 (xs.getD i []))
  | hrows xs _, i => .sl (.ints .i64 (xs.getD i []))
def set : C → Nat → S0 → Option C
  | ints k xs, i, .int k' n => if k = k' then some (ints k (xs.set i n)) else none
  | bools xs, i, .bool b => some (bools (xs.set i b))
  | strs xs, i, .str s => some (strs (xs.set i s))
  | rows xs, i, .sl (.ints .i64 ys) => some (rows (xs.set i ys))
  | _, _, _ => none
def app : C → C → Option C
  | ints k xs, ints k' ys => if k = k' then some (ints k (xs ++ ys)) else none
  | bools xs, bools ys => some (bools (xs ++ ys))
  | strs xs, strs ys => some (strs (xs ++ ys))
  | rows xs, rows ys => some (rows (xs ++ ys))
  | _, _ => none
def take : C → Nat → C
  | ints k xs, n => ints k (xs.take n)
  | bools xs, n => bools (xs.take n)
  | strs xs, n => strs (xs.take n)
  | rows xs, n => rows (xs.take n)
  | orows xs, n => orows (xs.take n)
  | hrows xs i, n => hrows (xs.take n) i
def drop : C → Nat → C
  | ints k xs, n => ints k (xs.drop n)
  | bools xs, n => bools (xs.drop n)
  | strs xs, n => strs (xs.drop n)
  | rows xs, n => rows (xs.drop n)
  | orows xs, n => orows (xs.drop n)
  | hrows xs i, n => hrows (xs.drop n) i
/-- n zeros of the kind. -/
def zeros : C → Nat → C
  | ints k _, n => ints k (List.replicate n 0)
  | bools _, n => bools (List.replicate n false)
  | strs _, n => strs (List.replicate n .empty)
  | rows _, n => rows (List.replicate n [])
  | orows _, n => orows (List.replicate n [])
  | hrows _ _, n => orows (List.replicate n [])
/-- The rows are not its own. -/
def plain : C → Bool
  | orows _ => false
  | hrows _ _ => false
  | _ => true
def whole : C → Bool
  | hrows _ _ => false
  | _ => true
/-- As it reads. -/
def rd : C → C
  | orows xs => rows xs
  | c => c
end C

/-- What leads to nothing that somebody else may hold. -/
def C.flat : C → Bool
  | .rows _ => false
  | .hrows _ _ => false
  | _ => true
def S.flat : S → Bool
  | .sl c => c.flat
  | .rs _ => false
  | .rp _ _ => false
  | .fnv _ _ _ => false
  | _ => true
def S0.toS : S0 → S
  | .int k n => .int k n
  | .bool b => .bool b
  | .str s => .str s
  | .sl c => .sl c
def S0.toX : S0 → X
  | .int k n => .int k n
  | .bool b => .bool b
  | .str s => .str s
  | .sl c => .ro c
/-- Names of a parameter's variable. -/
def refN (p : Nat) : Nat := 64 * p + 63
def S.toX : S → X
  | .int k n => .int k n
  | .bool b => .bool b
  | .str s => .str s
  | .sl c => .ro c
  | .rs c => .ro c
  | .rp b cs => .rop b cs 0
  | .nilp => .nilp
  | .fnv f first ps => .fn f first (ps.map refN)
def X.toS0 : X → Option S0
  | .int k n => some (.int k n)
  | .bool b => some (.bool b)
  | .str s => some (.str s)
  | .nil c => bif c.whole then some (.sl c.rd) else none
  | .ro c => some (.sl c)
  | .own _ c => bif c.whole then some (.sl c.rd) else none
  | .bw _ c _ => some (.sl c)
  | _ => none
def toS0s : List X → Option (List S0)
  | [] => some []
  | x :: xs => match x.toS0 with
    | some s => match toS0s xs with
      | some ss => some (s :: ss)
      | none => none
    | none => none
/-- At which places are these names? -/
def poss (pos : Nat → Option Nat) : List Nat → Option (List Nat)
  | [] => some []
  | n :: ns => match pos n with
    | some p => (match poss pos ns with
      | some ps => some (p :: ps)
      | none => none)
    | none => none
/-- A cell as it is read; as it is handed over to be written. -/
def X.toS (pos : Nat → Option Nat) : X → Option S
  | .rop b cs o => bif o == 0 then some (.rp b cs) else none
  | .nilp => some .nilp
  | .fn f first caps => (match poss pos caps with
    | some ps => some (.fnv f first ps)
    | none => none)
  | x => (match x.toS0 with
    | some s => some s.toS
    | none => none)
def X.toM (pos : Nat → Option Nat) : X → Option S
  | .nil c => some (.sl c)
  | .own _ c => some (.sl c)
  | .bw _ c _ => some (.sl c)
  | .ro c => some (.rs c)
  | x => x.toS pos
def toSs (pos : Nat → Option Nat) : List X → Option (List S)
  | [] => some []
  | x :: xs => match x.toS pos with
    | some s => match toSs pos xs with
      | some ss => some (s :: ss)
      | none => none
    | none => none
def toMs (pos : Nat → Option Nat) : List X → Option (List S)
  | [] => some []
  | x :: xs => match x.toM pos with
    | some s => match toMs pos xs with
      | some ss => some (s :: ss)
      | none => none
    | none => none

/-- The names that a cell's slice bears. -/
def X.toks : X → List Nat
  | .own n _ => [n]
  | .bw n _ _ => [n]
  | _ => []
def toks : List X → List Nat
  | [] => []
  | x :: xs => x.toks ++ toks xs
/-- May a cell lie in a variable? -/
def X.cellOk : X → Bool
  | .undef => false
  | .sus _ _ _ => false
  | _ => true

/-! Substitutions: a name's slice holds something else; it is written no more; a row is taken out of it. -/
inductive Sb where
  | setc (c : C)
  | ro
  | hole (i : Nat)
  | row (i : Nat) (ys : List Int)
/-- A row is taken out; a row is another. -/
def C.out : C → Nat → C
  | .orows xs, i => .hrows xs i
  | c, _ => c
def C.setRow : C → Nat → List Int → C
  | .orows xs, i, ys => .orows (xs.set i ys)
  | c, _, _ => c
def X.sub (n : Nat) (a : Sb) : X → X
  | .own m c => bif m == n then (match a with | .setc c' => .own m c' | .ro => bif c.whole then .ro c.rd else .undef | .hole j => .own m (c.out j) | .row j ys => .own m (c.setRow j ys)) else .own m c
  | .el m c i => bif m == n then (match a with | .setc c' => .el m c' i | .ro => bif c.whole then .roel c.rd i else .undef | .hole j => .el m (c.out j) i | .row j ys => .el m (c.setRow j ys) i) else .el m c i
  | .bw m c i => bif m == n then (match a with | .ro => .ro c | _ => .undef) else .bw m c i
  | .sus k m c => bif k == n || m == n then .undef else .sus k m c
  | x => x
def X.clr (p : Nat → Bool) : X → X
  | .own m c => bif p m then .undef else .own m c
  | .el m c i => bif p m then .undef else .el m c i
  | .bw m c i => bif p m then .undef else .bw m c i
  | .sus k m c => bif p k || p m then .undef else .sus k m c
  | .ptr m o => bif p m then .undef else .ptr m o
  | .fn f first caps => bif caps.any p then .undef else .fn f first caps
  | x => x
/-- Names of slices are dropped. -/
def X.drop (p : Nat → Bool) : X → X
  | .own m c => bif p m then .undef else .own m c
  | .el m c i => bif p m then .undef else .el m c i
  | .bw m c i => bif p m then .undef else .bw m c i
  | .sus k m c => bif p k || p m then .undef else .sus k m c
  | x => x
/-- The slice n is appended to: it waits for m; and back. -/
def X.fork (n m : Nat) : X → X
  | .own k c => bif k == n then .sus n m c else .own k c
  | .el k c i => bif k == n then .undef else .el k c i
  | .bw k c i => bif k == n then .undef else .bw k c i
  | .sus k j c => bif k == n || j == n then .undef else .sus k j c
  | x => x
def X.back (n : Nat) : X → X
  | .sus k m c => bif k == n then .own n c else .sus k m c
  | x => x
def U.mp (f : X → X) : U → U
  | .x y => .x (f y)
  | .agg xs => .agg (xs.map f)
def V.mp (f : X → X) : V → V
  | .u y => .u (y.mp f)
  | .tup us => .tup (us.map (U.mp f))

/-- 'mus': what the slices hold that were handed in to be written; 'sus': slices that wait: for which one, what they hold, and whether 'mus' told of them. -/
structure St where
  tmps : List V
  tabs : List (Nat × List X)
  mus : List (Nat × C)
  sus : List (Nat × Nat × C × Bool)

def lk {α : Type _} : List (Nat × α) → Nat → Option α
  | [], _ => none
  | (m, a) :: l, n => bif m == n then some a else lk l n
def setl {α : Type} : List (Nat × α) → Nat → α → List (Nat × α)
  | [], _, _ => []
  | (m, a) :: l, n, b => bif m == n then (m, b) :: l else (m, a) :: setl l n b

/-- A new table, in the order of the names. -/
def insl {α : Type} : List (Nat × α) → Nat → α → List (Nat × α)
  | [], n, b => [(n, b)]
  | (m, a) :: l, n, b => bif Nat.blt n m then (n, b) :: (m, a) :: l else (m, a) :: insl l n b

namespace St
def mp (f : X → X) (st : St) : St := { st with tmps := st.tmps.map (V.mp f), tabs := st.tabs.map fun (n, cs) => (n, cs.map f) }
def sub (st : St) (n : Nat) (a : Sb) : St :=
  { st.mp (X.sub n a) with mus := (match a with | .setc c => setl st.mus n c | .row i ys => st.mus.map fun (m, c) => (m, bif m == n then c.setRow i ys else c) | .hole i => st.mus.map fun (m, c) => (m, bif m == n then c.out i else c) | .ro => st.mus.filter fun (m, _) => !(m == n)), sus := st.sus.filter fun (k, m, _) => !(k == n || m == n) }
def clr (st : St) (p : Nat → Bool) : St :=
  { tmps := st.tmps.map (V.mp (X.clr p)), tabs := (st.tabs.filter fun (n, _) => !p n).map fun (n, cs) => (n, cs.map (X.clr p)), mus := st.mus.filter fun (m, _) => !p m, sus := st.sus.filter fun (n, m, _) => !(p n || p m) }
def drop (st : St) (p : Nat → Bool) : St :=
  { st.mp (X.drop p) with mus := st.mus.filter fun (m, _) => !p m, sus := st.sus.filter fun (n, m, _) => !(p n || p m) }
def put (st : St) (dst : Option Tmp) (v : V) : St := match dst with
  | some d => { st with tmps := st.tmps.set d v }
  | none => st
def get (st : St) (t : Tmp) : V := st.tmps.getD t (.u (.x .undef))
/-- The slice n waits for m. -/
def fork (st : St) (n m : Nat) (c : C) : St :=
  { st.mp (X.fork n m) with mus := st.mus.filter fun (k, _) => !(k == n), sus := insl (st.sus.filter fun (k, j, _) => !(k == n || j == n)) n (m, c, (lk st.mus n).isSome) }
/-- The slice n waits no more. -/
def back (st : St) (n : Nat) : St := match lk st.sus n with
  | some (m, c, b) => ({ st.mp (X.back n) with mus := bif b then insl st.mus n c else st.mus, sus := st.sus.filter fun (k, _) => !(k == n) } : St).clr fun k => k == m
  | none => st
end St

/-! Types -/
inductive TU where
  | int (k : IntKind)
  | bool
  | str
  | slice (e : C)
  | struct (fs : List (Nat × Nat × Bool))
  | one
  | other
structure TI where
  u : TU
  size : Nat
  zero : List X

/-! Functions that are called -/
inductive Md where
  | val
  | wr
  | ext
  | ref
inductive DU where
  | x (s : S)
  | agg (cs : List S)
  | ptr (cs : List S)
def DU.flat : DU → Bool
  | .x s => s.flat
  | .agg cs => cs.all S.flat
  | .ptr cs => cs.all S.flat
structure Out where
  res : List DU
  upd : List DU
/-- 'md': how the values are handed over, at the end the variables of functions that are handed over; 'na': how many values there are; 'weak': the results may lead to what was handed over. -/
structure Ora where
  md : List Md
  na : Nat
  weak : Bool
  G : {ρ : Type} → List DU → (Out → Option ρ) → Option ρ
/-- The functions that are called; at which places a slice that is appended to is kept. -/
structure Env where
  fn : FuncId → Option Ora
  fk : Nat → Bool

/-- The first name of an operation's own; names from 'high' on lie in memory that was handed in. -/
def high : Nat := 16777216
def nm (site j : Nat) : Nat := 4096 + 16 * site + j
def isLow (n : Nat) : Bool := Nat.blt n 4096 || !(Nat.blt n high)
def ofRegion (rid : Nat) (n : Nat) : Bool := Nat.ble (4096 + 16 * (64 * rid)) (n % high) && Nat.blt (n % high) (4096 + 16 * (64 * rid + 64))

section
variable {ρ : Type} (T : TypeId → TI) (O : Env)

def ofConst : Value → V
  | .int k n => .u (.x (.int k n))
  | .bool b => .u (.x (.bool b))
  | .string s => .u (.x (.str s))
  | .slice none 0 0 => .u (.x (.nil (.ints .i64 [])))
  | .pointer none => .u (.x .nilp)
  | _ => .u (.x .undef)
def ev (st : St) : Operand → V
  | .tmp t => st.get t
  | .const v => ofConst v
  | .func f => .u (.x (.fn f [] []))
  | .global _ => .u (.x .undef)

def sameOp : Operand → Operand → Bool
  | .tmp a, .tmp b => a == b
  | .const (.int _ a), .const (.int _ b) => a == b
  | _, _ => false

/-- n cells from a place on. -/
def cut {α : Type} (xs : List α) (off n : Nat) : Option (List α) := bif Nat.ble (off + n) xs.length then some ((xs.drop off).take n) else none
def U.ofCells (isAgg : Bool) (xs : List X) : Option U := match isAgg, xs with
  | true, xs => some (.agg xs)
  | false, [y] => some (.x y)
  | false, _ => none
def TU.isAgg : TU → Bool
  | .struct _ => true
  | _ => false
def U.cells : U → List X
  | .x y => [y]
  | .agg xs => xs
/-- The cells from a place on are others. -/
def splice (xs ys : List X) (off : Nat) : Option (List X) := bif Nat.ble (off + ys.length) xs.length then some (xs.take off ++ ys ++ xs.drop (off + ys.length)) else none

def intOp (op : BinOp) (k : IntKind) (a b : Int) (K : X → Option ρ) : Option ρ :=
  match op with
  | .add => K (.int k (k.wrap (a + b)))
  | .sub => K (.int k (k.wrap (a - b)))
  | .mul => K (.int k (k.wrap (a * b)))
  | .quo => if b = 0 then none else K (.int k (k.wrap (a.tdiv b)))
  | .rem => if b = 0 then none else K (.int k (a.tmod b))
  | .and => K (.int k (k.wrap (BitVec.ofInt k.bits a &&& BitVec.ofInt k.bits b).toNat))
  | .or => K (.int k (k.wrap (BitVec.ofInt k.bits a ||| BitVec.ofInt k.bits b).toNat))
  | .xor => K (.int k (k.wrap (BitVec.ofInt k.bits a ^^^ BitVec.ofInt k.bits b).toNat))
  | .eql => K (.bool (decide (a = b)))
  | .neq => K (.bool (!decide (a = b)))
  | .lss => K (.bool (decide (a < b)))
  | .leq => K (.bool (decide (a ≤ b)))
  | .gtr => K (.bool (decide (a > b)))
  | .geq => K (.bool (decide (a ≥ b)))
  | _ => none
def shOp (op : BinOp) (k : IntKind) (a b : Int) (K : X → Option ρ) : Option ρ :=
  match op with
  | .shl => if b < 0 then none else K (.int k (k.wrap (a * 2 ^ (min b.toNat k.bits))))
  | .shr => if b < 0 then none else K (.int k (a.fdiv (2 ^ (min b.toNat k.bits))))
  | _ => none
def strOp (op : BinOp) (a b : ByteArray) (K : X → Option ρ) : Option ρ :=
  match op with
  | .add => if a.size + b.size ≤ 1099511627776 then K (.str (a ++ b)) else none
  | .eql => K (.bool (decide (a = b)))
  | .neq => K (.bool (!decide (a = b)))
  | _ => none
def eqCells : List X → List X → Option Bool
  | [], [] => some true
  | .int k a :: xs, .int k' b :: ys => if k = k' then (eqCells xs ys).map fun r => decide (a = b) && r else none
  | _, _ => none
def isSh : BinOp → Bool
  | .shl => true
  | .shr => true
  | _ => false
def binV (u : TU) (op : BinOp) (x y : V) (K : X → Option ρ) : Option ρ :=
  match x, y with
  | .u (.x (.int k a)), .u (.x (.int k' b)) => bif isSh op then shOp op k a b K else (if k = k' then intOp op k a b K else none)
  | .u (.x (.bool a)), .u (.x (.bool b)) => (match u, op with
    | .bool, .eql => K (.bool (a == b))
    | .bool, .neq => K (.bool (!(a == b)))
    | _, _ => none)
  | .u (.x (.str a)), .u (.x (.str b)) => strOp op a b K
  | _, _ => none
def unV (op : UnOp) (x : V) (K : X → Option ρ) : Option ρ :=
  match op, x with
  | .not, .u (.x (.bool b)) => K (.bool (!b))
  | .neg, .u (.x (.int k n)) => K (.int k (k.wrap (0 - n)))
  | _, _ => none

def asSlice : V → Option C
  | .u (.x (.ro c)) => some c
  | .u (.x (.nil c)) => bif c.whole then some c.rd else none
  | .u (.x (.own _ c)) => bif c.whole then some c.rd else none
  | .u (.x (.bw _ c _)) => some c
  | _ => none

/-- A slice whose cells are appended. -/
def asSliceA : V → Option C
  | .u (.x (.ro c)) => some c
  | .u (.x (.nil c)) => bif c.whole then some c.rd else none
  | .u (.x (.own _ c)) => bif c.plain then some c else none
  | .u (.x (.bw _ c _)) => some c
  | _ => none

/-- The parts of a literal of a struct, laid over its zero. -/
def buildC : List (Nat × Nat × Bool) → List X → List (Nat × V) → Option (List X)
  | _, cs, [] => some cs
  | fs, cs, (i, .u u) :: r => match fs[i]? with
    | some (off, size, _) => bif u.cells.length == size && u.cells.all X.cellOk then (match splice cs u.cells off with | some cs' => buildC fs cs' r | none => none) else none
    | none => none
  | _, _, _ => none
def buildL : C → List (Nat × V) → Option C
  | c, [] => some c
  | c, (i, .u (.x x)) :: r => bif x.toks.isEmpty then (match x.toS0 with
      | some s => bif Nat.blt i c.len then (match c.set i s with | some c' => buildL c' r | none => none) else none
      | none => none) else none
  | _, _ => none
/-- A literal whose rows are slices of one's own: their names, and the rows. -/
def buildO : List (List Int) → List Nat → List (Nat × V) → Option (List (List Int) × List Nat)
  | xs, ns, [] => some (xs, ns)
  | xs, ns, (i, .u (.x (.own m (.ints .i64 ys)))) :: r => bif i == xs.length && !(ns.contains m) && !isLow m then buildO (xs ++ [ys]) (ns ++ [m]) r else none
  | _, _, _ => none

def bound (lo hi : Option V) (n : Nat) (K : Nat → Nat → Option ρ) : Option ρ :=
  match lo, hi with
  | none, none => K 0 n
  | some (.u (.x (.int _ l))), none => if 0 ≤ l then if l ≤ (n : Int) then K l.toNat n else none else none
  | none, some (.u (.x (.int _ h))) => if 0 ≤ h then if h ≤ (n : Int) then K 0 h.toNat else none else none
  | some (.u (.x (.int _ l))), some (.u (.x (.int _ h))) => if 0 ≤ l then if l ≤ h then if h ≤ (n : Int) then K l.toNat h.toNat else none else none else none
  | _, _ => none

/-! Calls -/
/-- At which place is a variable handed over? -/
def posOf : Nat → List V → Nat → Option Nat
  | _, [], _ => none
  | i, .u (.x (.ptr m 0)) :: vs, n => bif m == n then some i else posOf (i + 1) vs n
  | i, _ :: vs, n => posOf (i + 1) vs n
/-- Which variable is handed over at a place? -/
def nameAt (vs : List V) (p : Nat) : Option Nat := match vs[p]? with
  | some (.u (.x (.ptr n 0))) => some n
  | _ => none
def toDU (tb : Nat → Option (List X)) (pos : Nat → Option Nat) : Md → U → Option DU
  | .val, .x (.ptr n o) => bif o == 0 then (match tb n with | some xs => (match toS0s xs with | some ss => some (.x (.rp true ss)) | none => none) | none => none) else none
  | .val, .x x => (match x.toS pos with | some s => some (.x s) | none => none)
  | .val, .agg xs => (match toSs pos xs with | some ss => some (.agg ss) | none => none)
  | .ref, .x (.ptr n o) => bif o == 0 then (match tb n with | some xs => (match toMs pos xs with | some ss => some (.ptr ss) | none => none) | none => none) else none
  | .ref, _ => none
  | _, .x x => (match x.toM pos with | some s => some (.x s) | none => none)
  | _, .agg xs => (match toMs pos xs with | some ss => some (.agg ss) | none => none)
def toDUs (tb : Nat → Option (List X)) (pos : Nat → Option Nat) : List Md → List V → Option (List DU)
  | [], [] => some []
  | m :: ms, .u u :: vs => (match toDU tb pos m u with
    | some d => (match toDUs tb pos ms vs with
      | some ds => some (d :: ds)
      | none => none)
    | none => none)
  | _, _ => none
/-- The names that a value bears. -/
def uToks (tb : Nat → Option (List X)) : U → List Nat
  | .x (.ptr n _) => n :: (match tb n with | some xs => toks xs | none => [])
  | .x x => x.toks
  | .agg xs => toks xs
def vToks (tb : Nat → Option (List X)) : List V → List Nat
  | [] => []
  | .u u :: vs => uToks tb u ++ vToks tb vs
  | _ :: vs => vToks tb vs
def capsOf : List V → Option (List Nat)
  | [] => some []
  | .u (.x (.ptr n 0)) :: vs => (match capsOf vs with
    | some ns => some (n :: ns)
    | none => none)
  | _ => none
/-- What is bound to a function. -/
def firstOf : List V → Option (List (Bool × List S0))
  | [] => some []
  | .u u :: vs => bif (toks u.cells).isEmpty then (match toS0s u.cells with
    | some ss => (match firstOf vs with
      | some r => some ((match u with | .x _ => (false, ss) | .agg _ => (true, ss)) :: r)
      | none => none)
    | none => none) else none
  | _ => none
def firstV : Bool × List S0 → V
  | (true, ss) => .u (.agg (ss.map S0.toX))
  | (false, [s]) => .u (.x s.toX)
  | (false, _) => .u (.x .undef)
def isPtr : V → Bool
  | .u (.x (.ptr _ _)) => true
  | _ => false
def mutOk : X → Bool
  | .own _ c => c.whole
  | .int _ _ => true
  | .bool _ => true
  | .str _ => true
  | .nil c => c.whole
  | .ro _ => true
  | .rop _ _ o => o == 0
  | .nilp => true
  | .fn _ _ _ => true
  | _ => false
def Md.isVal : Md → Bool
  | .val => true
  | _ => false
def Md.isVW : Md → Bool
  | .val => true
  | .wr => true
  | _ => false
def modesOk (tb : Nat → Option (List X)) : List Md → List V → Bool
  | [], [] => true
  | m :: ms, v :: vs => (match m, v with
    | .val, _ => true
    | .ref, .u (.x (.ptr n _)) => (match tb n with
      | some xs => xs.all mutOk
      | none => false)
    | .ref, _ => false
    | .ext, .u u => u.cells.all fun x => mutOk x && (match x with | .own _ c => c.plain && c.flat | _ => true)
    | _, .u u => u.cells.all mutOk
    | _, _ => false) && modesOk tb ms vs
  | _, _ => false
def part (b : Bool) : List Md → List V → List V
  | m :: ms, v :: vs => bif m.isVal == b then v :: part b ms vs else part b ms vs
  | _, _ => []
def nodupB : List Nat → Bool
  | [] => true
  | n :: l => !(l.contains n) && nodupB l
def disjB (a b : List Nat) : Bool := a.all fun n => !(b.contains n)

/-- Variables of functions that are handed over, and of those that these lead to. -/
def fnCaps : X → List Nat
  | .fn _ _ caps => caps
  | _ => []
def reach (tb : Nat → Option (List X)) : Nat → List Nat → List Nat → List Nat
  | 0, _, acc => acc
  | _ + 1, [], acc => acc
  | k + 1, n :: todo, acc => bif acc.contains n then reach tb k todo acc else reach tb k ((match tb n with | some xs => xs.flatMap fnCaps | none => []) ++ todo) (acc ++ [n])
def seeds (tb : Nat → Option (List X)) : List V → List Nat
  | [] => []
  | .u (.x (.ptr n _)) :: vs => (match tb n with | some xs => xs.flatMap fnCaps | none => []) ++ seeds tb vs
  | .u u :: vs => u.cells.flatMap fnCaps ++ seeds tb vs
  | _ :: vs => seeds tb vs
def ptrsOf : List V → List Nat
  | [] => []
  | .u (.x (.ptr n 0)) :: vs => n :: ptrsOf vs
  | _ :: vs => ptrsOf vs
def hidden (tb : Nat → Option (List X)) (vs : List V) : List Nat := (reach tb 64 (seeds tb vs) []).filter fun n => !((ptrsOf vs).contains n)
def ptrV (n : Nat) : V := .u (.x (.ptr n 0))
/-- All that a call hands over: what is bound, the values, the variables of the function, those of functions among the values. -/
def handed (tb : Nat → Option (List X)) (first : List (Bool × List S0)) (vs : List V) (caps : List Nat) : List V :=
  let l := first.map firstV ++ vs ++ caps.map ptrV
  l ++ (hidden tb l).map ptrV

/-- A result's cells, new names for its slices. -/
def S.toXn (nam : Nat → Option Nat) : S → X
  | .fnv f first ps => (match poss nam ps with
    | some ns => .fn f first ns
    | none => .undef)
  | s => s.toX
def nameS (nms : Nat → Nat) (nam : Nat → Option Nat) : Nat → S → X × Nat
  | j, .sl c => (.own (nms j) c, j + 1)
  | j, s => (s.toXn nam, j)
def nameSs (nms : Nat → Nat) (nam : Nat → Option Nat) : Nat → List S → List X × Nat
  | j, [] => ([], j)
  | j, s :: ss => ((nameS nms nam j s).1 :: (nameSs nms nam (nameS nms nam j s).2 ss).1, (nameSs nms nam (nameS nms nam j s).2 ss).2)
def nameD (nms : Nat → Nat) : Nat → DU → Option (U × Nat)
  | j, .x s => some (.x (nameS nms (fun _ => none) j s).1, (nameS nms (fun _ => none) j s).2)
  | j, .agg cs => some (.agg (nameSs nms (fun _ => none) j cs).1, (nameSs nms (fun _ => none) j cs).2)
  | _, .ptr _ => none
def nameDs (nms : Nat → Nat) : Nat → List DU → Option (List U)
  | j, [] => bif Nat.ble j 8 then some [] else none
  | j, d :: ds => match nameD nms j d with
    | some (u, j1) => (match nameDs nms j1 ds with
      | some us => some (u :: us)
      | none => none)
    | none => none
def resV : List U → V
  | [u] => .u u
  | us => .tup us

def setMut : St → List X → List S → Option St
  | st, [], [] => some st
  | st, .own n _ :: xs, .sl c' :: ss => setMut (st.sub n (.setc c')) xs ss
  | st, .own _ _ :: _, _ :: _ => none
  | st, _ :: xs, _ :: ss => setMut st xs ss
  | _, _, _ => none
def St.tb (st : St) (n : Nat) : Option (List X) := lk st.tabs n
/-- What the call left in what was handed to it to be written. -/
def update (tb : Nat → Option (List X)) (nms : Nat → Nat) (nam : Nat → Option Nat) : Nat → St → List Md → List V → List DU → Option St
  | j, st, [], [], [] => bif Nat.ble j 8 then some st else none
  | j, st, .val :: ms, _ :: vs, ds => update tb nms nam j st ms vs ds
  | j, st, .ext :: ms, _ :: vs, ds => update tb nms nam j st ms vs ds
  | j, st, .wr :: ms, .u (.x x) :: vs, .x s :: ds => (match setMut st [x] [s] with | some st' => update tb nms nam j st' ms vs ds | none => none)
  | j, st, .wr :: ms, .u (.agg xs) :: vs, .agg cs :: ds => (match setMut st xs cs with | some st' => update tb nms nam j st' ms vs ds | none => none)
  | j, st, .ref :: ms, .u (.x (.ptr n _)) :: vs, .ptr cs :: ds =>
    let st1 := st.drop fun m => (match tb n with | some xs => toks xs | none => []).contains m
    update tb nms nam (nameSs nms nam j cs).2 { st1 with tabs := setl st1.tabs n (nameSs nms nam j cs).1 } ms vs ds
  | _, _, _, _, _ => none
def subs (a : Sb) : St → List Nat → St
  | st, [] => st
  | st, n :: l => subs a (st.sub n a) l

def callF (o : Ora) (site : Nat) (dst : Option Tmp) (na : Nat) (vs : List V) (st : St) (K : St → Option ρ) : Option ρ :=
  let mt := vToks st.tb (part false o.md vs)
  let vals := vToks st.tb (part true o.md vs)
  bif o.na == na && (ptrsOf vs).all (fun n => (st.tb n).isSome) && modesOk st.tb o.md vs && nodupB mt && disjB mt vals && (mt.all isLow || mt.all fun n => !isLow n) then
    (match toDUs st.tb (posOf 0 vs) o.md vs with
    | some ds => o.G ds fun out =>
        let ab := o.weak || !(out.res.all DU.flat && out.upd.all DU.flat)
        bif ab && (vals.any isLow || (part true o.md vs).any isPtr) then none else
        (match update st.tb (fun j => nm site j + bif mt.any isLow then high else 0) (nameAt vs) 0 (bif ab then subs .ro st vals else st) o.md vs out.upd with
        | some st2 => (match nameDs (fun j => nm site (8 + j)) 0 out.res with
          | some us => K (st2.put dst (resV us))
          | none => none)
        | none => none)
    | none => none)
  else none
/-- A call that writes into a row. -/
def callB (o : Ora) (site : Nat) (dst : Option Tmp) (na : Nat) (vs : List V) (n i : Nat) (st : St) (K : St → Option ρ) : Option ρ :=
  bif o.na == na && (ptrsOf vs).isEmpty && o.md.all Md.isVW && disjB [n] (vToks st.tb (part true o.md vs)) && !o.weak then
    (match toDUs st.tb (posOf 0 vs) o.md vs with
    | some ds => o.G ds fun out => (match out.upd with
        | [.x (.sl (.ints .i64 ys))] => bif out.res.all DU.flat then (match nameDs (fun j => nm site (8 + j)) 0 out.res with
          | some us => K ((st.sub n (.row i ys)).put dst (resV us))
          | none => none) else none
        | _ => none)
    | none => none)
  else none
def callW (o : Ora) (site : Nat) (dst : Option Tmp) (na : Nat) (vs : List V) (st : St) (K : St → Option ρ) : Option ρ :=
  match part false o.md vs with
  | [.u (.x (.bw n _ i))] => callB o site dst na vs n i st K
  | _ => callF o site dst na vs st K

def isTok (n : Nat) : V → Bool
  | .u (.x (.own m _)) => m == n
  | .u (.x (.bw m _ _)) => m == n
  | _ => false
def upName (site n : Nat) : Nat := bif isLow n then nm site 0 + high else nm site 0
def appendP (site : Nat) (dst : Option Tmp) (st : St) (x y : V) (K : St → Option ρ) : Option ρ :=
  match x, asSliceA y with
  | .u (.x (.nil c)), some d => (match c.rd.app d with
    | some e => if e.len ≤ 1099511627776 then K ((st.drop fun m => m == nm site 0).put dst (.u (.x (.own (nm site 0) e)))) else none
    | none => none)
  | .u (.x (.own n c)), some d =>
    bif isTok n y then none else
    (match c.app d with
    | some e => if e.len ≤ 1099511627776 then
        bif O.fk site then
          bif n == upName site n || !c.flat then none
          else K (((st.drop fun m => m == upName site n).fork n (upName site n) c).put dst (.u (.x (.own (upName site n) e))))
        else K ((st.drop fun m => m == n || m == upName site n).put dst (.u (.x (.own (upName site n) e))))
      else none
    | none => none)
  | .u (.x (.bw n c i)), some d =>
    bif isTok n y then none else
    (match c.app d with
    | some e => if e.len ≤ 1099511627776 then K (((st.sub n (.hole i)).drop fun m => m == upName site n).put dst (.u (.x (.own (upName site n) e)))) else none
    | none => none)
  | _, _ => none
def appendC (site : Nat) (dst : Option Tmp) (st : St) (x y : V) (K : St → Option ρ) : Option ρ :=
  match y with
  | .u (.x (.own k (.orows ys))) => (match x with
    | .u (.x (.nil _)) => bif isLow k then none else if ys.length ≤ 1099511627776 then K ((st.drop fun m => m == k || m == nm site 0).put dst (.u (.x (.own (nm site 0) (.orows ys))))) else none
    | .u (.x (.own n (.orows xs))) => bif k == n || (isLow k && !isLow n) then none else
      if (xs ++ ys).length ≤ 1099511627776 then K ((st.drop fun m => m == n || m == k || m == upName site n).put dst (.u (.x (.own (upName site n) (.orows (xs ++ ys)))))) else none
    | _ => appendP O site dst st x y K)
  | _ => appendP O site dst st x y K

def loadX (tb : Nat → Option (List X)) (a : X) (size : Nat) (isAgg : Bool) : Option U :=
  match a with
  | .ptr n o => (match tb n with
    | some xs => (match cut xs o size with | some ys => U.ofCells isAgg ys | none => none)
    | none => none)
  | .rop true cs o => (match cut cs o size with | some ys => U.ofCells isAgg (ys.map S0.toX) | none => none)
  | .el n c i => bif isAgg then none else (match c with
    | .orows xs => some (.x (.bw n (.ints .i64 (xs.getD i [])) i))
    | .hrows _ _ => none
    | c => some (.x (c.get i).toX))
  | .roel c i => bif isAgg then none else some (.x (c.get i).toX)
  | _ => none

def storeX (st : St) (a : X) (u : U) (K : St → Option ρ) : Option ρ :=
  match a with
  | .ptr n o => bif u.cells.all X.cellOk then (match st.tb n with
    | some xs => (match splice xs u.cells o with | some ys => K { st with tabs := setl st.tabs n ys } | none => none)
    | none => none) else none
  | .el n (.orows xs) i => (match u with
    | .x (.own m (.ints .i64 ys)) => bif m == n || (isLow m && !isLow n) then none else K ((st.drop fun k => k == m).sub n (.setc (.orows (xs.set i ys))))
    | .x (.nil _) => K (st.sub n (.setc (.orows (xs.set i []))))
    | _ => none)
  | .el n (.hrows xs j) i => (match u with
    | .x (.own m (.ints .i64 ys)) => bif m == n || (isLow m && !isLow n) then none else if i = j then K ((st.drop fun k => k == m).sub n (.setc (.orows (xs.set i ys)))) else none
    | _ => none)
  | .el n c i => (match u with
    | .x (.own m ys) => bif m == n || isLow m || !ys.whole then none else (match c.set i (.sl ys.rd) with | some c' => K ((st.sub m .ro).sub n (.setc c')) | none => none)
    | .x x => bif x.toks.isEmpty then (match x.toS0 with
      | some s => (match c.set i s with | some c' => K (st.sub n (.setc c')) | none => none)
      | none => none) else none
    | .agg _ => none)
  | _ => none

/-- What an operation gives that writes nothing: its value, and the cells of the variable that it makes. -/
def cv (site : Nat) (op : Op) (e : Operand → V) (tb : Nat → Option (List X)) (K : V → Option (List X) → Option ρ) : Option ρ :=
  match op with
  | .move x => K (e x) none
  | .assign x => K (e x) none
  | .pick c a b => (match e c, e a, e b with
    | .u (.x (.bool c)), .u (.x (.bool a)), .u (.x (.bool b)) => K (.u (.x (.bool (bif c then a else b)))) none
    | .u (.x (.bool c)), .u (.x (.bool a)), _ => bif c then K (.u (.x (.bool a))) none else none
    | .u (.x (.bool c)), _, .u (.x (.bool b)) => bif c then none else K (.u (.x (.bool b))) none
    | _, _, _ => none)
  | .alloc t => bif Nat.blt 0 (T t).zero.length then K (.u (.x (.ptr (nm site 0) 0))) (some (T t).zero) else none
  | .box t x => (match e x with
    | .u u => bif u.cells.all X.cellOk && (u.cells.length == (T t).size) then K (.u (.x (.ptr (nm site 0) 0))) (some u.cells) else none
    | _ => none)
  | .build t ps => (match (T t).u with
    | .struct fs => (match buildC fs (T t).zero (ps.toList.map fun (i, x) => (i, e x)) with
      | some cs => bif cs.all X.cellOk then K (.u (.agg cs)) none else none
      | none => none)
    | _ => none)
  | .buildSlice t n ps => (match (T t).u with
    | .slice c => bif Nat.ble n 4096 then (match buildL (bif n == 0 then c.zeros n else c.rd.zeros n) (ps.toList.map fun (i, x) => (i, e x)) with
      | some c => K (.u (.x (.own (nm site 0) c))) none
      | none => none) else none
    | _ => none)
  | .load t a => (match e a with
    | .u (.x a) => bif Nat.blt 0 (T t).size then (match loadX tb a (T t).size (T t).u.isAgg with
      | some u => K (.u u) none
      | none => none) else none
    | _ => none)
  | .nilCheck x => (match e x with
    | .u (.x (.ptr n k)) => K (.u (.x (.ptr n k))) none
    | .u (.x (.rop b cs k)) => bif b then K (.u (.x (.rop true cs k))) none else none
    | .u (.x (.el n c k)) => K (.u (.x (.el n c k))) none
    | .u (.x (.roel c k)) => K (.u (.x (.roel c k))) none
    | .u (.x (.fn f first cs)) => K (.u (.x (.fn f first cs))) none
    | _ => none)
  | .binOp op t x y _ => binV (T t).u op (e x) (e y) fun r => K (.u (.x r)) none
  | .unOp op _ x => unV op (e x) fun r => K (.u (.x r)) none
  | .convert s d x => (match (T s).u, (T d).u, e x with
    | .int _, .int k, .u (.x (.int _ n)) => K (.u (.x (.int k (k.wrap n)))) none
    | .slice (.ints .u8 _), .str, .u (.x (.own _ (.ints .u8 xs))) => K (.u (.x (.str ⟨(xs.map fun n => UInt8.ofNat n.toNat).toArray⟩))) none
    | _, _, _ => none)
  | .makeSlice t l c => (match (T t).u, e l with
    | .slice z, .u (.x (.int _ n)) => bif sameOp l c then (if 0 ≤ n then if n ≤ 1099511627776 then K (.u (.x (.own (nm site 0) (z.zeros n.toNat)))) none else none else none) else none
    | _, _ => none)
  | .slice t x lo hi mx => (match mx with
    | some _ => none
    | none => (match (T t).u, e x with
      | .str, .u (.x (.str s)) => bound (lo.map e) (hi.map e) s.size fun l h => K (.u (.x (.str (s.extract l h)))) none
      | .slice _, .u (.x (.ro c)) => bound (lo.map e) (hi.map e) c.len fun l h => K (.u (.x (.ro ((c.take h).drop l)))) none
      | _, _ => none))
  | .fieldAddr t x f => (match (T t).u, e x with
    | .struct fs, .u (.x (.ptr n k)) => (match fs[f]? with | some (off, _, _) => K (.u (.x (.ptr n (k + off)))) none | none => none)
    | .struct fs, .u (.x (.rop b cs k)) => (match fs[f]? with | some (off, _, _) => bif b then K (.u (.x (.rop true cs (k + off)))) none else none | none => none)
    | _, _ => none)
  | .field t x f => (match (T t).u, e x with
    | .struct fs, .u (.agg xs) => (match fs[f]? with
      | some (off, size, ag) => (match cut xs off size with
        | some ys => (match U.ofCells ag ys with | some u => K (.u u) none | none => none)
        | none => none)
      | none => none)
    | _, _ => none)
  | .indexAddr t x i => (match (T t).u, e x, e i with
    | .slice _, .u (.x (.own n c)), .u (.x (.int _ i)) => if 0 ≤ i then if i < (c.len : Int) then K (.u (.x (.el n c i.toNat))) none else none else none
    | .slice _, .u (.x (.ro c)), .u (.x (.int _ i)) => if 0 ≤ i then if i < (c.len : Int) then K (.u (.x (.roel c i.toNat))) none else none else none
    | _, _, _ => none)
  | .index t x i => (match (T t).u, e x, e i with
    | .str, .u (.x (.str s)), .u (.x (.int _ i)) => if 0 ≤ i then if i < (s.size : Int) then K (.u (.x (.int .u8 (s.data.toList.getD i.toNat 0).toNat))) none else none else none
    | _, _, _ => none)
  | .extract t i => (match e t with
    | .tup us => (match us[i]? with | some u => K (.u u) none | none => none)
    | _ => none)
  | .makeFunc (.func f) first caps => (match firstOf (first.toList.map e), capsOf (caps.toList.map e) with
    | some vs, some ns => K (.u (.x (.fn f vs ns))) none
    | _, _ => none)
  | .call { callee := .value f, args, .. } => (match e f with
    | .u (.x (.fn g first [])) => (match O.fn g with
      | some o =>
          let vs := first.map firstV ++ args.toList.map e
          bif o.md.all Md.isVal && (o.na == vs.length) && (seeds tb vs).isEmpty && (!o.weak || (vToks tb vs).isEmpty) then
          (match toDUs tb (posOf 0 vs) o.md vs with
          | some ds => o.G ds fun out => (match out.upd with
            | [] => bif (vToks tb vs).isEmpty || out.res.all DU.flat then (match nameDs (fun j => nm site (8 + j)) 0 out.res with
              | some us => K (resV us) none
              | none => none) else none
            | _ :: _ => none)
          | none => none)
        else none
      | none => none)
    | _ => none)
  | .call { callee := .builtin b, args, argTypes } => (match b, args.toList.map e with
    | .len, [x] => bif argTypes.size == 0 then none else (match (T (argTypes.getD 0 0)).u, asSlice x, x with
      | .slice _, some c, _ => K (.u (.x (.int .i64 c.len))) none
      | .str, none, .u (.x (.str s)) => K (.u (.x (.int .i64 s.size))) none
      | _, _, _ => none)
    | .min, [.u (.x (.int k a)), .u (.x (.int _ b))] => K (.u (.x (.int k (if b < a then b else a)))) none
    | .max, [.u (.x (.int k a)), .u (.x (.int _ b))] => K (.u (.x (.int k (if b > a then b else a)))) none
    | _, _ => none)
  | _ => none

def St.out (st : St) (site : Nat) (dst : Option Tmp) (v : V) : Option (List X) → St
  | none => st.put dst v
  | some cs => { st with tabs := insl st.tabs (nm site 0) cs }.put dst v

/-- Operations that write. 'none': it is none of them. -/
def wild (site : Nat) (o : Oper) (st : St) (K : St → Option ρ) : Option (Option ρ) :=
  match o.op with
  | .store t a v => some (match ev st a, ev st v with
    | .u (.x a), .u u => bif u.cells.length == (T t).size && Nat.blt 0 (T t).size then storeX st a u fun st' => K (st'.put o.dst (.tup [])) else none
    | _, _ => none)
  | .assign (.const (.slice none 0 0)) => some (match (T o.type).u with
    | .slice c => K (st.put o.dst (.u (.x (.nil (c.zeros 0)))))
    | _ => none)
  | .load t a => (match ev st a with
    | .u (.x (.el n (.orows xs) i)) => bif O.fk site then some (bif isLow n || !((T t).size == 1) || (T t).u.isAgg then none else K ((st.sub n .ro).put o.dst (.u (.x (.ro (.ints .i64 (xs.getD i []))))))) else none
    | _ => none)
  | .buildSlice t n ps => (match (T t).u, buildO [] [] (ps.toList.map fun (i, x) => (i, ev st x)) with
    | .slice (.orows _), some (xs, ns) => bif ns.isEmpty then none else some (bif n == xs.length && Nat.ble n 4096 then K ((st.drop fun m => ns.contains m || m == nm site 0).put o.dst (.u (.x (.own (nm site 0) (.orows xs))))) else none)
    | _, _ => none)
  | .slice t x lo hi none => (match ev st x with
    | .u (.x (.own n c)) => some (match (T t).u with
      | .slice _ => bound (lo.map (ev st)) (hi.map (ev st)) c.len fun l h =>
        bif c.plain then K ((st.drop fun m => m == n || m == upName site n).put o.dst (.u (.x (.own (upName site n) ((c.take h).drop l)))))
        else bif isLow n || !c.whole then none else K ((st.sub n .ro).put o.dst (.u (.x (.ro ((c.rd.take h).drop l)))))
      | _ => none)
    | _ => none)
  | .call { callee := .value f, args, .. } => (match ev st f with
    | .u (.x (.fn g first caps)) => (match O.fn g with
      | some ora => bif caps.isEmpty && ora.md.all Md.isVal && (seeds st.tb (first.map firstV ++ args.toList.map (ev st))).isEmpty && (!ora.weak || (vToks st.tb (first.map firstV ++ args.toList.map (ev st))).isEmpty) then none
          else some (callW ora site o.dst (first.length + args.size + caps.length) (handed st.tb first (args.toList.map (ev st)) caps) st K)
      | none => none)
    | _ => none)
  | .call { callee := .builtin .append, args, argTypes } => (match args.toList.map (ev st) with
    | [x, y] => some (match argTypes.toList with
      | [t, t'] => bif t == t' then (match (T t).u with | .slice _ => appendC O site o.dst st x y K | _ => none) else none
      | _ => none)
    | _ => none)
  | _ => none

def isStore (o : Oper) : Bool := match o.op with | .store _ _ _ => true | _ => false
/-- An operation on variables alone. -/
def nonEl (o : Oper) (st : St) : Bool := match o.op with
  | .nilCheck x => (match ev st x with | .u (.x (.el _ _ _)) => false | _ => true)
  | .load _ x => (match ev st x with | .u (.x (.el _ _ _)) => false | _ => true)
  | _ => true
/-- A store into a variable of one's own. -/
def ptrStore (o : Oper) (st : St) : Bool := match o.op with
  | .store _ a _ => (match ev st a with | .u (.x (.ptr _ _)) => true | _ => false)
  | _ => false
/-- 'm': the operation's place among the others: 0: fixed; 1: drawn; 2: drawn among operations on variables alone; 3: it is one of these; 4: a store, drawn among operations on values alone. -/
def step (m : Nat) (site : Nat) (o : Oper) (st : St) (K : St → Option ρ) : Option ρ :=
  match wild T O site o st K with
  | some r => bif m == 1 || m == 3 || (m == 4 && !ptrStore o st) then none else r
  | none => bif m == 3 && !nonEl o st then none else cv T O site o.op (ev st) st.tb fun v ext => K (st.out site o.dst v ext)

/-- Is an operation wanted? -/
def guarded (all : List Oper) (o : Oper) (st : St) (yes no : St → Option ρ) : Option ρ :=
  match o.guard with
  | none => yes st
  | some (j, want) => (match (all[j]?).bind (·.dst) with
    | some d => (match st.tmps[d]? with
      | some (.u (.x (.bool b))) => bif b then (bif want then yes (st.put (some d) (.u (.x (.bool true)))) else no (st.put (some d) (.u (.x (.bool true))))) else (bif want then no (st.put (some d) (.u (.x (.bool false)))) else yes (st.put (some d) (.u (.x (.bool false)))))
      | some (.tup _) => no st
      | _ => none)
    | none => none)
def numbered : Nat → List Oper → List (Nat × Oper)
  | _, [] => []
  | i, o :: r => (i, o) :: numbered (i + 1) r

/-! May the order be drawn? -/
def maskOf (after : List Edge) (acc : List Nat) : Nat :=
  after.foldl (fun s e => bif Region.binds .any e then s ||| (2 ^ e.on ||| acc.getD e.on 0) else s) 0
def masks : List Oper → List Nat → List Nat
  | [], acc => acc
  | o :: r, acc => masks r (acc ++ [maskOf o.after.toList acc])
/-- Has the one its place before or behind the other? -/
def fixed2 (ms : List Nat) (i j : Nat) : Bool := j == i || (ms.getD j 0).testBit i || (ms.getD i 0).testBit j
def isLoose (o : Oper) : Bool := match o.op with
  | .move _ => true
  | .assign (.const _) => false
  | .assign _ => true
  | .nilCheck _ => true
  | .fieldAddr _ _ _ => true
  | .load _ _ => true
  | _ => false
def isApp (o : Oper) : Bool := match o.op with
  | .call { callee := .builtin .append, .. } => true
  | .buildSlice _ _ _ => true
  | _ => false
def allB (n : Nat) (p : Nat → Bool) : Bool := (List.range n).all p
/-- An operation that makes a slice out of others, drawn among operations on variables alone. -/
def isMk (ms : List Nat) (ops : Array Oper) (i : Nat) : Bool := (match ops[i]? with | some o => isApp o | none => false) && allB ops.size fun j => fixed2 ms i j || (match ops[j]? with | some o => isLoose o | none => false)
/-- An operation on values alone. -/
def isPure (o : Oper) : Bool := match o.op with
  | .move _ => true
  | .assign (.const _) => false
  | .assign _ => true
  | .extract _ _ => true
  | _ => false
def isSt (ms : List Nat) (ops : Array Oper) (i : Nat) : Bool := (match ops[i]? with | some o => isStore o | none => false) && allB ops.size fun j => fixed2 ms i j || (match ops[j]? with | some o => isPure o | none => false)
def modeAt (ms : List Nat) (ops : Array Oper) (i : Nat) : Nat :=
  bif allB ops.size (fixed2 ms i) then 0 else bif isMk ms ops i then 2 else bif isSt ms ops i then 4 else bif allB ops.size fun j => fixed2 ms i j || (!isMk ms ops j && !isSt ms ops j) then 1 else 3
def pairOk (ops : Array Oper) (i j : Nat) (bj : Nat) : Bool :=
  bj.testBit i || (match ops[i]?, ops[j]? with
    | some x, some y => x.apart ops y
    | _, _ => false)
def drawOk (ops : Array Oper) : Bool :=
  let ms := masks ops.toList []
  Region.noSelect ops &&
  ((List.range ops.size).all fun j => (List.range j).all fun i => pairOk ops i j (ms.getD j 0)) &&
  (List.range ops.size).all fun j => match ops[j]? with | some o => o.after.all fun e => !Region.binds .any e || Nat.blt e.on j | none => true
/-- How the places of a region's operations are drawn. -/
def modes (ops : Array Oper) : List Nat := let ms := masks ops.toList []; (List.range ops.size).map (modeAt ms ops)
def opsRun (md : List Nat) (rid : Nat) (all : List Oper) : List (Nat × Oper) → St → (St → Option ρ) → Option ρ
  | [], st, K => K st
  | (i, o) :: r, st, K => guarded all o st (fun st => step T O (md.getD i 0) (64 * rid + i) o st fun st' => opsRun md rid all r st' K) (fun st => opsRun md rid all r (st.put o.dst (.tup [])) K)

inductive Ex where
  | normal
  | exit (id : Nat)
  | ret

/-- What is kept at a loop's head. -/
structure Keep where
  /-- slices that wait no more -/
  back : List Nat
  tmps : List Nat
  tabs : List Nat
  /-- slices under new names: of a tmp, of a table's cell -/
  names : List (Nat × Nat)
  cells : List (Nat × Nat × Nat)
  /-- 1; a variable where proofs are to stand still -/
  gate : Nat

def keepT (l : List Nat) : Nat → List V → List V
  | _, [] => []
  | i, v :: vs => (bif l.contains i then v else .u (.x .undef)) :: keepT l (i + 1) vs
/-- Nothing yet, under a name: from this name on, as rows that are read. -/
def nilAs (n : Nat) (c : C) : C := bif Nat.ble 16600000 (n % high) then c.rd else c
/-- This name makes a slice one that is read. -/
def roName : Nat := 4095
def renT (st : St) (t n' : Nat) : St :=
  bif n' == roName then (match st.get t with
    | .u (.x (.nil c)) => bif c.whole then st.put (some t) (.u (.x (.ro c.rd))) else st
    | .u (.x (.own n c)) => bif isLow n || !c.whole then st else st.sub n .ro
    | _ => st) else
  match st.get t with
  | .u (.x (.nil c)) => bif c.whole then (st.clr fun m => m == n').put (some t) (.u (.x (.own n' (nilAs n' c)))) else st
  | .u (.x (.own n c)) => bif n == n' then st else (bif isLow n && !isLow n' then st else ((st.clr fun m => m == n || m == n').put (some t) (.u (.x (.own n' c)))))
  | _ => st
def renC (st : St) (tb off n' : Nat) : St :=
  bif n' == roName then (match lk st.tabs tb with
    | some xs => (match xs[off]? with
      | some (.nil c) => bif c.whole then { st with tabs := setl st.tabs tb (xs.set off (.ro c.rd)) } else st
      | some (.own n c) => bif isLow n || !c.whole then st else st.sub n .ro
      | _ => st)
    | none => st) else
  match lk st.tabs tb with
  | some xs => (match xs[off]? with
    | some (.nil c) => bif c.whole then (let st' := st.clr fun m => m == n'; { st' with tabs := match lk st'.tabs tb with | some ys => setl st'.tabs tb (ys.set off (.own n' (nilAs n' c))) | none => st'.tabs }) else st
    | some (.own n c) => bif n == n' then st else (bif isLow n && !isLow n' then st else (let st' := st.clr fun m => m == n || m == n'; { st' with tabs := match lk st'.tabs tb with | some ys => setl st'.tabs tb (ys.set off (.own n' c)) | none => st'.tabs }))
    | _ => st)
  | none => st
def renTs : List (Nat × Nat) → St → St
  | [], st => st
  | (t, n) :: l, st => renTs l (renT st t n)
def renCs : List (Nat × Nat × Nat) → St → St
  | [], st => st
  | (tb, off, n) :: l, st => renCs l (renC st tb off n)
def backs : List Nat → St → St
  | [], st => st
  | n :: l, st => backs l (st.back n)
def Keep.nrm (k : Keep) (st0 : St) : St :=
  let st := backs k.back st0
  renCs k.cells (renTs k.names (St.clr { st with tmps := keepT k.tmps 0 st.tmps, sus := [] } fun n => (st.tabs.any fun (m, _) => m == n) && !k.tabs.contains n))

def firstRid : Code → Nat
  | .region id _ _ => id
  | .seq a b => (match a with | .skip => firstRid b | .label _ => firstRid b | a => firstRid a)
  | .block _ c => firstRid c
  | .loop c => firstRid c
  | .scope c => firstRid c
  | .cond _ a _ => 100000 + firstRid a
  | _ => 0

def nrmAt (kp : Nat → Option Keep) (i : Nat) (st : St) : St := match kp i with
  | some k => k.nrm st
  | none => st
def iter (body : St → (Ex → St → Option ρ) → Option ρ) (nrm : St → St) : Nat → St → (Ex → St → Option ρ) → Option ρ
  | 0, _, _ => none
  | n + 1, st, K => body st fun e st' => match e with
    | .normal => iter body nrm n (nrm st') K
    | e => K e st'
def itK (body : St → (Ex → St → Option ρ) → Option ρ) (nrm : St → St) (n : Nat) (K : Ex → St → Option ρ) : Ex → St → Option ρ := fun e st' => match e with
  | .normal => iter body nrm n (nrm st') K
  | e => K e st'

def gateAt (kp : Nat → Option Keep) (i : Nat) : Nat := match kp i with
  | some k => k.gate
  | none => 1
def gate (g : Nat) (x : Option ρ) : Option ρ := match g with
  | 0 => none
  | _ + 1 => x
def seqK (g : Nat) (rb : St → (Ex → St → Option ρ) → Option ρ) (nrm : St → St) (K : Ex → St → Option ρ) : Ex → St → Option ρ := fun e st' => match e with
  | .normal => gate g (rb (nrm st') K)
  | e => K e st'
def blkK (id : Nat) (K : Ex → St → Option ρ) : Ex → St → Option ρ := fun e st' => match e with
  | .exit id' => bif id' == id then K .normal st' else K (.exit id') st'
  | e => K e st'
def run (kp : Nat → Option Keep) (fuel : Nat) : Code → St → (Ex → St → Option ρ) → Option ρ
  | .skip, st, K => K .normal st
  | .region rid ops dr, st, K => bif Nat.blt ops.size 64 && Nat.blt rid 16000 && (!dr || drawOk ops) then opsRun T O (bif dr then modes ops else []) rid ops.toList (numbered 0 ops.toList) (st.clr (ofRegion rid)) fun st' => K .normal st' else none
  | .seq a b, st, K => run kp fuel a st (seqK (gateAt kp (200000 + firstRid b)) (run kp fuel b) (nrmAt kp (200000 + firstRid b)) K)
  | .cond c x y, st, K => match ev st c with
    | .u (.x (.bool b)) => bif b then run kp fuel x st K else run kp fuel y st K
    | _ => none
  | .block id c, st, K => run kp fuel c st (blkK id K)
  | .loop c, st, K => iter (run kp fuel c) (nrmAt kp (firstRid c)) fuel (nrmAt kp (firstRid c) st) K
  | .exit id, st, K => K (.exit id) st
  | .label _, st, K => K .normal st
  | .ret, st, K => K .ret st
  | _, _, _ => none

/-! ### A function -/
def nameM (p : Nat) : Nat → List S → List X
  | _, [] => []
  | j, .sl c :: ss => .own (64 * p + j) c :: nameM p (j + 1) ss
  | j, s :: ss => s.toX :: nameM p (j + 1) ss
def musM (p : Nat) : Nat → List S → List (Nat × C)
  | _, [] => []
  | j, .sl c :: ss => (64 * p + j, c) :: musM p (j + 1) ss
  | j, _ :: ss => musM p (j + 1) ss
def initP (p : Nat) : Md → DU → Option (V × List (Nat × List X) × List (Nat × C))
  | .val, .x s => some (.u (.x s.toX), [], [])
  | .val, .agg cs => some (.u (.agg (cs.map S.toX)), [], [])
  | .ref, .ptr cs => bif Nat.blt cs.length 60 then some (.u (.x (.ptr (refN p) 0)), [(refN p, nameM p 0 cs)], []) else none
  | .ref, _ => none
  | _, .x s => some (.u (.x ((nameM p 0 [s]).headD .undef)), [], musM p 0 [s])
  | _, .agg cs => bif Nat.blt cs.length 60 then some (.u (.agg (nameM p 0 cs)), [], musM p 0 cs) else none
  | _, _ => none
def initS : Nat → List Md → List DU → Option (List V × List (Nat × List X) × List (Nat × C))
  | p, [], [] => bif Nat.ble p 60 then some ([], [], []) else none
  | p, m :: ms, d :: ds => match initP p m d with
    | some (v, t, u) => (match initS (p + 1) ms ds with
      | some (vs, ts, us) => some (v :: vs, t ++ ts, u ++ us)
      | none => none)
    | none => none
  | _, _, _ => none

/-- At which place a parameter's variable was handed over. -/
def posRef (n : Nat) : Option Nat := bif Nat.blt n 4096 && n % 64 == 63 then some (n / 64) else none
/-- A cell that is given away: as what, and which names are given away with it, to be written and to be read; 'low': into memory that was handed in; 'ro': to be read. -/
def outS (tb : Nat → Option (List X)) (low ro : Bool) (df : List S0) : X → Option (S × List Nat × List Nat)
  | .own n c => bif ro then (bif c.whole && !isLow n then some (.rs c.rd, [], [2 * n]) else none) else (bif c.whole && (low || !isLow n) then some (.sl c, [2 * n], []) else none)
  | .bw n c _ => bif isLow n then none else (bif ro then some (.rs c, [], [2 * n]) else some (.sl c, [2 * n], []))
  | .nil c => bif c.whole then some (bif ro then .rs c.rd else .sl c, [], []) else none
  | .int k n => some (.int k n, [], [])
  | .bool b => some (.bool b, [], [])
  | .str s => some (.str s, [], [])
  | .ro c => some (.rs c, [], [])
  | .rop b cs o => bif o == 0 then some (.rp b cs, [], []) else none
  | .nilp => some (bif low then .nilp else .rp false df, [], [])
  | .ptr n o => bif o == 0 && !low && !isLow n then (match tb n with
      | some xs => bif (toks xs).any isLow then none else (match toS0s xs with
        | some ss => some (.rp true ss, [], (2 * n + 1) :: (toks xs).map fun m => 2 * m)
        | none => none)
      | none => none) else none
  | .fn f first caps => bif low then (match poss posRef caps with
      | some ps => some (.fnv f first ps, [], [])
      | none => none) else none
  | _ => none
def outSs (tb : Nat → Option (List X)) (low ro : Bool) (df : List S0) : List X → Option (List S × List Nat × List Nat)
  | [] => some ([], [], [])
  | x :: xs => match outS tb low ro df x with
    | some (s, a, b) => (match outSs tb low ro df xs with
      | some (ss, a', b') => some (s :: ss, a ++ a', b ++ b')
      | none => none)
    | none => none
def outDs (tb : Nat → Option (List X)) (ro : Bool) : List (List S0) → List U → Option (List DU × List Nat × List Nat)
  | _, [] => some ([], [], [])
  | df, .x x :: us => (match outS tb false ro (df.headD []) x with
    | some (s, a, b) => (match outDs tb ro df.tail us with
      | some (ds, a', b') => some (.x s :: ds, a ++ a', b ++ b')
      | none => none)
    | none => none)
  | df, .agg xs :: us => (match outSs tb false ro (df.headD []) xs with
    | some (ss, a, b) => (match outDs tb ro df.tail us with
      | some (ds, a', b') => some (.agg ss :: ds, a ++ a', b ++ b')
      | none => none)
    | none => none)
def C.same : C → C → Bool
  | .ints k xs, .ints k' ys => decide (k = k') && decide (xs = ys)
  | .bools xs, .bools ys => decide (xs = ys)
  | .strs xs, .strs ys => decide (xs = ys)
  | .rows xs, .rows ys => decide (xs = ys)
  | .orows xs, .orows ys => decide (xs = ys)
  | _, _ => false
/-- What a parameter's slices hold now; 'same': is it what they held? -/
def updM (mus : List (Nat × C)) (p : Nat) : Nat → List S → Option (List S × List Nat × Bool)
  | _, [] => some ([], [], true)
  | j, .sl c0 :: ss => (match lk mus (64 * p + j) with
    | some c => bif c.whole then (match updM mus p (j + 1) ss with
      | some (ss', ns, b) => some (.sl c :: ss', (2 * (64 * p + j)) :: ns, c.same c0 && b)
      | none => none) else none
    | none => none)
  | j, s :: ss => (match updM mus p (j + 1) ss with
    | some (ss', ns, b) => some (s :: ss', ns, b)
    | none => none)
def updP (st : St) (p : Nat) : Md → DU → Option (List DU × List Nat × Bool)
  | .val, _ => some ([], [], true)
  | .wr, .x s => (match updM st.mus p 0 [s] with
    | some ([s'], ns, _) => some ([.x s'], ns, true)
    | _ => none)
  | .wr, .agg cs => (match updM st.mus p 0 cs with
    | some (cs', ns, _) => some ([.agg cs'], ns, true)
    | none => none)
  | .ext, .x s => (match updM st.mus p 0 [s] with
    | some (_, ns, b) => some ([], ns, b)
    | _ => none)
  | .ext, .agg cs => (match updM st.mus p 0 cs with
    | some (_, ns, b) => some ([], ns, b)
    | none => none)
  | .ref, .ptr _ => (match st.tb (refN p) with
      | some xs => (match outSs st.tb true false [] xs with
        | some (ss, ns, _) => some ([.ptr ss], (2 * refN p + 1) :: ns, true)
        | none => none)
      | none => none)
  | _, _ => none
def updS (st : St) : Nat → List Md → List DU → Option (List DU × List Nat × Bool)
  | _, [], [] => some ([], [], true)
  | p, m :: ms, d :: ds => (match updP st p m d with
    | some (u, ns, b) => (match updS st (p + 1) ms ds with
      | some (us, ns', b') => some (u ++ us, ns ++ ns', b && b')
      | none => none)
    | none => none)
  | _, _, _ => none
def resU (T : TypeId → TI) (st : St) : List ResultVar → Option (List U)
  | [] => some []
  | .tmp t :: rs => (match st.get t with
    | .u u => (match resU T st rs with
      | some us => some (u :: us)
      | none => none)
    | _ => none)
  | .cell t ty :: rs => (match st.get t with
    | .u (.x x) => bif Nat.blt 0 (T ty).size then (match loadX st.tb x (T ty).size (T ty).u.isAgg with
      | some u => (match resU T st rs with
        | some us => some (u :: us)
        | none => none)
      | none => none) else none
    | _ => none)
def finish (md : List Md) (weak : Bool) (df : List (List S0)) (rs : List ResultVar) (ds : List DU) (st0 : St) (K : Out → Option ρ) : Option ρ :=
  let st := backs (st0.sus.map (·.1)) st0
  match resU T st rs with
  | some us => (match updS st 0 md ds with
    | some (upd, ns, b) => (match outDs st.tb weak df us with
      | some (res, a, r) => bif nodupB (a ++ ns) && r.all (fun n => !(a ++ ns).contains n) && b then K ⟨res, upd⟩ else none
      | none => none)
    | none => none)
  | none => none
def topK (md : List Md) (weak : Bool) (df : List (List S0)) (rs : List ResultVar) (ds : List DU) (K : Out → Option ρ) : Ex → St → Option ρ := fun e st => match e with
  | .exit _ => none
  | _ => finish T md weak df rs ds st K
/-- The variables of functions among the values are handed over as variables. -/
def refAt (md : List Md) (p : Nat) : Bool := match md[p]? with
  | some .ref => true
  | _ => false
def S.fnOk (md : List Md) : S → Bool
  | .fnv _ _ ps => ps.all (refAt md)
  | _ => true
def DU.fnOk (md : List Md) : DU → Bool
  | .x s => s.fnOk md
  | .agg cs => cs.all (S.fnOk md)
  | .ptr cs => cs.all (S.fnOk md)
/-- 'na': how many of the values are values; the others are variables of functions among them. -/
def runFn (kp : Nat → Option Keep) (fuel : Nat) (md : List Md) (na : Nat) (weak : Bool) (df : List (List S0)) (ntmps : Nat) (rs : List ResultVar) (body : Code) (ds : List DU) (K : Out → Option ρ) : Option ρ :=
  match initS 0 md ds with
  | some (vs, tabs, mus) => bif !(ds.all (DU.fnOk md)) then none else run T O kp fuel body { tmps := vs.take na ++ List.replicate (ntmps - (vs.take na).length) (.u (.x .undef)), tabs, mus, sus := [] } (topK T md weak df rs ds K)
  | none => none
end
end Go.BV

/-
  The evaluator's values against the model's memory.
-/
namespace Go.BV

/-! ### Rows of cells -/
def row (w : World) (b : Nat) : Option (List Value) :=
  match w.heap[b]? with
  | some (.cells arr _ (lo, hi)) => if lo = 0 ∧ hi = 0 then some arr.toList else none
  | _ => none

theorem row_heap {w : World} {b : Nat} {l : List Value} (h : row w b = some l) : ∃ e, w.heap[b]? = some (.cells l.toArray e (0, 0)) := by
  unfold row at h
  split at h
  · rename_i arr e lo hi hb
    split at h
    · rename_i hz
      obtain ⟨rfl, rfl⟩ := hz
      injection h with h
      subst h
      exact ⟨e, by simpa using hb⟩
    · cases h
  · cases h
theorem row_of_heap {w : World} {b : Nat} {arr : Array Value} {e : TypeId} (h : w.heap[b]? = some (.cells arr e (0, 0))) : row w b = some arr.toList := by
  simp [row, h]
theorem row_lt {w : World} {b : Nat} {l : List Value} (h : row w b = some l) : b < w.heap.size := by
  obtain ⟨e, h⟩ := row_heap h
  exact (Array.getElem?_eq_some_iff.1 h).1
theorem row_cell {w : World} {b : Nat} {l : List Value} (h : row w b = some l) (i : Nat) : w.cell? ⟨b, i, none⟩ = l[i]? := by
  obtain ⟨e, h⟩ := row_heap h
  simp [World.cell?, h]
theorem row_frozen {w : World} {b : Nat} {l : List Value} (h : row w b = some l) (i : Nat) : w.frozen? ⟨b, i, none⟩ = false := by
  obtain ⟨e, h⟩ := row_heap h
  simp [World.frozen?, h]
theorem row_same {w w' : World} {b : Nat} (h : w'.heap[b]? = w.heap[b]?) : row w' b = row w b := by simp [row, h]
theorem cell_same {w w' : World} {a : Addr} (h : w'.heap[a.block]? = w.heap[a.block]?) : w'.cell? a = w.cell? a := by simp [World.cell?, h]
theorem heap_setCell_ne {w : World} {a : Addr} {v : Value} {b : Nat} (h : b ≠ a.block) : (w.setCell a v).heap[b]? = w.heap[b]? := by
  simp only [World.setCell, Array.getElem?_modify]
  rw [if_neg (fun e => h e.symm)]
theorem row_setCell {w : World} {b i : Nat} {v : Value} {l : List Value} (h : row w b = some l) : row (w.setCell ⟨b, i, none⟩ v) b = some (l.set i v) := by
  obtain ⟨e, h⟩ := row_heap h
  simp [row, World.setCell, Array.getElem?_modify, h]
theorem heap_alloc_lt {w : World} {o : Obj} {b : Nat} (h : b < w.heap.size) : (w.alloc o).heap[b]? = w.heap[b]? := by
  show (w.heap.push o)[b]? = _
  rw [Array.getElem?_push, if_neg (by omega)]
theorem row_alloc {w : World} {arr : Array Value} {e : TypeId} : row (w.alloc (.cells arr e)) w.heap.size = some arr.toList := by
  unfold row World.alloc
  simp only [Array.getElem?_push_size]
  rfl
theorem add_none (b o i : Nat) : (⟨b, o, none⟩ : Addr).add i = ⟨b, o + i, none⟩ := by
  unfold Addr.add
  split
  · simp_all
  · rfl
theorem add_block (a : Addr) (i : Nat) : (a.add i).block = a.block := by unfold Addr.add; split <;> rfl

/-! ### What a value reads as -/
def Reads (w : World) (Z : Nat → Prop) (v : Value) (n : Nat) (p : Nat → Value → Prop) : Prop :=
  ∃ a cap, v = .slice a n cap ∧ n ≤ cap ∧ (0 < n → ∃ ad, a = some ad ∧ ad.spot = none ∧ Z ad.block) ∧ ∀ ad, a = some ad → ∀ i, i < n → ∃ u, w.cell? (ad.add i) = some u ∧ p i u
def rowsR (w : World) (Z : Nat → Prop) (xs : List (List Int)) (v : Value) : Prop := Reads w Z v xs.length fun i u => Reads w Z u (xs.getD i []).length fun j t => t = .int .i64 ((xs.getD i []).getD j 0)
def CR (w : World) (Z : Nat → Prop) : C → Value → Prop
  | .ints k xs, v => Reads w Z v xs.length fun i u => u = .int k (xs.getD i 0)
  | .bools xs, v => Reads w Z v xs.length fun i u => u = .bool (xs.getD i false)
  | .strs xs, v => Reads w Z v xs.length fun i u => u = .string (xs.getD i .empty)
  | .rows xs, v => rowsR w Z xs v
  | .orows xs, v => rowsR w Z xs v
  | .hrows xs _, v => rowsR w Z xs v
def SR (w : World) (Z : Nat → Prop) : S0 → Value → Prop
  | .int k n, v => v = .int k n
  | .bool b, v => v = .bool b
  | .str s, v => v = .string s
  | .sl c, v => CR w Z c v
theorem CR_iff {w : World} {Z : Nat → Prop} {c : C} {v : Value} : CR w Z c v ↔ Reads w Z v c.len fun i u => SR w Z (c.get i) u := by cases c <;> exact Iff.rfl
theorem CR_rd {w : World} {Z : Nat → Prop} {c : C} {v : Value} : CR w Z c.rd v ↔ CR w Z c v := by cases c <;> exact Iff.rfl
theorem rd_len {c : C} : c.rd.len = c.len := by cases c <;> rfl
theorem rd_get {c : C} {i : Nat} : c.rd.get i = c.get i := by cases c <;> rfl

/-- What is read stays. -/
def Stay (Z : Nat → Prop) (w : World) (Z' : Nat → Prop) (w' : World) : Prop := ∀ b, Z b → Z' b ∧ w'.heap[b]? = w.heap[b]?
theorem Stay.refl (Z : Nat → Prop) (w : World) : Stay Z w Z w := fun _ h => ⟨h, rfl⟩
theorem Stay.trans {Z Z' Z'' : Nat → Prop} {w w' w'' : World} (h : Stay Z w Z' w') (k : Stay Z' w' Z'' w'') : Stay Z w Z'' w'' := fun b hb => ⟨(k b (h b hb).1).1, (k b (h b hb).1).2.trans (h b hb).2⟩
theorem Reads.mono {w w' : World} {Z Z' : Nat → Prop} (h : Stay Z w Z' w') {v : Value} {n : Nat} {p p' : Nat → Value → Prop} (hp : ∀ i u, p i u → p' i u) (hr : Reads w Z v n p) : Reads w' Z' v n p' := by
  obtain ⟨a, cap, rfl, h0, h1, h2⟩ := hr
  refine ⟨a, cap, rfl, h0, fun hn => ?_, fun ad had i hi => ?_⟩
  · obtain ⟨ad, e, s, z⟩ := h1 hn
    exact ⟨ad, e, s, (h _ z).1⟩
  · obtain ⟨ad', e, s, z⟩ := h1 (by omega)
    rw [had] at e
    injection e with e
    subst e
    obtain ⟨u, hu, hpu⟩ := h2 ad had i hi
    exact ⟨u, by rw [cell_same (w := w) (by rw [add_block]; exact (h _ z).2)]; exact hu, hp _ _ hpu⟩
theorem rowsR.mono {w w' : World} {Z Z' : Nat → Prop} (h : Stay Z w Z' w') {xs : List (List Int)} {v : Value} (hr : rowsR w Z xs v) : rowsR w' Z' xs v := Reads.mono h (fun _ _ x => Reads.mono h (fun _ _ y => y) x) hr
theorem CR.mono {w w' : World} {Z Z' : Nat → Prop} (h : Stay Z w Z' w') {c : C} {v : Value} (hr : CR w Z c v) : CR w' Z' c v := by
  cases c with
  | ints k xs => exact Reads.mono h (fun _ _ x => x) hr
  | bools xs => exact Reads.mono h (fun _ _ x => x) hr
  | strs xs => exact Reads.mono h (fun _ _ x => x) hr
  | _ => exact rowsR.mono h hr
theorem SR.mono {w w' : World} {Z Z' : Nat → Prop} (h : Stay Z w Z' w') {s : S0} {v : Value} (hr : SR w Z s v) : SR w' Z' s v := by
  cases s with
  | sl c => exact CR.mono h hr
  | _ => exact hr

/-- A struct behind a pointer that is read. -/
def PtrR (w : World) (Z : Nat → Prop) (cs : List S0) (a : Addr) : Prop :=
  a.spot = none ∧ (0 < cs.length → Z a.block) ∧ ∀ i s, cs[i]? = some s → ∃ u, w.cell? ⟨a.block, a.off + i, none⟩ = some u ∧ SR w Z s u
theorem PtrR.mono {w w' : World} {Z Z' : Nat → Prop} (h : Stay Z w Z' w') {cs : List S0} {a : Addr} (hr : PtrR w Z cs a) : PtrR w' Z' cs a := by
  obtain ⟨h1, h2, h3⟩ := hr
  refine ⟨h1, fun hn => (h _ (h2 hn)).1, fun i s hi => ?_⟩
  obtain ⟨u, hu, hs⟩ := h3 i s hi
  have hz := h2 (by have := (List.getElem?_eq_some_iff.1 hi).1; omega)
  exact ⟨u, by rw [cell_same (w := w) (by exact (h _ hz).2)]; exact hu, hs.mono h⟩
/-- What is bound to a function. -/
def SsR (w : World) (Z : Nat → Prop) : List S0 → List Value → Prop
  | [], [] => True
  | s :: ss, v :: vs => SR w Z s v ∧ SsR w Z ss vs
  | _, _ => False
theorem SsR.mono {w w' : World} {Z Z' : Nat → Prop} (h : Stay Z w Z' w') : ∀ {ss : List S0} {vs : List Value}, SsR w Z ss vs → SsR w' Z' ss vs
  | [], [], _ => trivial
  | _ :: _, _ :: _, k => ⟨k.1.mono h, SsR.mono h k.2⟩
  | [], _ :: _, k => k.elim
  | _ :: _, [], k => k.elim
def FR1 (w : World) (Z : Nat → Prop) (s : Bool × List S0) (v : Value) : Prop := match s with
  | (true, ss) => ∃ vs, v = .agg vs.toArray ∧ SsR w Z ss vs
  | (false, ss) => SsR w Z ss [v]
theorem FR1.mono {w w' : World} {Z Z' : Nat → Prop} (h : Stay Z w Z' w') {s : Bool × List S0} {v : Value} (k : FR1 w Z s v) : FR1 w' Z' s v := by
  obtain ⟨b, ss⟩ := s
  cases b with
  | true => obtain ⟨vs, e, k⟩ := k; exact ⟨vs, e, k.mono h⟩
  | false => exact SsR.mono h k
def FR (w : World) (Z : Nat → Prop) : List (Bool × List S0) → List Value → Prop
  | [], [] => True
  | s :: ss, v :: vs => FR1 w Z s v ∧ FR w Z ss vs
  | _, _ => False
theorem FR.mono {w w' : World} {Z Z' : Nat → Prop} (h : Stay Z w Z' w') : ∀ {ss : List (Bool × List S0)} {vs : List Value}, FR w Z ss vs → FR w' Z' ss vs
  | [], [], _ => trivial
  | _ :: _, _ :: _, k => ⟨k.1.mono h, FR.mono h k.2⟩
  | [], _ :: _, k => k.elim
  | _ :: _, [], k => k.elim

/-! ### A slice that is somebody's own: the blocks 'B' are nobody else's -/
/-- One row that is the slice's own. -/
def OW1 (w : World) (v : Value) (ys : List Int) (B : Nat → Prop) : Prop :=
  (v = .slice none 0 0 ∧ ys.length = 0) ∨
  ∃ b off cap l, v = .slice (some ⟨b, off, none⟩) ys.length cap ∧ row w b = some l ∧ off + cap ≤ l.length ∧ ys.length ≤ cap ∧ B b ∧ ∀ i, i < ys.length → l[off + i]? = some (.int .i64 (ys.getD i 0))
/-- The rows at the places that 'H' leaves. -/
structure Rows (w : World) (xs : List (List Int)) (H : Nat → Prop) (l : List Value) (off b : Nat) (B : Nat → Prop) (inn : Nat → Value) : Prop where
  cell : ∀ i x, xs[i]? = some x → ∃ u, l[off + i]? = some u ∧ (¬ H i → u = inn i)
  own : ∀ i x, xs[i]? = some x → ¬ H i → OW1 w (inn i) x fun b' => B b' ∧ b' ≠ b
  dis : ∀ i j x y b', xs[i]? = some x → xs[j]? = some y → ¬ H i → ¬ H j → (inn i).ownBlock = some b' → (inn j).ownBlock = some b' → i = j
def Cells (w : World) (Z : Nat → Prop) (c : C) (l : List Value) (off b : Nat) (B : Nat → Prop) (inn : Nat → Value) : Prop := match c with
  | .orows xs => Rows w xs (fun _ => False) l off b B inn
  | .hrows xs j => Rows w xs (fun i => i = j) l off b B inn
  | c => ∀ i, i < c.len → ∃ u, l[off + i]? = some u ∧ SR w Z (c.get i) u
def OW (w : World) (Z : Nat → Prop) (v : Value) (c : C) (B : Nat → Prop) (inn : Nat → Value) : Prop :=
  (v = .slice none 0 0 ∧ c.len = 0) ∨
  ∃ b off cap l, v = .slice (some ⟨b, off, none⟩) c.len cap ∧ row w b = some l ∧ off + cap ≤ l.length ∧ c.len ≤ cap ∧ B b ∧ Cells w Z c l off b B inn
theorem cells_plain {w : World} {Z : Nat → Prop} {c : C} {l : List Value} {off b : Nat} {B : Nat → Prop} {inn : Nat → Value} (hc : c.plain = true) : Cells w Z c l off b B inn ↔ ∀ i, i < c.len → ∃ u, l[off + i]? = some u ∧ SR w Z (c.get i) u := by
  cases c <;> first | exact Iff.rfl | cases hc
theorem OW1.mono {w w' : World} {v : Value} {ys : List Int} {B B' : Nat → Prop} (h : OW1 w v ys B) (hB : ∀ b, v.ownBlock = some b → B b → B' b) (hb : ∀ b, v.ownBlock = some b → B b → w'.heap[b]? = w.heap[b]?) : OW1 w' v ys B' := by
  rcases h with h | ⟨b, off, cap, l, rfl, h1, h2, h3, h4, h5⟩
  · exact .inl h
  · exact .inr ⟨b, off, cap, l, rfl, by rw [row_same (hb b rfl h4)]; exact h1, h2, h3, hB b rfl h4, h5⟩
theorem Rows.mono {w w' : World} {xs : List (List Int)} {H : Nat → Prop} {l : List Value} {off b : Nat} {B B' : Nat → Prop} {inn : Nat → Value} (h : Rows w xs H l off b B inn) (hB : ∀ b, B b → B' b) (hb : ∀ b, B b → w'.heap[b]? = w.heap[b]?) : Rows w' xs H l off b B' inn :=
  ⟨h.cell, fun i x hi hh => (h.own i x hi hh).mono (fun b' _ q => ⟨hB b' q.1, q.2⟩) (fun b' _ q => hb b' q.1), h.dis⟩
theorem Cells.mono {w w' : World} {Z Z' : Nat → Prop} (h : Stay Z w Z' w') {c : C} {l : List Value} {off b : Nat} {B B' : Nat → Prop} {inn : Nat → Value} (k : Cells w Z c l off b B inn) (hB : ∀ b, B b → B' b) (hb : ∀ b, B b → w'.heap[b]? = w.heap[b]?) : Cells w' Z' c l off b B' inn := by
  have key : (∀ i, i < c.len → ∃ u, l[off + i]? = some u ∧ SR w Z (c.get i) u) → ∀ i, i < c.len → ∃ u, l[off + i]? = some u ∧ SR w' Z' (c.get i) u := fun q i hi => by
    obtain ⟨u, hu, hs⟩ := q i hi
    exact ⟨u, hu, hs.mono h⟩
  cases c with
  | orows xs => exact Rows.mono k hB hb
  | hrows xs j => exact Rows.mono k hB hb
  | _ => exact key k
theorem OW.mono {w w' : World} {Z Z' : Nat → Prop} (h : Stay Z w Z' w') {v : Value} {c : C} {B B' : Nat → Prop} {inn : Nat → Value} (hB : ∀ b, B b → B' b) (hb : ∀ b, B b → w'.heap[b]? = w.heap[b]?) (ho : OW w Z v c B inn) : OW w' Z' v c B' inn := by
  rcases ho with ho | ⟨b, off, cap, l, rfl, h1, h2, h3, h4, h5⟩
  · exact .inl ho
  · exact .inr ⟨b, off, cap, l, rfl, by rw [row_same (hb b h4)]; exact h1, h2, h3, hB b h4, h5.mono h hB hb⟩
theorem OW.len_eq {w w' : World} {Z Z' : Nat → Prop} {v : Value} {c c' : C} {B B' : Nat → Prop} {inn inn' : Nat → Value} (h : OW w Z v c B inn) (h' : OW w' Z' v c' B' inn') : c.len = c'.len := by
  rcases h with ⟨rfl, h⟩ | ⟨_, _, _, _, rfl, _⟩
  · rcases h' with ⟨_, h'⟩ | ⟨_, _, _, _, e, _⟩
    · rw [h, h']
    · cases e
  · rcases h' with ⟨e, _⟩ | ⟨_, _, _, _, e, _⟩
    · cases e
    · injection e
/-- A row, written no more, is read. -/
theorem OW1.reads {w : World} {Z : Nat → Prop} {v : Value} {ys : List Int} {B : Nat → Prop} (h : OW1 w v ys B) (hB : ∀ b, v.ownBlock = some b → B b → Z b) : CR w Z (.ints .i64 ys) v := by
  rcases h with ⟨rfl, h⟩ | ⟨b, off, cap, l, rfl, h1, h2, h3, h4, h5⟩
  · exact ⟨none, 0, by rw [h], by omega, fun hn => absurd hn (by omega), fun ad h => by cases h⟩
  · refine ⟨_, cap, rfl, h3, fun _ => ⟨_, rfl, rfl, hB b rfl h4⟩, fun ad h i hi => ?_⟩
    injection h with h
    subst h
    exact ⟨_, by rw [add_none, row_cell h1]; exact h5 i hi, rfl⟩
/-- Written no more, it is read. -/
theorem OW.reads {w : World} {Z Z' : Nat → Prop} {v : Value} {c : C} {B : Nat → Prop} {inn : Nat → Value} (ho : OW w Z v c B inn) (hc : c.whole = true) (hz : ∀ b, Z b → Z' b) (hB : ∀ b, B b → Z' b) : CR w Z' c v := by
  have hs : Stay Z w Z' w := fun b hb => ⟨hz b hb, rfl⟩
  rw [CR_iff]
  rcases ho with ⟨rfl, h0⟩ | ⟨b, off, cap, l, rfl, h1, h2, h3, h4, h5⟩
  · exact ⟨none, 0, by rw [h0], by omega, fun hn => absurd hn (by omega), fun ad h => by cases h⟩
  · refine ⟨_, cap, rfl, h3, fun _ => ⟨_, rfl, rfl, hB b h4⟩, fun ad h i hi => ?_⟩
    injection h with h
    subst h
    have plain : (∃ u, l[off + i]? = some u ∧ SR w Z (c.get i) u) → ∃ u, w.cell? ((⟨b, off, none⟩ : Addr).add i) = some u ∧ SR w Z' (c.get i) u := fun ⟨u, hu, hsr⟩ => ⟨u, by rw [add_none, row_cell h1]; exact hu, hsr.mono hs⟩
    cases c with
    | orows xs =>
      have h5 : Rows w xs (fun _ => False) l off b B inn := h5
      have hi' : i < xs.length := hi
      have hx : xs[i]? = some xs[i] := List.getElem?_eq_getElem hi'
      obtain ⟨u, hu, hin⟩ := h5.cell i _ hx
      refine ⟨u, by rw [add_none, row_cell h1]; exact hu, ?_⟩
      rw [hin (fun h => h)]
      have hg : (C.orows xs).get i = .sl (.ints .i64 xs[i]) := by simp [C.get, hi']
      show SR w Z' ((C.orows xs).get i) (inn i)
      rw [hg]
      exact (h5.own i _ hx (fun h => h)).reads fun b' _ q => hB b' q.1
    | hrows xs j => cases hc
    | _ => exact plain (h5 i hi)

/-! ### The running function's values -/
/-- 'fp': the blocks that are a slice's own; 'inn': its rows' values; 'sus': slices that wait. -/
structure Gh where
  own : Nat → Option (Value × C)
  tab : Nat → Option (Nat × List Value)
  Z : Nat → Prop
  fp : Nat → Nat → Prop
  inn : Nat → Nat → Value
  sus : Nat → Option (Value × C × Nat)

def capsR (g : Gh) (caps bs : List Nat) : Prop := ∃ vss : List (List Value), caps.map g.tab = (bs.zip vss).map some ∧ vss.length = bs.length
def XR (g : Gh) (w : World) : X → Value → Prop
  | .int k n, v => v = .int k n
  | .bool b, v => v = .bool b
  | .str s, v => v = .string s
  | .nil c, v => v = .slice none 0 0 ∧ c.len = 0
  | .ro c, v => CR w g.Z c v
  | .own n c, v => g.own n = some (v, c)
  | .bw n c i, v => ∃ v' xs ys, g.own n = some (v', .orows xs) ∧ xs[i]? = some ys ∧ c = .ints .i64 ys ∧ v = g.inn n i
  | .sus n m c, v => g.sus n = some (v, c, m)
  | .el n c i, v => ∃ a len cap, g.own n = some (.slice (some a) len cap, c) ∧ i < c.len ∧ v = .pointer (some (a.add i))
  | .roel c i, v => ∃ a len cap, CR w g.Z c (.slice (some a) len cap) ∧ i < c.len ∧ v = .pointer (some (a.add i))
  | .ptr n o, v => ∃ b vs, g.tab n = some (b, vs) ∧ v = .pointer (some ⟨b, o, none⟩)
  | .rop b cs o, v => (b = true → ∃ a, PtrR w g.Z cs a ∧ v = .pointer (some ⟨a.block, a.off + o, none⟩)) ∧ (b = false → v = .pointer none)
  | .fn f first caps, v => ∃ bs fvs : List _, capsR g caps bs ∧ FR w g.Z first fvs ∧ v = .func (.func f) fvs.toArray (bs.map fun b => Value.pointer (some ⟨b, 0, none⟩)).toArray
  | .nilp, v => v = .pointer none
  | .undef, _ => True
def XsR (g : Gh) (w : World) : List X → List Value → Prop
  | [], [] => True
  | x :: xs, v :: vs => XR g w x v ∧ XsR g w xs vs
  | _, _ => False
def UR (g : Gh) (w : World) : U → Value → Prop
  | .x y, v => XR g w y v
  | .agg xs, v => ∃ vs, v = .agg vs.toArray ∧ XsR g w xs vs
def UsR (g : Gh) (w : World) : List U → List Value → Prop
  | [], [] => True
  | x :: xs, v :: vs => UR g w x v ∧ UsR g w xs vs
  | _, _ => False
def VR (g : Gh) (w : World) : V → Value → Prop
  | .u y, v => UR g w y v
  | .tup us, v => ∃ vs, v = .tuple vs.toArray ∧ UsR g w us vs

theorem XsR.length {g : Gh} {w : World} : ∀ {xs : List X} {vs : List Value}, XsR g w xs vs → xs.length = vs.length
  | [], [], _ => rfl
  | _ :: _, _ :: _, h => by simp [XsR.length h.2]
  | [], _ :: _, h => h.elim
  | _ :: _, [], h => h.elim
theorem XsR.get {g : Gh} {w : World} : ∀ {xs : List X} {vs : List Value}, XsR g w xs vs → ∀ {i : Nat} {x : X}, xs[i]? = some x → ∃ v, vs[i]? = some v ∧ XR g w x v
  | [], [], _, i, x, h => by simp at h
  | _ :: _, v :: _, h, 0, x, hx => by simp at hx; subst hx; exact ⟨v, rfl, h.1⟩
  | _ :: _, _ :: _, h, i + 1, x, hx => by simpa using XsR.get h.2 (by simpa using hx)
  | [], _ :: _, h, _, _, _ => h.elim
  | _ :: _, [], h, _, _, _ => h.elim
theorem XsR.append {g : Gh} {w : World} : ∀ {xs ys : List X} {vs us : List Value}, XsR g w xs vs → XsR g w ys us → XsR g w (xs ++ ys) (vs ++ us)
  | [], _, [], _, _, h => h
  | _ :: _, _, _ :: _, _, h, k => ⟨h.1, XsR.append h.2 k⟩
  | [], _, _ :: _, _, h, _ => h.elim
  | _ :: _, _, [], _, h, _ => h.elim
theorem XsR.take {g : Gh} {w : World} : ∀ {xs : List X} {vs : List Value} (n : Nat), XsR g w xs vs → XsR g w (xs.take n) (vs.take n)
  | [], [], n, _ => by simp [XsR]
  | _ :: _, _ :: _, 0, _ => by simp [XsR]
  | _ :: _, _ :: _, n + 1, h => ⟨h.1, XsR.take n h.2⟩
  | [], _ :: _, _, h => h.elim
  | _ :: _, [], _, h => h.elim
theorem XsR.drop {g : Gh} {w : World} : ∀ {xs : List X} {vs : List Value} (n : Nat), XsR g w xs vs → XsR g w (xs.drop n) (vs.drop n)
  | [], [], n, _ => by simp [XsR]
  | _ :: _, _ :: _, 0, h => h
  | _ :: _, _ :: _, n + 1, h => XsR.drop n h.2
  | [], _ :: _, _, h => h.elim
  | _ :: _, [], _, h => h.elim

/-- A change of a cell's words that keeps what they say. -/
structure Tr (g : Gh) (w : World) (g' : Gh) (w' : World) (f : X → X) : Prop where
  tr : ∀ x v, XR g w x v → XR g' w' (f x) v
theorem Tr.xs {g g' : Gh} {w w' : World} {f : X → X} (h : Tr g w g' w' f) : ∀ {xs : List X} {vs : List Value}, XsR g w xs vs → XsR g' w' (xs.map f) vs
  | [], [], _ => trivial
  | _ :: _, _ :: _, k => ⟨h.tr _ _ k.1, h.xs k.2⟩
  | [], _ :: _, k => k.elim
  | _ :: _, [], k => k.elim
theorem Tr.u {g g' : Gh} {w w' : World} {f : X → X} (h : Tr g w g' w' f) {u : U} {v : Value} (k : UR g w u v) : UR g' w' (u.mp f) v := by
  cases u with
  | x y => exact h.tr _ _ k
  | agg xs => obtain ⟨vs, rfl, k⟩ := k; exact ⟨vs, rfl, h.xs k⟩
theorem Tr.us {g g' : Gh} {w w' : World} {f : X → X} (h : Tr g w g' w' f) : ∀ {xs : List U} {vs : List Value}, UsR g w xs vs → UsR g' w' (xs.map (U.mp f)) vs
  | [], [], _ => trivial
  | _ :: _, _ :: _, k => ⟨h.u k.1, h.us k.2⟩
  | [], _ :: _, k => k.elim
  | _ :: _, [], k => k.elim
theorem Tr.v {g g' : Gh} {w w' : World} {f : X → X} (h : Tr g w g' w' f) {x : V} {v : Value} (k : VR g w x v) : VR g' w' (x.mp f) v := by
  cases x with
  | u y => exact h.u k
  | tup us => obtain ⟨vs, rfl, k⟩ := k; exact ⟨vs, rfl, h.us k⟩


/-- What the names beside those of 'p' name stays named. -/
structure Gl (p : Nat → Bool) (g g' : Gh) : Prop where
  own : ∀ n x, p n = false → g.own n = some x → g'.own n = some x
  inn : ∀ n x, p n = false → g.own n = some x → g'.inn n = g.inn n
  tab : ∀ n b vs, p n = false → g.tab n = some (b, vs) → ∃ vs', g'.tab n = some (b, vs')
  sus : ∀ n v c m, p n = false → p m = false → g.sus n = some (v, c, m) → g'.sus n = some (v, c, m)
theorem Gl.refl (p : Nat → Bool) (g : Gh) : Gl p g g := ⟨fun _ _ _ h => h, fun _ _ _ _ => rfl, fun _ b vs _ h => ⟨vs, h⟩, fun _ _ _ _ _ _ h => h⟩
theorem caps_tr {g g' : Gh} : ∀ {caps bs : List Nat}, (∀ n ∈ caps, ∀ b vs, g.tab n = some (b, vs) → ∃ vs', g'.tab n = some (b, vs')) → capsR g caps bs → capsR g' caps bs
  | [], bs, _, h => h
  | n :: caps, bs, ht, h => by
    obtain ⟨vss, h1, h2⟩ := h
    cases bs with
    | nil => simp at h1
    | cons b bs =>
      cases vss with
      | nil => simp at h2
      | cons vs vss =>
        simp only [List.map_cons, List.zip_cons_cons] at h1
        injection h1 with h1 h1'
        obtain ⟨vs', h3⟩ := ht n (List.mem_cons_self ..) _ _ h1
        obtain ⟨vss', h4, h5⟩ := caps_tr (bs := bs) (fun m hm => ht m (List.mem_cons_of_mem _ hm)) ⟨vss, h1', by simpa using h2⟩
        exact ⟨vs' :: vss', by simp [h3, h4], by simp [h5]⟩
/-- Cells that bear no name of a slice. -/
theorem tr_base {g g' : Gh} {w w' : World} (hz : Stay g.Z w g'.Z w') {x : X} {v : Value} (h : XR g w x v) (ht : ∀ n b vs, (∃ o, x = .ptr n o) ∨ (∃ f a cs, x = .fn f a cs ∧ n ∈ cs) → g.tab n = some (b, vs) → ∃ vs', g'.tab n = some (b, vs')) (hx : match x with | .own _ _ => False | .bw _ _ _ => False | .sus _ _ _ => False | .el _ _ _ => False | _ => True) : XR g' w' x v := by
  cases x with
  | ro c => exact CR.mono hz h
  | roel c i => obtain ⟨a, len, cap, h1, h2, h3⟩ := h; exact ⟨a, len, cap, CR.mono hz h1, h2, h3⟩
  | ptr n o => obtain ⟨b, vs, h1, h2⟩ := h; obtain ⟨vs', h3⟩ := ht n _ _ (.inl ⟨o, rfl⟩) h1; exact ⟨b, vs', h3, h2⟩
  | rop b cs o => exact ⟨fun hb => by obtain ⟨a, h1, h2⟩ := h.1 hb; exact ⟨a, h1.mono hz, h2⟩, h.2⟩
  | fn f first caps =>
    obtain ⟨bs, fvs, h1, h2, h3⟩ := h
    exact ⟨bs, fvs, caps_tr (fun n hn b vs => ht n b vs (.inr ⟨f, first, caps, rfl, hn⟩)) h1, h2.mono hz, h3⟩
  | own => exact hx.elim
  | bw => exact hx.elim
  | sus => exact hx.elim
  | el => exact hx.elim
  | _ => exact h
theorem tr_own {g g' : Gh} {p : Nat → Bool} (hg : Gl p g g') {w w' : World} {x : X} {v : Value} (h : XR g w x v) (hx : match x with | .own n _ => p n = false | .bw n _ _ => p n = false | .sus n m _ => p n = false ∧ p m = false | .el n _ _ => p n = false | _ => False) : XR g' w' x v := by
  cases x with
  | own n c => exact hg.own _ _ hx h
  | bw n c i =>
    obtain ⟨v', xs, ys, h1, h2, h3, h4⟩ := h
    exact ⟨v', xs, ys, hg.own _ _ hx h1, h2, h3, by rw [hg.inn _ _ hx h1]; exact h4⟩
  | sus n m c => exact hg.sus _ _ _ _ hx.1 hx.2 h
  | el n c i => obtain ⟨a, len, cap, h1, h2, h3⟩ := h; exact ⟨a, len, cap, hg.own _ _ hx h1, h2, h3⟩
  | _ => exact hx.elim
/-- Names dropped. -/
theorem tr_clr {g g' : Gh} {w w' : World} (p : Nat → Bool) (hz : Stay g.Z w g'.Z w') (hg : Gl p g g') : Tr g w g' w' (X.clr p) := by
  refine ⟨fun x v h => ?_⟩
  cases x with
  | own n c =>
    show XR g' w' (bif p n then _ else _) v
    cases e : p n
    · exact tr_own hg h e
    · trivial
  | bw n c i =>
    show XR g' w' (bif p n then _ else _) v
    cases e : p n
    · exact tr_own hg h e
    · trivial
  | sus n m c =>
    show XR g' w' (bif p n || p m then _ else _) v
    cases e : p n <;> cases e' : p m <;> first | trivial | exact tr_own hg h ⟨e, e'⟩
  | el n c i =>
    show XR g' w' (bif p n then _ else _) v
    cases e : p n
    · exact tr_own hg h e
    · trivial
  | ptr n o =>
    show XR g' w' (bif p n then _ else _) v
    cases e : p n
    · exact tr_base hz h (fun m b vs hm => by
        rcases hm with ⟨_, e'⟩ | ⟨_, _, _, e', _⟩
        · injection e' with e' _; subst e'; exact hg.tab _ _ _ e
        · cases e') trivial
    · trivial
  | fn f first caps =>
    show XR g' w' (bif caps.any p then _ else _) v
    cases e : caps.any p
    · exact tr_base hz h (fun m b vs hm => by
        rcases hm with ⟨_, e'⟩ | ⟨_, _, _, e', hm⟩
        · cases e'
        · injection e' with _ _ e'
          subst e'
          exact hg.tab _ _ _ (by simpa using List.any_eq_false.1 e m hm)) trivial
    · trivial
  | ro c => exact CR.mono hz h
  | roel c i => obtain ⟨a, len, cap, h1, h2, h3⟩ := h; exact ⟨a, len, cap, CR.mono hz h1, h2, h3⟩
  | rop b cs o => exact ⟨fun hb => by obtain ⟨a, h1, h2⟩ := h.1 hb; exact ⟨a, h1.mono hz, h2⟩, h.2⟩
  | _ => exact h
theorem tr_drop {g g' : Gh} {w w' : World} (p : Nat → Bool) (hz : Stay g.Z w g'.Z w') (hg : Gl p g g') (ht : ∀ n b vs, g.tab n = some (b, vs) → ∃ vs', g'.tab n = some (b, vs')) : Tr g w g' w' (X.drop p) := by
  refine ⟨fun x v h => ?_⟩
  cases x with
  | own n c =>
    show XR g' w' (bif p n then _ else _) v
    cases e : p n
    · exact tr_own hg h e
    · trivial
  | bw n c i =>
    show XR g' w' (bif p n then _ else _) v
    cases e : p n
    · exact tr_own hg h e
    · trivial
  | sus n m c =>
    show XR g' w' (bif p n || p m then _ else _) v
    cases e : p n <;> cases e' : p m <;> first | trivial | exact tr_own hg h ⟨e, e'⟩
  | el n c i =>
    show XR g' w' (bif p n then _ else _) v
    cases e : p n
    · exact tr_own hg h e
    · trivial
  | ro c => exact CR.mono hz h
  | roel c i => obtain ⟨a, len, cap, h1, h2, h3⟩ := h; exact ⟨a, len, cap, CR.mono hz h1, h2, h3⟩
  | rop b cs o => exact ⟨fun hb => by obtain ⟨a, h1, h2⟩ := h.1 hb; exact ⟨a, h1.mono hz, h2⟩, h.2⟩
  | ptr m o => exact tr_base hz h (fun m b vs _ => ht m b vs) trivial
  | fn f first caps => exact tr_base hz h (fun m b vs _ => ht m b vs) trivial
  | _ => exact h
theorem clr_none : X.clr (fun _ => false) = id := by
  funext x
  cases x <;> first | rfl | skip
  rename_i f first caps
  show (bif caps.any (fun _ => false) then _ else _) = _
  have : caps.any (fun _ => false) = false := by simp
  rw [this]
  rfl
theorem tr_id {g g' : Gh} {w w' : World} (hz : Stay g.Z w g'.Z w') (hg : Gl (fun _ => false) g g') : Tr g w g' w' id := by
  rw [← clr_none]; exact tr_clr _ hz hg

theorem map_id_u (u : U) : u.mp id = u := by cases u <;> simp [U.mp]
theorem map_id_v (v : V) : v.mp id = v := by
  cases v with
  | u y => simp [V.mp, map_id_u]
  | tup us =>
    simp only [V.mp]
    congr 1
    induction us with
    | nil => rfl
    | cons x xs ih => simp [map_id_u, ih]

/-- What a slice holds behind a change. -/
def Sb.on : Sb → C → C
  | .setc c', _ => c'
  | .hole j, c => c.out j
  | .row j ys, c => c.setRow j ys
  | .ro, c => c
def Sb.isRo : Sb → Bool
  | .ro => true
  | _ => false
theorem out_len {c : C} {j : Nat} : (c.out j).len = c.len := by cases c <;> rfl
theorem setRow_len {c : C} {j : Nat} {ys : List Int} : (c.setRow j ys).len = c.len := by cases c <;> simp [C.setRow, C.len]
/-- A slice holds something else. -/
theorem tr_set {g g' : Gh} {w w' : World} (n : Nat) (s : Sb) (hs : s.isRo = false) (hz : Stay g.Z w g'.Z w') (hg : Gl (fun m => m == n) g g')
    (hn : ∀ v c, g.own n = some (v, c) → g'.own n = some (v, s.on c) ∧ c.len = (s.on c).len) (ht : ∀ n b vs, g.tab n = some (b, vs) → ∃ vs', g'.tab n = some (b, vs')) : Tr g w g' w' (X.sub n s) := by
  refine ⟨fun x v h => ?_⟩
  cases x with
  | own m c =>
    show XR g' w' (bif m == n then _ else _) v
    cases e : m == n
    · exact tr_own hg h e
    · obtain rfl : m = n := by simpa using e
      have := (hn _ _ h).1
      cases s <;> first | exact this | cases hs
  | el m c i =>
    show XR g' w' (bif m == n then _ else _) v
    cases e : m == n
    · exact tr_own hg h e
    · obtain rfl : m = n := by simpa using e
      obtain ⟨a, len, cap, h1, h2, h3⟩ := h
      have := hn _ _ h1
      have h4 : i < (s.on c).len := by rw [← this.2]; exact h2
      cases s <;> first | exact ⟨a, len, cap, this.1, h4, h3⟩ | cases hs
  | bw m c i =>
    show XR g' w' (bif m == n then _ else _) v
    cases e : m == n
    · exact tr_own hg h e
    · cases s <;> first | trivial | cases hs
  | sus k m c =>
    show XR g' w' (bif k == n || m == n then _ else _) v
    cases e : k == n <;> cases e' : m == n <;> first | trivial | exact tr_own hg h ⟨e, e'⟩
  | ro c => exact CR.mono hz h
  | roel c i => obtain ⟨a, len, cap, h1, h2, h3⟩ := h; exact ⟨a, len, cap, CR.mono hz h1, h2, h3⟩
  | rop b cs o => exact ⟨fun hb => by obtain ⟨a, h1, h2⟩ := h.1 hb; exact ⟨a, h1.mono hz, h2⟩, h.2⟩
  | ptr m o => exact tr_base hz h (fun m b vs _ => ht m b vs) trivial
  | fn f first caps => exact tr_base hz h (fun m b vs _ => ht m b vs) trivial
  | _ => exact h

/-- A slice is written no more. -/
theorem tr_ro {g g' : Gh} {w w' : World} (n : Nat) (hz : Stay g.Z w g'.Z w') (hg : Gl (fun m => m == n) g g') (ht : ∀ n b vs, g.tab n = some (b, vs) → ∃ vs', g'.tab n = some (b, vs'))
    (hn : ∀ v c, g.own n = some (v, c) → c.whole = true → CR w' g'.Z c v) (hi : ∀ v xs i ys, g.own n = some (v, .orows xs) → xs[i]? = some ys → CR w' g'.Z (.ints .i64 ys) (g.inn n i)) : Tr g w g' w' (X.sub n .ro) := by
  refine ⟨fun x v h => ?_⟩
  cases x with
  | own m c =>
    show XR g' w' (bif m == n then _ else _) v
    cases e : m == n
    · exact tr_own hg h e
    · obtain rfl : m = n := by simpa using e
      show XR g' w' (bif c.whole then _ else _) v
      cases ew : c.whole
      · trivial
      · exact CR_rd.2 (hn _ _ h ew)
  | el m c i =>
    show XR g' w' (bif m == n then _ else _) v
    cases e : m == n
    · exact tr_own hg h e
    · obtain rfl : m = n := by simpa using e
      obtain ⟨a, len, cap, h1, h2, h3⟩ := h
      show XR g' w' (bif c.whole then _ else _) v
      cases ew : c.whole
      · trivial
      · exact ⟨a, len, cap, CR_rd.2 (hn _ _ h1 ew), by rw [rd_len]; exact h2, h3⟩
  | bw m c i =>
    show XR g' w' (bif m == n then _ else _) v
    cases e : m == n
    · exact tr_own hg h e
    · obtain rfl : m = n := by simpa using e
      obtain ⟨v', xs, ys, h1, h2, rfl, rfl⟩ := h
      exact hi _ _ _ _ h1 h2
  | sus k m c =>
    show XR g' w' (bif k == n || m == n then _ else _) v
    cases e : k == n <;> cases e' : m == n <;> first | trivial | exact tr_own hg h ⟨e, e'⟩
  | ro c => exact CR.mono hz h
  | roel c i => obtain ⟨a, len, cap, h1, h2, h3⟩ := h; exact ⟨a, len, cap, CR.mono hz h1, h2, h3⟩
  | rop b cs o => exact ⟨fun hb => by obtain ⟨a, h1, h2⟩ := h.1 hb; exact ⟨a, h1.mono hz, h2⟩, h.2⟩
  | ptr m o => exact tr_base hz h (fun m b vs _ => ht m b vs) trivial
  | fn f first caps => exact tr_base hz h (fun m b vs _ => ht m b vs) trivial
  | _ => exact h
/-- A slice waits. -/
theorem tr_fork {g g' : Gh} {w w' : World} (n m : Nat) (hz : Stay g.Z w g'.Z w') (hg : Gl (fun k => k == n) g g') (ht : ∀ n b vs, g.tab n = some (b, vs) → ∃ vs', g'.tab n = some (b, vs'))
    (hn : ∀ v c, g.own n = some (v, c) → g'.sus n = some (v, c, m)) : Tr g w g' w' (X.fork n m) := by
  refine ⟨fun x v h => ?_⟩
  cases x with
  | own k c =>
    show XR g' w' (bif k == n then _ else _) v
    cases e : k == n
    · exact tr_own hg h e
    · obtain rfl : k = n := by simpa using e
      exact hn _ _ h
  | el k c i =>
    show XR g' w' (bif k == n then _ else _) v
    cases e : k == n
    · exact tr_own hg h e
    · trivial
  | bw k c i =>
    show XR g' w' (bif k == n then _ else _) v
    cases e : k == n
    · exact tr_own hg h e
    · trivial
  | sus k j c =>
    show XR g' w' (bif k == n || j == n then _ else _) v
    cases e : k == n <;> cases e' : j == n <;> first | trivial | exact tr_own hg h ⟨e, e'⟩
  | ro c => exact CR.mono hz h
  | roel c i => obtain ⟨a, len, cap, h1, h2, h3⟩ := h; exact ⟨a, len, cap, CR.mono hz h1, h2, h3⟩
  | rop b cs o => exact ⟨fun hb => by obtain ⟨a, h1, h2⟩ := h.1 hb; exact ⟨a, h1.mono hz, h2⟩, h.2⟩
  | ptr m o => exact tr_base hz h (fun m b vs _ => ht m b vs) trivial
  | fn f first caps => exact tr_base hz h (fun m b vs _ => ht m b vs) trivial
  | _ => exact h
/-- A slice waits no more; the one that it waited for is gone. -/
theorem tr_back {g g' : Gh} {w w' : World} (n m : Nat) (hnm : n ≠ m) (hsn : ∀ k v c, g.sus k ≠ some (v, c, n)) (hz : Stay g.Z w g'.Z w') (hg : Gl (fun k => k == m || k == n) g g') (ht : ∀ n b vs, (n == m) = false → g.tab n = some (b, vs) → ∃ vs', g'.tab n = some (b, vs')) (ho : g.own n = none)
    (hn : ∀ v c j, g.sus n = some (v, c, j) → g'.own n = some (v, c)) : Tr g w g' w' fun x => X.clr (fun k => k == m) (X.back n x) := by
  have e0 : (n == m) = false := by simpa using hnm
  refine ⟨fun x v h => ?_⟩
  cases x with
  | own k c =>
    show XR g' w' (bif k == m then _ else _) v
    cases e : k == m
    · cases e' : k == n
      · exact tr_own hg h (by simp [e, e'])
      · obtain rfl : k = n := by simpa using e'
        have h : g.own k = some (v, c) := h
        rw [ho] at h; cases h
    · trivial
  | el k c i =>
    show XR g' w' (bif k == m then _ else _) v
    cases e : k == m
    · cases e' : k == n
      · exact tr_own hg h (by simp [e, e'])
      · obtain rfl : k = n := by simpa using e'
        obtain ⟨_, _, _, h, _⟩ := h
        rw [ho] at h; cases h
    · trivial
  | bw k c i =>
    show XR g' w' (bif k == m then _ else _) v
    cases e : k == m
    · cases e' : k == n
      · exact tr_own hg h (by simp [e, e'])
      · obtain rfl : k = n := by simpa using e'
        obtain ⟨_, _, _, h, _⟩ := h
        rw [ho] at h; cases h
    · trivial
  | sus k j c =>
    show XR g' w' (X.clr _ (bif k == n then _ else _)) v
    cases e : k == n
    · show XR g' w' (bif k == m || j == m then _ else _) v
      cases e1 : k == m <;> cases e2 : j == m <;> try trivial
      cases e3 : j == n
      · exact tr_own hg h ⟨by simp [e, e1], by simp [e2, e3]⟩
      · have h : g.sus k = some (v, c, j) := h
        obtain rfl : j = n := by simpa using e3
        exact absurd h (hsn _ _ _)
    · obtain rfl : k = n := by simpa using e
      show XR g' w' (bif k == m then _ else _) v
      rw [e0]
      exact hn _ _ _ h
  | ro c => exact CR.mono hz h
  | roel c i => obtain ⟨a, len, cap, h1, h2, h3⟩ := h; exact ⟨a, len, cap, CR.mono hz h1, h2, h3⟩
  | rop b cs o => exact ⟨fun hb => by obtain ⟨a, h1, h2⟩ := h.1 hb; exact ⟨a, h1.mono hz, h2⟩, h.2⟩
  | ptr k o =>
    show XR g' w' (bif k == m then _ else _) v
    cases e : k == m
    · exact tr_base hz h (fun j b vs hj => by
        rcases hj with ⟨_, e'⟩ | ⟨_, _, _, e', _⟩
        · injection e' with e' _; subst e'; exact ht _ _ _ e
        · cases e') trivial
    · trivial
  | fn f first caps =>
    show XR g' w' (bif caps.any _ then _ else _) v
    cases e : caps.any fun k => k == m
    · exact tr_base hz h (fun j b vs hj => by
        rcases hj with ⟨_, e'⟩ | ⟨_, _, _, e', hm⟩
        · cases e'
        · injection e' with _ _ e'
          subst e'
          exact ht _ _ _ (by simpa using List.any_eq_false.1 e j hm)) trivial
    · trivial
  | _ => exact h
end Go.BV

/-
  The state against the memory, and the changes that keep the two together.
-/
namespace Go.BV

/-- What is fixed while a function runs. -/
structure Fx where
  w0 : World
  M : Nat → Prop
  Z0 : Nat → Prop
  mv : Nat → Value
  tv : Nat → Option Nat
  Mlt : ∀ b, M b → b < w0.heap.size

/-- The blocks that a name leads to: 2 n for a slice, 2 n + 1 for a variable. -/
def Bk (g : Gh) (i b : Nat) : Prop := (∃ n x, i = 2 * n ∧ g.own n = some x ∧ g.fp n b) ∨ (∃ n vs, i = 2 * n + 1 ∧ g.tab n = some (b, vs))
/-- A slice that waits still holds what it held. -/
structure Fk (w : World) (Z B : Nat → Prop) (v : Value) (c : C) (vm : Value) (cm : C) : Prop where
  flat : c.flat = true
  plain : c.plain = true
  own : OW w Z v c B fun _ => undef
  same : ∀ b, v.ownBlock = some b → vm.ownBlock = some b → (∃ off cap, v = .slice (some ⟨b, off, none⟩) c.len cap ∧ vm = .slice (some ⟨b, off, none⟩) cm.len cap) ∧ c.len ≤ cm.len ∧ cm.plain = true ∧ ∀ i, i < c.len → c.get i = cm.get i

structure WG (F : Fx) (g : Gh) (w : World) : Prop where
  os : w.os = F.w0.os
  tape : w.tape = F.w0.tape
  output : w.output = F.w0.output
  size : F.w0.heap.size ≤ w.heap.size
  frame : ∀ b, b < F.w0.heap.size → ¬ F.M b → w.heap[b]? = F.w0.heap[b]?
  Zok : ∀ b, g.Z b → b < w.heap.size ∧ ¬ F.M b ∧ (F.Z0 b ∨ F.w0.heap.size ≤ b)
  Zin : ∀ b, F.Z0 b → g.Z b
  own : ∀ n v c, g.own n = some (v, c) → OW w g.Z v c (g.fp n) (g.inn n)
  tab : ∀ n b vs, g.tab n = some (b, vs) → row w b = some vs
  bk : ∀ i b, Bk g i b → b < w.heap.size ∧ ¬ g.Z b ∧ (F.w0.heap.size ≤ b ∨ (F.M b ∧ isLow (i / 2) = true))
  bkD : ∀ i j b, Bk g i b → Bk g j b → i = j
  sus : ∀ n v c m, g.sus n = some (v, c, m) → g.own n = none ∧ (∀ b, v.ownBlock = some b → F.w0.heap.size ≤ b ∨ isLow n = true) ∧ ∃ vm cm, g.own m = some (vm, cm) ∧ Fk w g.Z (g.fp m) v c vm cm

structure SG (F : Fx) (g : Gh) (w : World) (st : St) (a : Act) : Prop where
  size : st.tmps.length = a.tmps.size
  tmps : ∀ (i : Nat) (v : V), st.tmps[i]? = some v → ∃ u : Value, a.tmps[i]? = some u ∧ VR g w v u
  defers : a.defers = []
  tabs : ∀ n b vs, g.tab n = some (b, vs) → ∃ cs, st.tb n = some cs ∧ XsR g w cs vs
  tbs : ∀ n cs, st.tb n = some cs → ∃ b vs, g.tab n = some (b, vs)
  mus : ∀ n c, lk st.mus n = some c → g.own n = some (F.mv n, c)
  sus : ∀ n m c b, (n, m, c, b) ∈ st.sus → ∃ v, g.sus n = some (v, c, m) ∧ (b = true → v = F.mv n)
  low : ∀ n b vs, n < 4096 → g.tab n = some (b, vs) → F.tv n = some b

structure R (F : Fx) (g : Gh) (st : St) (a : Act) (w : World) : Prop where
  s : SG F g w st a
  w : WG F g w

/-! ### Lists by names -/
section lists
variable {α β : Type}
theorem lk_filter (p : Nat → Bool) (f : α → β) : ∀ (l : List (Nat × α)) (n : Nat), lk ((l.filter fun (m, _) => !p m).map fun (m, a) => (m, f a)) n = bif p n then none else (lk l n).map f
  | [], n => by cases h : p n <;> simp [lk, h]
  | (m, a) :: l, n => by
    have ih := lk_filter p f l n
    by_cases e : m = n
    · subst e
      cases h : p m
      · simp [h, lk]
      · simp only [List.filter_cons, h, Bool.not_true, Bool.false_eq_true, if_false, ih, cond_true]
    · have e' : (m == n) = false := by simpa using e
      cases h : p m
      · simp only [List.filter_cons, h, Bool.not_false, if_true, List.map_cons, lk, e', cond_false]
        exact ih
      · simp only [List.filter_cons, h, Bool.not_true, Bool.false_eq_true, if_false, lk, e', cond_false]
        exact ih
theorem lk_filter0 (p : Nat → Bool) (l : List (Nat × α)) (n : Nat) : lk (l.filter fun (m, _) => !p m) n = bif p n then none else lk l n := by
  have := lk_filter p (id : α → α) l n
  simpa using this
theorem lk_map (f : α → β) : ∀ (l : List (Nat × α)) (n : Nat), lk (l.map fun (m, a) => (m, f a)) n = (lk l n).map f
  | [], n => by simp [lk]
  | (m, a) :: l, n => by
    have ih := lk_map f l n
    cases h : m == n
    · simp only [List.map_cons, lk, h, cond_false]; exact ih
    · simp [lk, h]
theorem lk_setl_ne : ∀ (l : List (Nat × α)) (n m : Nat) (b : α), m ≠ n → lk (setl l n b) m = lk l m
  | [], _, _, _, _ => rfl
  | (k, a) :: l, n, m, b, h => by
    have ih := lk_setl_ne l n m b h
    cases e : k == n
    · simp only [setl, e, cond_false, lk, ih]
    · obtain rfl : k = n := by simpa using e
      have e' : (k == m) = false := by simpa using fun q => h q.symm
      simp [setl, lk, e']
theorem lk_setl_eq : ∀ (l : List (Nat × α)) (n : Nat) (b a : α), lk l n = some a → lk (setl l n b) n = some b
  | [], _, _, _, h => by simp [lk] at h
  | (k, c) :: l, n, b, a, h => by
    cases e : k == n
    · simp only [setl, e, cond_false, lk]
      exact lk_setl_eq l n b a (by simpa [lk, e] using h)
    · simp [setl, lk, e]
theorem lk_setl_none : ∀ (l : List (Nat × α)) (n : Nat) (b : α) (m : Nat), lk l m = none → lk (setl l n b) m = none
  | [], _, _, _, _ => rfl
  | (k, c) :: l, n, b, m, h => by
    cases e : k == m
    · have h' : lk l m = none := by simpa [lk, e] using h
      cases e2 : k == n
      · simp only [setl, e2, cond_false, lk, e]; exact lk_setl_none l n b m h'
      · simp only [setl, e2, cond_true, lk, e, cond_false]; exact h'
    · simp [lk, e] at h
theorem lk_insl_eq : ∀ (l : List (Nat × α)) (n : Nat) (b : α), lk l n = none → lk (insl l n b) n = some b
  | [], n, b, _ => by simp [insl, lk]
  | (k, c) :: l, n, b, h => by
    cases e : k == n
    · have h' : lk l n = none := by simpa [lk, e] using h
      cases e2 : Nat.blt n k
      · simp only [insl, e2, cond_false, lk, e]; exact lk_insl_eq l n b h'
      · simp [insl, e2, lk]
    · simp [lk, e] at h
theorem lk_insl_ne : ∀ (l : List (Nat × α)) (n m : Nat) (b : α), m ≠ n → lk (insl l n b) m = lk l m
  | [], n, m, b, h => by
    have : (n == m) = false := by simpa using fun q => h q.symm
    simp [insl, lk, this]
  | (k, c) :: l, n, m, b, h => by
    have e' : (n == m) = false := by simpa using fun q => h q.symm
    cases e2 : Nat.blt n k
    · simp only [insl, e2, cond_false, lk]; rw [lk_insl_ne l n m b h]
    · simp [insl, e2, lk, e']
theorem lk_mapK (f : Nat → α → β) : ∀ (l : List (Nat × α)) (n : Nat), lk (l.map fun (m, a) => (m, f m a)) n = (lk l n).map (f n)
  | [], n => by simp [lk]
  | (m, a) :: l, n => by
    have ih := lk_mapK f l n
    cases h : m == n
    · simp only [List.map_cons, lk, h, cond_false]; exact ih
    · obtain rfl : m = n := by simpa using h
      simp [lk]
theorem mem_insl {l : List (Nat × α)} {n : Nat} {b : α} {p : Nat × α} (h : p ∈ insl l n b) : p = (n, b) ∨ p ∈ l := by
  induction l with
  | nil => simp [insl] at h; exact .inl h
  | cons q l ih =>
    obtain ⟨m, a⟩ := q
    simp only [insl] at h
    cases e : Nat.blt n m
    · rw [e] at h
      rcases List.mem_cons.1 h with h | h
      · exact .inr (by rw [h]; exact List.mem_cons_self ..)
      · exact (ih h).imp id fun h => List.mem_cons_of_mem _ h
    · rw [e] at h
      exact List.mem_cons.1 h
theorem lk_mem {α : Type _} : ∀ {l : List (Nat × α)} {n : Nat} {a : α}, lk l n = some a → (n, a) ∈ l
  | [], n, a, h => by simp [lk] at h
  | (m, b) :: l, n, a, h => by
    simp only [lk] at h
    cases e : m == n
    · rw [e] at h; exact List.mem_cons_of_mem _ (lk_mem h)
    · rw [e] at h
      injection h with h
      subst h
      have : m = n := by simpa using e
      subst this
      exact List.mem_cons_self ..
end lists

/-! ### Blocks by names -/
theorem Bk.own {g : Gh} {n b : Nat} {x : Value × C} (h : g.own n = some x) (hb : g.fp n b) : Bk g (2 * n) b := .inl ⟨n, x, rfl, h, hb⟩
theorem Bk.tab {g : Gh} {n b : Nat} {vs : List Value} (h : g.tab n = some (b, vs)) : Bk g (2 * n + 1) b := .inr ⟨n, vs, rfl, h⟩
/-- Names dropped: 2 n for a slice, 2 n + 1 for a variable. -/
def Gh.hide (g : Gh) (q : Nat → Bool) : Gh :=
  { g with own := fun n => bif q (2 * n) then none else g.own n, tab := fun n => bif q (2 * n + 1) then none else g.tab n, sus := fun n => match g.sus n with | some (v, c, m) => bif q (2 * n) || q (2 * m) then none else some (v, c, m) | none => none }
def Gh.clr (g : Gh) (p : Nat → Bool) : Gh := g.hide fun i => p (i / 2)
theorem hide_own {g : Gh} {q : Nat → Bool} {n : Nat} {x : Value × C} : (g.hide q).own n = some x ↔ q (2 * n) = false ∧ g.own n = some x := by
  simp only [Gh.hide]; cases q (2 * n) <;> simp
theorem hide_tab {g : Gh} {q : Nat → Bool} {n : Nat} {x : Nat × List Value} : (g.hide q).tab n = some x ↔ q (2 * n + 1) = false ∧ g.tab n = some x := by
  simp only [Gh.hide]; cases q (2 * n + 1) <;> simp
theorem hide_sus {g : Gh} {q : Nat → Bool} {n : Nat} {v : Value} {c : C} {m : Nat} : (g.hide q).sus n = some (v, c, m) ↔ (q (2 * n) = false ∧ q (2 * m) = false) ∧ g.sus n = some (v, c, m) := by
  simp only [Gh.hide]
  cases h : g.sus n with
  | none => simp
  | some x =>
    obtain ⟨v', c', m'⟩ := x
    simp only
    constructor
    · intro h
      cases e : (q (2 * n) || q (2 * m')) <;> rw [e] at h
      · simp only [cond_false, Option.some.injEq, Prod.mk.injEq] at h
        obtain ⟨rfl, rfl, rfl⟩ := h
        simp only [Bool.or_eq_false_iff] at e
        exact ⟨e, rfl⟩
      · cases h
    · rintro ⟨⟨h1, h2⟩, h3⟩
      injection h3 with h3
      injection h3 with h3 h4
      injection h4 with h4 h5
      subst h3 h4 h5
      simp [h1, h2]
theorem two_half (n : Nat) : 2 * n / 2 = n := by omega
theorem two_half1 (n : Nat) : (2 * n + 1) / 2 = n := by omega
theorem clr_own {g : Gh} {p : Nat → Bool} {n : Nat} {x : Value × C} : (g.clr p).own n = some x ↔ p n = false ∧ g.own n = some x := by rw [Gh.clr, hide_own, two_half]
theorem clr_tab {g : Gh} {p : Nat → Bool} {n : Nat} {x : Nat × List Value} : (g.clr p).tab n = some x ↔ p n = false ∧ g.tab n = some x := by rw [Gh.clr, hide_tab, two_half1]
theorem clr_sus {g : Gh} {p : Nat → Bool} {n : Nat} {v : Value} {c : C} {m : Nat} : (g.clr p).sus n = some (v, c, m) ↔ (p n = false ∧ p m = false) ∧ g.sus n = some (v, c, m) := by rw [Gh.clr, hide_sus, two_half, two_half]
theorem hide_bk {g : Gh} {q : Nat → Bool} {i b : Nat} : Bk (g.hide q) i b ↔ q i = false ∧ Bk g i b := by
  constructor
  · rintro (⟨n, x, rfl, h, hb⟩ | ⟨n, vs, rfl, h⟩)
    · obtain ⟨h1, h2⟩ := hide_own.1 h; exact ⟨h1, .own h2 hb⟩
    · obtain ⟨h1, h2⟩ := hide_tab.1 h; exact ⟨h1, .tab h2⟩
  · rintro ⟨hq, (⟨n, x, rfl, h, hb⟩ | ⟨n, vs, rfl, h⟩)⟩
    · exact .own (hide_own.2 ⟨hq, h⟩) hb
    · exact .tab (hide_tab.2 ⟨hq, h⟩)
theorem hide_gl {g : Gh} {q : Nat → Bool} {p : Nat → Bool} (h : ∀ n, p n = false → q (2 * n) = false) (h1 : ∀ n, p n = false → q (2 * n + 1) = false) : Gl p g (g.hide q) :=
  ⟨fun n x hp hn => hide_own.2 ⟨h n hp, hn⟩, fun _ _ _ _ => rfl, fun n b vs hp hn => ⟨vs, hide_tab.2 ⟨h1 n hp, hn⟩⟩, fun n v c m hp hm hn => hide_sus.2 ⟨⟨h n hp, h m hm⟩, hn⟩⟩
theorem clr_gl {g : Gh} {p : Nat → Bool} : Gl p g (g.clr p) := hide_gl (fun n h => by rw [two_half]; exact h) fun n h => by rw [two_half1]; exact h

/-- A slice by a name; a variable by a name. -/
def Gh.setOwn (g : Gh) (n : Nat) (x : Value × C) (B : Nat → Prop) (I : Nat → Value) : Gh := { g with own := fun m => if m = n then some x else g.own m, fp := fun m => if m = n then B else g.fp m, inn := fun m => if m = n then I else g.inn m }
def Gh.setTab (g : Gh) (n : Nat) (x : Nat × List Value) : Gh := { g with tab := fun m => if m = n then some x else g.tab m }
def Gh.setSus (g : Gh) (n : Nat) (x : Value × C × Nat) : Gh := { g with sus := fun m => if m = n then some x else g.sus m }
section
variable {g : Gh} {n m : Nat} {B : Nat → Prop} {I : Nat → Value}
theorem setOwn_own {x y : Value × C} : (g.setOwn n x B I).own m = some y ↔ (m = n ∧ x = y) ∨ (m ≠ n ∧ g.own m = some y) := by
  simp only [Gh.setOwn]
  by_cases e : m = n <;> simp [e]
theorem setOwn_self {x : Value × C} : (g.setOwn n x B I).own n = some x := by simp [Gh.setOwn]
theorem setOwn_ne {x : Value × C} (h : m ≠ n) : (g.setOwn n x B I).own m = g.own m := by simp [Gh.setOwn, h]
theorem setOwn_fp {x : Value × C} : (g.setOwn n x B I).fp n = B := by simp [Gh.setOwn]
theorem setOwn_inn {x : Value × C} : (g.setOwn n x B I).inn n = I := by simp [Gh.setOwn]
theorem setOwn_fp_ne {x : Value × C} (h : m ≠ n) : (g.setOwn n x B I).fp m = g.fp m := by simp [Gh.setOwn, h]
theorem setOwn_inn_ne {x : Value × C} (h : m ≠ n) : (g.setOwn n x B I).inn m = g.inn m := by simp [Gh.setOwn, h]
theorem setTab_tab {x y : Nat × List Value} : (g.setTab n x).tab m = some y ↔ (m = n ∧ x = y) ∨ (m ≠ n ∧ g.tab m = some y) := by
  simp only [Gh.setTab]
  by_cases e : m = n <;> simp [e]
theorem setSus_sus {x y : Value × C × Nat} : (g.setSus n x).sus m = some y ↔ (m = n ∧ x = y) ∨ (m ≠ n ∧ g.sus m = some y) := by
  simp only [Gh.setSus]
  by_cases e : m = n <;> simp [e]
theorem setOwn_bk {x : Value × C} {i b : Nat} : Bk (g.setOwn n x B I) i b ↔ (i = 2 * n ∧ B b) ∨ (i ≠ 2 * n ∧ Bk g i b) := by
  constructor
  · rintro (⟨m, y, rfl, h, hb⟩ | ⟨m, vs, rfl, h⟩)
    · by_cases e : m = n
      · subst e
        rw [setOwn_fp] at hb
        exact .inl ⟨rfl, hb⟩
      · rw [setOwn_ne e] at h
        rw [setOwn_fp_ne e] at hb
        exact .inr ⟨by omega, .own h hb⟩
    · exact .inr ⟨by omega, .tab h⟩
  · rintro (⟨rfl, hb⟩ | ⟨hi, (⟨m, y, rfl, h, hb⟩ | ⟨m, vs, rfl, h⟩)⟩)
    · exact .own setOwn_self (by rw [setOwn_fp]; exact hb)
    · have e : m ≠ n := fun e => hi (by rw [e])
      exact .own (by rw [setOwn_ne e]; exact h) (by rw [setOwn_fp_ne e]; exact hb)
    · exact .tab h
theorem setTab_bk {b0 : Nat} {vs : List Value} {i b : Nat} : Bk (g.setTab n (b0, vs)) i b ↔ (i = 2 * n + 1 ∧ b = b0) ∨ (i ≠ 2 * n + 1 ∧ Bk g i b) := by
  constructor
  · rintro (⟨m, y, rfl, h, hb⟩ | ⟨m, us, rfl, h⟩)
    · exact .inr ⟨by omega, .own h hb⟩
    · rcases setTab_tab.1 h with ⟨rfl, e⟩ | ⟨e, h⟩
      · injection e with e _; exact .inl ⟨rfl, e.symm⟩
      · exact .inr ⟨by omega, .tab h⟩
  · rintro (⟨rfl, rfl⟩ | ⟨hi, (⟨m, y, rfl, h, hb⟩ | ⟨m, us, rfl, h⟩)⟩)
    · exact .tab (setTab_tab.2 (.inl ⟨rfl, rfl⟩))
    · exact .own h hb
    · exact .tab (setTab_tab.2 (.inr ⟨fun e => hi (by rw [e]), h⟩))
end

/-- A block that nobody names. -/
structure Free (g : Gh) (b : Nat) : Prop where
  z : ¬ g.Z b
  bk : ∀ i, ¬ Bk g i b

/-! ### The memory -/
section
variable {F : Fx} {g : Gh} {w w' : World}
theorem Fk.mono {Z Z' B B' : Nat → Prop} {v vm : Value} {c cm : C} (h : Stay Z w Z' w') (hB : ∀ b, B b → B' b) (hb : ∀ b, B b → w'.heap[b]? = w.heap[b]?) (k : Fk w Z B v c vm cm) : Fk w' Z' B' v c vm cm :=
  ⟨k.flat, k.plain, k.own.mono h hB hb, k.same⟩
theorem WG.stay (h : WG F g w) (hh : ∀ b, b < w.heap.size → w'.heap[b]? = w.heap[b]?) : Stay g.Z w g.Z w' := fun b hb => ⟨hb, hh b (h.Zok b hb).1⟩
theorem WG.free (h : WG F g w) {b : Nat} (hb : w.heap.size ≤ b) : Free g b := ⟨fun hz => by have := (h.Zok b hz).1; omega, fun i hi => by have := (h.bk i b hi).1; omega⟩
theorem Free.hide {q : Nat → Bool} {b : Nat} (h : Free g b) : Free (g.hide q) b := ⟨h.z, fun i hi => h.bk i (hide_bk.1 hi).2⟩
/-- What a dropped name led to is free. -/
theorem WG.freed (h : WG F g w) {q : Nat → Bool} {i b : Nat} (hi : Bk g i b) (hq : q i = true) : Free (g.hide q) b :=
  ⟨(h.bk i b hi).2.1, fun j hj => by
    obtain ⟨h1, h2⟩ := hide_bk.1 hj
    rw [h.bkD j i b h2 hi, hq] at h1
    cases h1⟩
/-- Names are dropped, and the memory that they led to may turn. -/
theorem WG.move (k : WG F g w) (q : Nat → Bool) (X : Nat → Prop) (hos : w'.os = w.os) (ht : w'.tape = w.tape) (hout : w'.output = w.output) (hs : w.heap.size ≤ w'.heap.size)
    (hh : ∀ b, b < w.heap.size → ¬ X b → w'.heap[b]? = w.heap[b]?) (hX : ∀ b, X b → ∃ i, Bk g i b ∧ q i = true) : WG F (g.hide q) w' := by
  have off : ∀ i b, Bk g i b → q i = false → ¬ X b := fun i b hi hq hx => by
    obtain ⟨j, hj, hqj⟩ := hX b hx
    rw [k.bkD i j b hi hj, hqj] at hq
    cases hq
  have hz : Stay g.Z w g.Z w' := fun b hb => ⟨hb, hh b (k.Zok b hb).1 fun hx => by obtain ⟨j, hj, _⟩ := hX b hx; exact (k.bk j b hj).2.1 hb⟩
  refine ⟨hos.trans k.os, ht.trans k.tape, hout.trans k.output, Nat.le_trans k.size hs, fun b hb hm => ?_, fun b hb => ⟨Nat.lt_of_lt_of_le (k.Zok b hb).1 hs, (k.Zok b hb).2⟩, k.Zin, fun n v c hn => ?_, fun n b vs hn => ?_, fun i b hi => ?_, fun i j b hi hj => k.bkD i j b (hide_bk.1 hi).2 (hide_bk.1 hj).2, fun n v c m hn => ?_⟩
  · refine (hh b (Nat.lt_of_lt_of_le hb k.size) fun hx => ?_).trans (k.frame b hb hm)
    obtain ⟨j, hj, _⟩ := hX b hx
    rcases (k.bk j b hj).2.2 with h | h
    · omega
    · exact hm h.1
  · obtain ⟨hq, hn⟩ := hide_own.1 hn
    exact (k.own n v c hn).mono hz (fun _ h => h) fun b hb => hh b (k.bk _ b (.own hn hb)).1 (off _ b (.own hn hb) hq)
  · obtain ⟨hq, hn⟩ := hide_tab.1 hn
    rw [row_same (hh b (k.bk _ b (.tab hn)).1 (off _ b (.tab hn) hq))]
    exact k.tab n b vs hn
  · have := k.bk i b (hide_bk.1 hi).2
    exact ⟨Nat.lt_of_lt_of_le this.1 hs, this.2⟩
  · obtain ⟨⟨h1, h2⟩, hn⟩ := hide_sus.1 hn
    obtain ⟨h3, h4, vm, cm, h5, h6⟩ := k.sus n v c m hn
    refine ⟨by simp [Gh.hide, h3], h4, vm, cm, hide_own.2 ⟨h2, h5⟩, h6.mono hz (fun _ h => h) fun b hb => hh b (k.bk _ b (.own h5 hb)).1 (off _ b (.own h5 hb) h2)⟩
/-- The same, where some slices that are not dropped were written behind what they hold. -/
theorem WG.moveE (k : WG F g w) (q : Nat → Bool) (X : Nat → Prop) (hos : w'.os = w.os) (ht : w'.tape = w.tape) (hout : w'.output = w.output) (hs : w.heap.size ≤ w'.heap.size)
    (hh : ∀ b, b < w.heap.size → ¬ X b → w'.heap[b]? = w.heap[b]?) (hX : ∀ b, X b → ∃ i, Bk g i b) (hT : ∀ n b vs, q (2 * n + 1) = false → g.tab n = some (b, vs) → ¬ X b)
    (hE : ∀ n v c, q (2 * n) = false → g.own n = some (v, c) → (∀ b, g.fp n b → ¬ X b) ∨ (OW w' g.Z v c (g.fp n) (g.inn n) ∧ ∀ k v' c', g.sus k = some (v', c', n) → Fk w' g.Z (g.fp n) v' c' v c)) : WG F (g.hide q) w' := by
  have hz : Stay g.Z w g.Z w' := fun b hb => ⟨hb, hh b (k.Zok b hb).1 fun hx => by obtain ⟨j, hj⟩ := hX b hx; exact (k.bk j b hj).2.1 hb⟩
  refine ⟨hos.trans k.os, ht.trans k.tape, hout.trans k.output, Nat.le_trans k.size hs, fun b hb hm => ?_, fun b hb => ⟨Nat.lt_of_lt_of_le (k.Zok b hb).1 hs, (k.Zok b hb).2⟩, k.Zin, fun n v c hn => ?_, fun n b vs hn => ?_, fun i b hi => ?_, fun i j b hi hj => k.bkD i j b (hide_bk.1 hi).2 (hide_bk.1 hj).2, fun n v c m hn => ?_⟩
  · refine (hh b (Nat.lt_of_lt_of_le hb k.size) fun hx => ?_).trans (k.frame b hb hm)
    obtain ⟨j, hj⟩ := hX b hx
    rcases (k.bk j b hj).2.2 with h | h
    · omega
    · exact hm h.1
  · obtain ⟨hq, hn⟩ := hide_own.1 hn
    rcases hE n v c hq hn with h | h
    · exact (k.own n v c hn).mono hz (fun _ h => h) fun b hb => hh b (k.bk _ b (.own hn hb)).1 (h b hb)
    · exact h.1
  · obtain ⟨hq, hn⟩ := hide_tab.1 hn
    rw [row_same (hh b (k.bk _ b (.tab hn)).1 (hT n b vs hq hn))]
    exact k.tab n b vs hn
  · have := k.bk i b (hide_bk.1 hi).2
    exact ⟨Nat.lt_of_lt_of_le this.1 hs, this.2⟩
  · obtain ⟨⟨h1, h2⟩, hn⟩ := hide_sus.1 hn
    obtain ⟨h3, h4, vm, cm, h5, h6⟩ := k.sus n v c m hn
    refine ⟨by simp [Gh.hide, h3], h4, vm, cm, hide_own.2 ⟨h2, h5⟩, ?_⟩
    rcases hE m vm cm h2 h5 with h | h
    · exact h6.mono hz (fun _ h => h) fun b hb => hh b (k.bk _ b (.own h5 hb)).1 (h b hb)
    · exact h.2 n v c hn
theorem WG.hide (k : WG F g w) (q : Nat → Bool) : WG F (g.hide q) w := k.move q (fun _ => False) rfl rfl rfl (Nat.le_refl _) (fun _ _ _ => rfl) fun _ h => h.elim
theorem hide_none : g.hide (fun _ => false) = g := by
  obtain ⟨o, t, z, f, i, s⟩ := g
  have : (fun n => match s n with | some (v, c, m) => bif false || false then none else some (v, c, m) | none => none) = s := by
    funext n
    cases h : s n with
    | none => rfl
    | some x => obtain ⟨v, c, m⟩ := x; rfl
  simp only [Gh.hide, cond_false]
  rw [this]
/-- New memory, or none. -/
theorem WG.grow (k : WG F g w) (hos : w'.os = w.os) (ht : w'.tape = w.tape) (ho : w'.output = w.output) (hs : w.heap.size ≤ w'.heap.size) (hh : ∀ b, b < w.heap.size → w'.heap[b]? = w.heap[b]?) : WG F g w' := by
  have := k.move (fun _ => false) (fun _ => False) hos ht ho hs (fun b hb _ => hh b hb) fun _ h => h.elim
  rwa [hide_none] at this
theorem WG.newOwn (k : WG F g w) {n : Nat} {v : Value} {c : C} {B : Nat → Prop} {I : Nat → Value} (hn : g.own n = none) (hsn : g.sus n = none) (ho : OW w g.Z v c B I)
    (hf : ∀ b, B b → b < w.heap.size ∧ Free g b ∧ (F.w0.heap.size ≤ b ∨ (F.M b ∧ isLow n = true))) : WG F (g.setOwn n (v, c) B I) w := by
  refine ⟨k.os, k.tape, k.output, k.size, k.frame, k.Zok, k.Zin, fun m x y hm => ?_, k.tab, fun i b hi => ?_, fun i j b hi hj => ?_, fun m x y j hm => ?_⟩
  · rcases setOwn_own.1 hm with ⟨rfl, e⟩ | ⟨hne, hm⟩
    · cases e; rw [setOwn_fp, setOwn_inn]; exact ho
    · rw [setOwn_fp_ne hne, setOwn_inn_ne hne]; exact k.own m x y hm
  · rcases setOwn_bk.1 hi with ⟨rfl, hb⟩ | ⟨_, hi⟩
    · rw [two_half]; exact ⟨(hf b hb).1, (hf b hb).2.1.z, (hf b hb).2.2⟩
    · exact k.bk i b hi
  · rcases setOwn_bk.1 hi with ⟨rfl, hb⟩ | ⟨_, hi⟩ <;> rcases setOwn_bk.1 hj with ⟨rfl, hb'⟩ | ⟨_, hj⟩
    · rfl
    · exact absurd hj ((hf b hb).2.1.bk j)
    · exact absurd hi ((hf b hb').2.1.bk i)
    · exact k.bkD i j b hi hj
  · have hm : g.sus m = some (x, y, j) := hm
    obtain ⟨h1, h2, vm, cm, h3, h4⟩ := k.sus m x y j hm
    have e1 : m ≠ n := fun e => by rw [e, hsn] at hm; cases hm
    have e2 : j ≠ n := fun e => by rw [e, hn] at h3; cases h3
    exact ⟨by rw [setOwn_ne e1]; exact h1, h2, vm, cm, by rw [setOwn_ne e2]; exact h3, by rw [setOwn_fp_ne e2]; exact h4⟩
theorem WG.newTab (k : WG F g w) {n b : Nat} {vs : List Value} (hn : g.tab n = none) (hr : row w b = some vs) (hf : Free g b) (hb : F.w0.heap.size ≤ b ∨ (F.M b ∧ isLow n = true)) : WG F (g.setTab n (b, vs)) w := by
  refine ⟨k.os, k.tape, k.output, k.size, k.frame, k.Zok, k.Zin, k.own, fun m b' vs' hm => ?_, fun i b' hi => ?_, fun i j b' hi hj => ?_, k.sus⟩
  · rcases setTab_tab.1 hm with ⟨rfl, e⟩ | ⟨_, hm⟩
    · cases e; exact hr
    · exact k.tab m b' vs' hm
  · rcases setTab_bk.1 hi with ⟨rfl, rfl⟩ | ⟨_, hi⟩
    · rw [two_half1]; exact ⟨row_lt hr, hf.z, hb⟩
    · exact k.bk i b' hi
  · rcases setTab_bk.1 hi with ⟨rfl, e1⟩ | ⟨_, hi1⟩ <;> rcases setTab_bk.1 hj with ⟨rfl, e⟩ | ⟨_, hj1⟩
    · rfl
    · rw [e1] at hj1; exact absurd hj1 (hf.bk j)
    · rw [e] at hi1; exact absurd hi1 (hf.bk i)
    · exact k.bkD i j b' hi1 hj1
/-- More is read. -/
def Gh.addZ (g : Gh) (Y : Nat → Prop) : Gh := { g with Z := fun b => g.Z b ∨ Y b }
theorem addZ_bk {Y : Nat → Prop} {i b : Nat} : Bk (g.addZ Y) i b ↔ Bk g i b := Iff.rfl
theorem addZ_stay {Y : Nat → Prop} : Stay g.Z w (g.addZ Y).Z w := fun _ h => ⟨.inl h, rfl⟩
theorem WG.addZ (k : WG F g w) {Y : Nat → Prop} (hY : ∀ b, Y b → b < w.heap.size ∧ ¬ F.M b ∧ (F.Z0 b ∨ F.w0.heap.size ≤ b) ∧ ∀ i, ¬ Bk g i b) : WG F (g.addZ Y) w :=
  ⟨k.os, k.tape, k.output, k.size, k.frame, fun b hb => hb.elim (k.Zok b) fun h => ⟨(hY b h).1, (hY b h).2.1, (hY b h).2.2.1⟩, fun b hb => .inl (k.Zin b hb), fun n v c hn => (k.own n v c hn).mono addZ_stay (fun _ h => h) fun _ _ => rfl, k.tab,
    fun i b hi => ⟨(k.bk i b hi).1, fun hz => hz.elim (k.bk i b hi).2.1 fun h => (hY b h).2.2.2 i hi, (k.bk i b hi).2.2⟩, k.bkD, fun n v c m hn => by
      obtain ⟨h1, h2, vm, cm, h3, h4⟩ := k.sus n v c m hn
      exact ⟨h1, h2, vm, cm, h3, h4.mono addZ_stay (fun _ h => h) fun _ _ => rfl⟩⟩
theorem WG.setSus (k : WG F g w) {n m : Nat} {v vm : Value} {c cm : C} (hn : g.own n = none) (hl : ∀ b, v.ownBlock = some b → F.w0.heap.size ≤ b ∨ isLow n = true) (hm : g.own m = some (vm, cm)) (hf : Fk w g.Z (g.fp m) v c vm cm) : WG F (g.setSus n (v, c, m)) w :=
  ⟨k.os, k.tape, k.output, k.size, k.frame, k.Zok, k.Zin, k.own, k.tab, k.bk, k.bkD, fun i x y j hi => by
    rcases setSus_sus.1 hi with ⟨rfl, e⟩ | ⟨_, hi⟩
    · cases e; exact ⟨hn, hl, vm, cm, hm, hf⟩
    · exact k.sus i x y j hi⟩
end

/-! ### The state -/
section
variable {F : Fx} {g g' : Gh} {w w' : World} {st : St} {a : Act}
theorem gh_ext {g g' : Gh} (h1 : ∀ n, g.own n = g'.own n) (h2 : ∀ n, g.tab n = g'.tab n) (h3 : g.Z = g'.Z) (h4 : g.fp = g'.fp) (h5 : g.inn = g'.inn) (h6 : ∀ n, g.sus n = g'.sus n) : g = g' := by
  obtain ⟨o, t, z, f, i, s⟩ := g
  obtain ⟨o', t', z', f', i', s'⟩ := g'
  have e1 : o = o' := funext h1
  have e2 : t = t' := funext h2
  have e6 : s = s' := funext h6
  subst e1 e2 e6
  have e3 : z = z' := h3
  have e4 : f = f' := h4
  have e5 : i = i' := h5
  subst e3 e4 e5
  rfl
theorem SG.put (h : SG F g w st a) {v : V} {u : Value} (hv : VR g w v u) (dst : Option Tmp) : SG F g w (st.put dst v) (a.put dst u) := by
  cases dst with
  | none => exact h
  | some d =>
    refine ⟨by simpa [St.put, Act.put] using h.size, fun i x hx => ?_, h.defers, h.tabs, h.tbs, h.mus, h.sus, h.low⟩
    simp only [St.put, List.getElem?_set] at hx
    simp only [Act.put, Array.getElem?_setIfInBounds]
    split at hx
    · rename_i e
      subst e
      split at hx
      · rename_i hd
        injection hx with hx
        subst hx
        rw [if_pos rfl, if_pos (by rw [← h.size]; exact hd)]
        exact ⟨u, rfl, hv⟩
      · cases hx
    · rename_i e
      rw [if_neg e]
      exact h.tmps i x hx
theorem R.put (h : R F g st a w) {v : V} {u : Value} (hv : VR g w v u) (dst : Option Tmp) : R F g (st.put dst v) (a.put dst u) w := ⟨h.s.put hv dst, h.w⟩
theorem SG.map (h : SG F g w st a) {f : X → X} (tr : Tr g w g' w' f) {tabs' : List (Nat × List X)} {mus' : List (Nat × C)} {sus' : List (Nat × Nat × C × Bool)}
    (ht : ∀ n b vs, g'.tab n = some (b, vs) → ∃ cs, lk tabs' n = some cs ∧ XsR g' w' cs vs) (hb : ∀ n cs, lk tabs' n = some cs → ∃ b vs, g'.tab n = some (b, vs)) (hm : ∀ n c, lk mus' n = some c → g'.own n = some (F.mv n, c))
    (hs : ∀ n m c b, (n, m, c, b) ∈ sus' → ∃ v, g'.sus n = some (v, c, m) ∧ (b = true → v = F.mv n)) (hl : ∀ n b vs, n < 4096 → g'.tab n = some (b, vs) → F.tv n = some b) :
    SG F g' w' { tmps := st.tmps.map (V.mp f), tabs := tabs', mus := mus', sus := sus' } a := by
  refine ⟨by simpa using h.size, fun i v hv => ?_, h.defers, ht, hb, hm, hs, hl⟩
  simp only [List.getElem?_map, Option.map_eq_some_iff] at hv
  obtain ⟨v0, hv0, rfl⟩ := hv
  obtain ⟨u, hu, hr⟩ := h.tmps i v0 hv0
  exact ⟨u, hu, tr.v hr⟩
/-- The tables of a state whose cells turn. -/
theorem SG.mapTabs (h : SG F g w st a) {f : X → X} (tr : Tr g w g' w' f) (ht : ∀ n b vs, g'.tab n = some (b, vs) → g.tab n = some (b, vs)) : ∀ n b vs, g'.tab n = some (b, vs) → ∃ cs, lk (st.tabs.map fun (k, cs) => (k, cs.map f)) n = some cs ∧ XsR g' w' cs vs := fun n b vs hn => by
  obtain ⟨cs, h1, h2⟩ := h.tabs n b vs (ht n b vs hn)
  refine ⟨cs.map f, ?_, tr.xs h2⟩
  rw [lk_map (List.map f)]
  simp only [St.tb] at h1
  simp [h1]
theorem SG.mapTbs (h : SG F g w st a) {f : X → X} (ht : ∀ n b vs, g.tab n = some (b, vs) → ∃ b vs, g'.tab n = some (b, vs)) : ∀ n cs, lk (st.tabs.map fun (k, cs) => (k, cs.map f)) n = some cs → ∃ b vs, g'.tab n = some (b, vs) := fun n cs hn => by
  rw [lk_map (List.map f)] at hn
  obtain ⟨cs0, h1, _⟩ := Option.map_eq_some_iff.1 hn
  obtain ⟨b, vs, h2⟩ := h.tbs n cs0 h1
  exact ht n b vs h2
/-- The same names, and perhaps more; the variables as they were. -/
theorem SG.keep (s : SG F g w st a) (hz : Stay g.Z w g'.Z w') (ho : ∀ n x, g.own n = some x → g'.own n = some x ∧ g'.inn n = g.inn n) (ht : g'.tab = g.tab) (hs : ∀ n x, g.sus n = some x → g'.sus n = some x) : SG F g' w' st a := by
  have tr : Tr g w g' w' id := tr_id hz ⟨fun n x _ hn => (ho n x hn).1, fun n x _ hn => (ho n x hn).2, fun _ b vs _ hn => ⟨vs, by rw [ht]; exact hn⟩, fun n v c m _ _ hn => hs n _ hn⟩
  refine ⟨s.size, fun i x hx => ?_, s.defers, fun m b vs hm => ?_, fun n cs hn => by rw [ht]; exact s.tbs n cs hn, fun m x hm => (ho _ _ (s.mus m x hm)).1, fun n m c b hm => ?_, fun n b vs hl hn => s.low n b vs hl (by rw [ht] at hn; exact hn)⟩
  · obtain ⟨u, hu, hr⟩ := s.tmps i x hx
    exact ⟨u, hu, by simpa [map_id_v] using tr.v hr⟩
  · rw [ht] at hm
    obtain ⟨cs, h1, h2⟩ := s.tabs m b vs hm
    exact ⟨cs, h1, by simpa using tr.xs h2⟩
  · obtain ⟨v, h1, h2⟩ := s.sus n m c b hm
    exact ⟨v, hs _ _ h1, h2⟩
theorem SG.stay (s : SG F g w st a) (hz : Stay g.Z w g.Z w') : SG F g w' st a := s.keep hz (fun _ _ h => ⟨h, rfl⟩) rfl fun _ _ h => h
theorem R.grow (h : R F g st a w) (hos : w'.os = w.os) (ht : w'.tape = w.tape) (ho : w'.output = w.output) (hs : w.heap.size ≤ w'.heap.size)
    (hh : ∀ b, b < w.heap.size → w'.heap[b]? = w.heap[b]?) : R F g st a w' := ⟨h.s.stay (h.w.stay hh), h.w.grow hos ht ho hs hh⟩
theorem R.draw (h : R F g st a w) (k : Nat) : R F g st a { w with drawn := k } := h.grow rfl rfl rfl (Nat.le_refl _) fun _ _ => rfl
theorem R.alloc (h : R F g st a w) (o : Obj) : R F g st a (w.alloc o) := h.grow rfl rfl rfl (by simp) fun _ hb => heap_alloc_lt hb
theorem R.free (h : R F g st a w) {b : Nat} (hb : w.heap.size ≤ b) : Free g b := h.w.free hb

/-- Names dropped. -/
theorem SG.clr (s : SG F g w st a) (p : Nat → Bool) : SG F (g.clr p) w (st.clr p) a := by
  have tr : Tr g w (g.clr p) w (X.clr p) := tr_clr p (Stay.refl _ _) clr_gl
  refine s.map tr (fun n b vs hn => ?_) (fun n cs hn => ?_) (fun n c hn => ?_) (fun n m c b hm => ?_) (fun n b vs hl hn => s.low n b vs hl (clr_tab.1 hn).2)
  · obtain ⟨hp, hn⟩ := clr_tab.1 hn
    obtain ⟨cs, h1, h2⟩ := s.tabs n b vs hn
    refine ⟨cs.map (X.clr p), ?_, tr.xs h2⟩
    rw [lk_filter p (List.map (X.clr p))]
    simp only [St.tb] at h1
    simp [hp, h1]
  · rw [lk_filter p (List.map (X.clr p))] at hn
    cases hp : p n
    · rw [hp, cond_false] at hn
      obtain ⟨cs0, h1, _⟩ := Option.map_eq_some_iff.1 hn
      obtain ⟨b, vs, h2⟩ := s.tbs n cs0 h1
      exact ⟨b, vs, clr_tab.2 ⟨hp, h2⟩⟩
    · rw [hp] at hn; cases hn
  · rw [lk_filter0 p] at hn
    cases hp : p n
    · rw [hp, cond_false] at hn
      exact clr_own.2 ⟨hp, s.mus n c hn⟩
    · rw [hp] at hn; cases hn
  · obtain ⟨h1, h2⟩ := List.mem_filter.1 hm
    obtain ⟨v, h3, h4⟩ := s.sus n m c b h1
    simp only [Bool.not_eq_true', Bool.or_eq_false_iff] at h2
    exact ⟨v, clr_sus.2 ⟨h2, h3⟩, h4⟩
theorem R.clr (h : R F g st a w) (p : Nat → Bool) : R F (g.clr p) (st.clr p) a w := ⟨h.s.clr p, h.w.hide _⟩

/-- Names of slices dropped. -/
def evens (p : Nat → Bool) : Nat → Bool := fun i => i % 2 == 0 && p (i / 2)
theorem evens_own {p : Nat → Bool} {n : Nat} : evens p (2 * n) = p n := by simp [evens]
theorem evens_tab {p : Nat → Bool} {n : Nat} : evens p (2 * n + 1) = false := by
  have : (2 * n + 1) % 2 = 1 := by omega
  simp [evens, this]
def Gh.drop (g : Gh) (p : Nat → Bool) : Gh := g.hide (evens p)
theorem drop_own {p : Nat → Bool} {n : Nat} {x : Value × C} : (g.drop p).own n = some x ↔ p n = false ∧ g.own n = some x := by rw [Gh.drop, hide_own, evens_own]
theorem drop_tab {p : Nat → Bool} : (g.drop p).tab = g.tab := by
  funext n
  simp [Gh.drop, Gh.hide, evens_tab]
theorem drop_sus {p : Nat → Bool} {n : Nat} {v : Value} {c : C} {m : Nat} : (g.drop p).sus n = some (v, c, m) ↔ (p n = false ∧ p m = false) ∧ g.sus n = some (v, c, m) := by rw [Gh.drop, hide_sus, evens_own, evens_own]
theorem drop_gl {p : Nat → Bool} : Gl p g (g.drop p) := hide_gl (fun n h => by rw [evens_own]; exact h) fun n h => evens_tab
theorem SG.drop (s : SG F g w st a) (p : Nat → Bool) : SG F (g.drop p) w (st.drop p) a := by
  have tr : Tr g w (g.drop p) w (X.drop p) := tr_drop p (Stay.refl _ _) drop_gl fun n b vs h => ⟨vs, by rw [drop_tab]; exact h⟩
  refine s.map tr (s.mapTabs tr fun n b vs h => by rw [drop_tab] at h; exact h) (s.mapTbs fun n b vs h => ⟨b, vs, by rw [drop_tab]; exact h⟩) (fun n c hn => ?_) (fun n m c b hm => ?_) (fun n b vs hl hn => s.low n b vs hl (by rw [drop_tab] at hn; exact hn))
  · rw [lk_filter0 p] at hn
    cases hp : p n
    · rw [hp, cond_false] at hn
      exact drop_own.2 ⟨hp, s.mus n c hn⟩
    · rw [hp] at hn; cases hn
  · obtain ⟨h1, h2⟩ := List.mem_filter.1 hm
    obtain ⟨v, h3, h4⟩ := s.sus n m c b h1
    simp only [Bool.not_eq_true', Bool.or_eq_false_iff] at h2
    exact ⟨v, drop_sus.2 ⟨h2, h3⟩, h4⟩
theorem R.drop (h : R F g st a w) (p : Nat → Bool) : R F (g.drop p) (st.drop p) a w := ⟨h.s.drop p, h.w.hide _⟩

/-- A slice's name alone. -/
def only (n : Nat) : Nat → Bool := fun i => i == 2 * n
theorem only_own {n m : Nat} {x : Value × C} : (g.hide (only n)).own m = some x ↔ m ≠ n ∧ g.own m = some x := by
  rw [hide_own]
  constructor
  · rintro ⟨h1, h2⟩; exact ⟨fun e => by subst e; simp [only] at h1, h2⟩
  · rintro ⟨h1, h2⟩; refine ⟨?_, h2⟩; simp only [only, beq_eq_false_iff_ne]; omega
theorem only_tab {n : Nat} : (g.hide (only n)).tab = g.tab := by
  funext m
  have : only n (2 * m + 1) = false := by simp only [only, beq_eq_false_iff_ne]; omega
  simp [Gh.hide, this]
theorem only_sus {n m j : Nat} {v : Value} {c : C} : (g.hide (only n)).sus m = some (v, c, j) ↔ (m ≠ n ∧ j ≠ n) ∧ g.sus m = some (v, c, j) := by
  rw [hide_sus]
  have : ∀ k, only n (2 * k) = false ↔ k ≠ n := fun k => by simp only [only, beq_eq_false_iff_ne]; omega
  rw [this, this]
theorem only_gl {n : Nat} : Gl (fun m => m == n) g (g.hide (only n)) :=
  ⟨fun m x hp hn => only_own.2 ⟨by simpa using hp, hn⟩, fun _ _ _ _ => rfl, fun m b vs hp hn => ⟨vs, by rw [only_tab]; exact hn⟩, fun m v c j hp hj hn => only_sus.2 ⟨⟨by simpa using hp, by simpa using hj⟩, hn⟩⟩

/-- A slice holds something else, in the same place. -/
theorem SG.sub (s : SG F g w st a) {n : Nat} {v : Value} {c : C} {b : Sb} {B : Nat → Prop} {I : Nat → Value} (hb : match b with | .setc _ => True | .hole _ => True | .row _ _ => True | .ro => False) (hz : Stay g.Z w g.Z w') (hn : g.own n = some (v, c)) (hlen : c.len = (b.on c).len) : SG F ((g.hide (only n)).setOwn n (v, b.on c) B I) w' (st.sub n b) a := by
  have hro : b.isRo = false := by cases b <;> first | rfl | exact hb.elim
  have gl : Gl (fun m => m == n) g ((g.hide (only n)).setOwn n (v, b.on c) B I) := by
    refine ⟨fun m x hp hm => ?_, fun m x hp hm => ?_, fun m b vs hp hm => ⟨vs, by show (g.hide (only n)).tab m = _; rw [only_tab]; exact hm⟩, fun m x y j hp hj hm => only_sus.2 ⟨⟨by simpa using hp, by simpa using hj⟩, hm⟩⟩
    · have e : m ≠ n := by simpa using hp
      rw [setOwn_ne e]; exact only_own.2 ⟨e, hm⟩
    · have e : m ≠ n := by simpa using hp
      rw [setOwn_inn_ne e]; rfl
  have tr : Tr g w ((g.hide (only n)).setOwn n (v, b.on c) B I) w' (X.sub n b) := by
    refine tr_set n b hro hz gl (fun u d hd => ?_) (fun m b vs h => ⟨vs, by show (g.hide (only n)).tab m = _; rw [only_tab]; exact h⟩)
    rw [hn] at hd
    injection hd with hd
    injection hd with h1 h2
    subst h1 h2
    exact ⟨setOwn_self, hlen⟩
  have htab : ∀ m b' vs, ((g.hide (only n)).setOwn n (v, b.on c) B I).tab m = some (b', vs) → g.tab m = some (b', vs) := fun m b' vs h => by
    have h : (g.hide (only n)).tab m = some (b', vs) := h
    rwa [only_tab] at h
  refine s.map tr (s.mapTabs tr htab) (s.mapTbs fun m b' vs h => ⟨b', vs, by show (g.hide (only n)).tab m = _; rw [only_tab]; exact h⟩) (fun m d hm => ?_) (fun k m d t hm => ?_) (fun m b' vs hl h => s.low m b' vs hl (htab m b' vs h))
  · have self : ∀ d0, lk st.mus n = some d0 → v = F.mv n ∧ d0 = c := fun d0 hl => by
      have := s.mus n d0 hl
      rw [hn] at this
      injection this with this
      injection this with h1 h2
      exact ⟨h1, h2.symm⟩
    cases b with
    | ro => exact hb.elim
    | setc c' =>
      replace hm : lk (setl st.mus n c') m = some d := hm
      by_cases e : m = n
      · subst e
        cases hl : lk st.mus m with
        | none => rw [lk_setl_none _ _ _ _ hl] at hm; cases hm
        | some d0 =>
          rw [lk_setl_eq _ _ _ _ hl] at hm
          injection hm with hm
          subst hm
          rw [← (self d0 hl).1]
          exact setOwn_self
      · rw [lk_setl_ne _ _ _ _ e] at hm
        rw [setOwn_ne e]
        exact only_own.2 ⟨e, s.mus m d hm⟩
    | hole i =>
      replace hm : lk (st.mus.map fun (m, c) => (m, bif m == n then c.out i else c)) m = some d := hm
      rw [lk_mapK (fun (m : Nat) (c : C) => bif m == n then c.out i else c)] at hm
      obtain ⟨d0, hl, hd⟩ := Option.map_eq_some_iff.1 hm
      by_cases e : m = n
      · subst e
        obtain ⟨h1, rfl⟩ := self d0 hl
        simp only [beq_self_eq_true, cond_true] at hd
        rw [← h1, ← hd]
        exact setOwn_self
      · have e' : (m == n) = false := by simpa using e
        rw [e', cond_false] at hd
        subst hd
        rw [setOwn_ne e]
        exact only_own.2 ⟨e, s.mus m d0 hl⟩
    | row i ys =>
      replace hm : lk (st.mus.map fun (m, c) => (m, bif m == n then c.setRow i ys else c)) m = some d := hm
      rw [lk_mapK (fun (m : Nat) (c : C) => bif m == n then c.setRow i ys else c)] at hm
      obtain ⟨d0, hl, hd⟩ := Option.map_eq_some_iff.1 hm
      by_cases e : m = n
      · subst e
        obtain ⟨h1, rfl⟩ := self d0 hl
        simp only [beq_self_eq_true, cond_true] at hd
        rw [← h1, ← hd]
        exact setOwn_self
      · have e' : (m == n) = false := by simpa using e
        rw [e', cond_false] at hd
        subst hd
        rw [setOwn_ne e]
        exact only_own.2 ⟨e, s.mus m d0 hl⟩
  · obtain ⟨h1, h2⟩ := List.mem_filter.1 hm
    obtain ⟨u, h3, h4⟩ := s.sus k m d t h1
    simp only [Bool.not_eq_true', Bool.or_eq_false_iff, beq_eq_false_iff_ne] at h2
    exact ⟨u, only_sus.2 ⟨h2, h3⟩, h4⟩
theorem WG.sub (h : WG F g w) {n : Nat} {v : Value} {c c' : C} {B : Nat → Prop} {I : Nat → Value} (hn : g.own n = some (v, c)) (hB : ∀ b, B b → g.fp n b ∨ (b < w'.heap.size ∧ Free g b ∧ (F.w0.heap.size ≤ b ∨ (F.M b ∧ isLow n = true))))
    (hos : w'.os = w.os) (ht : w'.tape = w.tape) (hout : w'.output = w.output) (hs : w.heap.size ≤ w'.heap.size) (hh : ∀ b, b < w.heap.size → ¬ g.fp n b → w'.heap[b]? = w.heap[b]?) (ho : OW w' g.Z v c' B I) : WG F ((g.hide (only n)).setOwn n (v, c') B I) w' := by
  have h1 := h.move (only n) (g.fp n) hos ht hout hs (fun b hlt hb => hh b hlt hb) fun b hb => ⟨_, .own hn hb, by simp [only]⟩
  have hnone : (g.hide (only n)).own n = none := by
    cases e : (g.hide (only n)).own n with
    | none => rfl
    | some x => exact absurd rfl (only_own.1 e).1
  have hsn : (g.hide (only n)).sus n = none := by
    cases e : (g.hide (only n)).sus n with
    | none => rfl
    | some x => obtain ⟨v, c, j⟩ := x; exact absurd rfl (only_sus.1 e).1.1
  refine h1.newOwn hnone hsn ho fun b hb => ?_
  rcases hB b hb with hb | ⟨q1, q2, q3⟩
  case inr => exact ⟨q1, q2.hide, q3⟩
  have hk := Bk.own hn hb
  have := h.bk _ b hk
  rw [two_half] at this
  exact ⟨by omega, h.freed hk (by simp [only]), this.2.2⟩
/-- A store into a slice of the function's own. -/
theorem R.subG (h : R F g st a w) {n : Nat} {v : Value} {c : C} {s : Sb} {B : Nat → Prop} {I : Nat → Value} (hsb : match s with | .setc _ => True | .hole _ => True | .row _ _ => True | .ro => False) (hn : g.own n = some (v, c)) (hlen : c.len = (s.on c).len) (hB : ∀ b, B b → g.fp n b ∨ (b < w'.heap.size ∧ Free g b ∧ (F.w0.heap.size ≤ b ∨ (F.M b ∧ isLow n = true))))
    (hos : w'.os = w.os) (ht : w'.tape = w.tape) (hout : w'.output = w.output) (hs : w.heap.size ≤ w'.heap.size) (hh : ∀ b, b < w.heap.size → ¬ g.fp n b → w'.heap[b]? = w.heap[b]?) (ho : OW w' g.Z v (s.on c) B I) :
    R F ((g.hide (only n)).setOwn n (v, s.on c) B I) (st.sub n s) a w' :=
  ⟨h.s.sub hsb (fun b hb => ⟨hb, hh b (h.w.Zok b hb).1 fun hf => (h.w.bk _ b (.own hn hf)).2.1 hb⟩) hn hlen, h.w.sub hn hB hos ht hout hs hh ho⟩
theorem R.sub (h : R F g st a w) {n : Nat} {v : Value} {c : C} {s : Sb} {B : Nat → Prop} {I : Nat → Value} (hsb : match s with | .setc _ => True | .hole _ => True | .row _ _ => True | .ro => False) (hn : g.own n = some (v, c)) (hlen : c.len = (s.on c).len) (hB : ∀ b, B b → g.fp n b ∨ (b < w.heap.size ∧ Free g b ∧ (F.w0.heap.size ≤ b ∨ (F.M b ∧ isLow n = true))))
    (hos : w'.os = w.os) (ht : w'.tape = w.tape) (hout : w'.output = w.output) (hs : w'.heap.size = w.heap.size) (hh : ∀ b, ¬ g.fp n b → w'.heap[b]? = w.heap[b]?) (ho : OW w' g.Z v (s.on c) B I) :
    R F ((g.hide (only n)).setOwn n (v, s.on c) B I) (st.sub n s) a w' :=
  h.subG hsb hn hlen (by rw [hs]; exact hB) hos ht hout (by omega) (fun b _ hb => hh b hb) ho

/-- A new slice by a name that is free. -/
theorem SG.addOwn (s : SG F g w st a) {n : Nat} {x : Value × C} {B : Nat → Prop} {I : Nat → Value} (hn : g.own n = none) : SG F (g.setOwn n x B I) w st a :=
  s.keep (Stay.refl _ _) (fun m y hm => by
    have e : m ≠ n := fun e => by rw [e, hn] at hm; cases hm
    exact ⟨by rw [setOwn_ne e]; exact hm, setOwn_inn_ne e⟩) rfl fun _ _ h => h
theorem R.newOwn (h : R F g st a w) {n : Nat} {v : Value} {c : C} {B : Nat → Prop} {I : Nat → Value} (hn : g.own n = none) (hsn : g.sus n = none) (ho : OW w g.Z v c B I)
    (hf : ∀ b, B b → b < w.heap.size ∧ Free g b ∧ (F.w0.heap.size ≤ b ∨ (F.M b ∧ isLow n = true))) : R F (g.setOwn n (v, c) B I) st a w := ⟨h.s.addOwn hn, h.w.newOwn hn hsn ho hf⟩
theorem R.newTab (h : R F g st a w) {n b : Nat} {vs : List Value} {cs : List X} (hn : g.tab n = none) (hs : st.tb n = none) (hr : row w b = some vs) (hx : XsR g w cs vs)
    (hf : Free g b) (hb : F.w0.heap.size ≤ b) (hl : 4096 ≤ n) : R F (g.setTab n (b, vs)) { st with tabs := insl st.tabs n cs } a w := by
  have hle : ∀ m x, g.tab m = some x → (g.setTab n (b, vs)).tab m = some x := fun m x hm => setTab_tab.2 (.inr ⟨fun e => (by rw [e, hn] at hm; cases hm), hm⟩)
  have tr : Tr g w (g.setTab n (b, vs)) w id := tr_id (Stay.refl _ _) ⟨fun m x _ hm => hm, fun _ _ _ _ => rfl, fun m b vs _ h => ⟨vs, hle _ _ h⟩, fun _ _ _ _ _ _ h => h⟩
  refine ⟨⟨h.s.size, fun i x hx => ?_, h.s.defers, fun m b' vs' hm => ?_, fun m cs' hm => ?_, h.s.mus, h.s.sus, fun m b' vs' hlow hm => ?_⟩, h.w.newTab hn hr hf (.inl hb)⟩
  · obtain ⟨u, hu, hr⟩ := h.s.tmps i x hx
    exact ⟨u, hu, by simpa [map_id_v] using tr.v hr⟩
  · rcases setTab_tab.1 hm with ⟨rfl, e⟩ | ⟨hne, hm⟩
    · cases e; exact ⟨cs, lk_insl_eq _ _ _ hs, by simpa using tr.xs hx⟩
    · obtain ⟨cs', h1, h2⟩ := h.s.tabs m b' vs' hm
      exact ⟨cs', (lk_insl_ne _ _ _ _ hne).trans h1, by simpa using tr.xs h2⟩
  · by_cases e : m = n
    · subst e; exact ⟨b, vs, setTab_tab.2 (.inl ⟨rfl, rfl⟩)⟩
    · replace hm : lk (insl st.tabs n cs) m = some cs' := hm
      rw [lk_insl_ne _ _ _ _ e] at hm
      obtain ⟨b', vs', h1⟩ := h.s.tbs m cs' hm
      exact ⟨b', vs', hle _ _ h1⟩
  · rcases setTab_tab.1 hm with ⟨rfl, e⟩ | ⟨hne, hm⟩
    · omega
    · exact h.s.low m b' vs' hlow hm

/-- A slice that is written no more. -/
theorem only_addZ_bk {n : Nat} {Y : Nat → Prop} {i b : Nat} : Bk ((g.hide (only n)).addZ Y) i b ↔ i ≠ 2 * n ∧ Bk g i b := by
  rw [addZ_bk, hide_bk]
  simp [only]
def Gh.ro (g : Gh) (n : Nat) : Gh := (g.hide (only n)).addZ fun b => ∃ x, g.own n = some x ∧ g.fp n b
theorem ro_own {n m : Nat} {y : Value × C} : (g.ro n).own m = some y ↔ m ≠ n ∧ g.own m = some y := only_own
theorem ro_tab {n : Nat} : (g.ro n).tab = g.tab := only_tab
theorem SG.ro (s : SG F g w st a) (hw : WG F g w) {n : Nat} : SG F (g.ro n) w (st.sub n .ro) a := by
  have hz : Stay g.Z w (g.ro n).Z w := fun b hb => ⟨.inl hb, rfl⟩
  have gl : Gl (fun m => m == n) g (g.ro n) := ⟨only_gl.own, only_gl.inn, only_gl.tab, only_gl.sus⟩
  have htab : ∀ m b' vs, g.tab m = some (b', vs) → (g.ro n).tab m = some (b', vs) := fun m b' vs h => by rw [ro_tab]; exact h
  have tr : Tr g w (g.ro n) w (X.sub n .ro) := by
    refine tr_ro n hz gl (fun m b vs h => ⟨vs, htab m b vs h⟩) (fun v c hn hc => (hw.own n v c hn).reads hc (fun _ h => .inl h) fun b hb => .inr ⟨_, hn, hb⟩) (fun v xs i ys hn hi => ?_)
    rcases hw.own n v _ hn with ⟨_, h0⟩ | ⟨b, off, cap, l, rfl, _, _, _, _, h5⟩
    · have := (List.getElem?_eq_some_iff.1 hi).1
      have h0 : xs.length = 0 := h0
      omega
    · have h5 : Rows w xs (fun _ => False) l off b (g.fp n) (g.inn n) := h5
      exact (h5.own i ys hi fun h => h).reads fun b' _ q => .inr ⟨_, hn, q.1⟩
  refine s.map tr (s.mapTabs tr fun m b vs h => by rw [ro_tab] at h; exact h) (s.mapTbs fun m b' vs h => ⟨b', vs, htab m b' vs h⟩) (fun m c hm => ?_) (fun k m d t hm => ?_) (fun m b vs hl h => s.low m b vs hl (by rw [ro_tab] at h; exact h))
  · rw [lk_filter0 (fun m => m == n)] at hm
    cases e : m == n
    · rw [e, cond_false] at hm
      exact ro_own.2 ⟨by simpa using e, s.mus m c hm⟩
    · rw [e] at hm; cases hm
  · obtain ⟨h1, h2⟩ := List.mem_filter.1 hm
    obtain ⟨u, h3, h4⟩ := s.sus k m d t h1
    simp only [Bool.not_eq_true', Bool.or_eq_false_iff, beq_eq_false_iff_ne] at h2
    exact ⟨u, only_sus.2 ⟨h2, h3⟩, h4⟩
theorem WG.ro (k : WG F g w) {n : Nat} (hl : isLow n = false) : WG F (g.ro n) w := by
  refine (k.hide (only n)).addZ fun b ⟨x, hn, hb⟩ => ?_
  have h := k.bk _ b (.own hn hb)
  rw [two_half, hl] at h
  have h1 : F.w0.heap.size ≤ b := by rcases h.2.2 with q | q
                                     · exact q
                                     · cases q.2
  exact ⟨h.1, fun hm => by have := F.Mlt b hm; omega, .inr h1, (k.freed (.own hn hb) (by simp [only])).bk⟩
theorem R.ro (h : R F g st a w) {n : Nat} (hl : isLow n = false) : R F (g.ro n) (st.sub n .ro) a w := ⟨h.s.ro h.w, h.w.ro hl⟩

/-- A slice waits. -/
theorem SG.fork (s : SG F g w st a) {n m : Nat} {v : Value} {c : C} (hn : g.own n = some (v, c)) : SG F ((g.hide (only n)).setSus n (v, c, m)) w (st.fork n m c) a := by
  have gl : Gl (fun k => k == n) g ((g.hide (only n)).setSus n (v, c, m)) :=
    ⟨fun k x hp hk => only_own.2 ⟨by simpa using hp, hk⟩, fun _ _ _ _ => rfl, fun k b vs hp hk => ⟨vs, by show (g.hide (only n)).tab k = _; rw [only_tab]; exact hk⟩, fun k x y j hp hj hk => setSus_sus.2 (.inr ⟨by simpa using hp, only_sus.2 ⟨⟨by simpa using hp, by simpa using hj⟩, hk⟩⟩)⟩
  have htab : ∀ k b vs, ((g.hide (only n)).setSus n (v, c, m)).tab k = some (b, vs) ↔ g.tab k = some (b, vs) := fun k b vs => by
    show (g.hide (only n)).tab k = _ ↔ _
    rw [only_tab]
  have tr : Tr g w ((g.hide (only n)).setSus n (v, c, m)) w (X.fork n m) := tr_fork n m (Stay.refl _ _) gl (fun k b vs h => ⟨vs, (htab k b vs).2 h⟩) fun u d h => by
    rw [hn] at h
    injection h with h
    injection h with h1 h2
    subst h1 h2
    exact setSus_sus.2 (.inl ⟨rfl, rfl⟩)
  refine s.map tr (s.mapTabs tr fun k b vs h => (htab k b vs).1 h) (s.mapTbs fun k b vs h => ⟨b, vs, (htab k b vs).2 h⟩) (fun k d hk => ?_) (fun k j d t hk => ?_) (fun k b vs hl h => s.low k b vs hl ((htab k b vs).1 h))
  · rw [lk_filter0 (fun k => k == n)] at hk
    cases e : k == n
    · rw [e, cond_false] at hk
      exact only_own.2 ⟨by simpa using e, s.mus k d hk⟩
    · rw [e] at hk; cases hk
  · rcases mem_insl hk with e | hk
    · injection e with e1 e2
      injection e2 with e2 e3
      injection e3 with e3 e4
      subst e1 e2 e3
      refine ⟨v, setSus_sus.2 (.inl ⟨rfl, rfl⟩), fun ht => ?_⟩
      rw [ht] at e4
      obtain ⟨d, hd⟩ := Option.isSome_iff_exists.1 e4.symm
      have := s.mus k d hd
      rw [hn] at this
      injection this with this
      injection this
    · obtain ⟨h1, h2⟩ := List.mem_filter.1 hk
      obtain ⟨u, h3, h4⟩ := s.sus k j d t h1
      simp only [Bool.not_eq_true', Bool.or_eq_false_iff, beq_eq_false_iff_ne] at h2
      exact ⟨u, setSus_sus.2 (.inr ⟨h2.1, only_sus.2 ⟨h2, h3⟩⟩), h4⟩

/-- A store into a variable. -/
theorem SG.setTab (s : SG F g w st a) {n b : Nat} {vs vs' : List Value} {cs' : List X} (hz : Stay g.Z w g.Z w') (hn : g.tab n = some (b, vs)) (hx : XsR g w cs' vs') : SG F (g.setTab n (b, vs')) w' { st with tabs := setl st.tabs n cs' } a := by
  have tr : Tr g w (g.setTab n (b, vs')) w' id := by
    refine tr_id hz ⟨fun m x _ h => h, fun _ _ _ _ => rfl, fun m b' us _ hm => ?_, fun _ _ _ _ _ _ h => h⟩
    by_cases e : m = n
    · subst e
      rw [hn] at hm
      injection hm with hm
      injection hm with h1 h2
      subst h1
      exact ⟨vs', setTab_tab.2 (.inl ⟨rfl, rfl⟩)⟩
    · exact ⟨us, setTab_tab.2 (.inr ⟨e, hm⟩)⟩
  refine ⟨s.size, fun i x hx => ?_, s.defers, fun m b' us hm => ?_, fun m cs hm => ?_, s.mus, s.sus, fun m b' us hl hm => ?_⟩
  · obtain ⟨u, hu, hr⟩ := s.tmps i x hx
    exact ⟨u, hu, by simpa [map_id_v] using tr.v hr⟩
  · rcases setTab_tab.1 hm with ⟨rfl, e⟩ | ⟨hne, hm⟩
    · cases e
      obtain ⟨cs, h1, _⟩ := s.tabs _ _ _ hn
      exact ⟨cs', lk_setl_eq _ _ _ _ h1, by simpa using tr.xs hx⟩
    · obtain ⟨cs, h1, h2⟩ := s.tabs m b' us hm
      exact ⟨cs, (lk_setl_ne _ _ _ _ hne).trans h1, by simpa using tr.xs h2⟩
  · by_cases e : m = n
    · subst e; exact ⟨b, vs', setTab_tab.2 (.inl ⟨rfl, rfl⟩)⟩
    · replace hm : lk (setl st.tabs n cs') m = some cs := hm
      rw [lk_setl_ne _ _ _ _ e] at hm
      obtain ⟨b', us, h1⟩ := s.tbs m cs hm
      exact ⟨b', us, setTab_tab.2 (.inr ⟨e, h1⟩)⟩
  · rcases setTab_tab.1 hm with ⟨rfl, e⟩ | ⟨hne, hm⟩
    · cases e; exact s.low _ _ _ hl hn
    · exact s.low m b' us hl hm
/-- A variable's name alone. -/
def onlyT (n : Nat) : Nat → Bool := fun i => i == 2 * n + 1
theorem onlyT_set {n : Nat} {x : Nat × List Value} : (g.hide (onlyT n)).setTab n x = g.setTab n x := by
  refine gh_ext (fun m => ?_) (fun m => ?_) rfl rfl rfl (fun m => ?_)
  · have : onlyT n (2 * m) = false := by simp only [onlyT, beq_eq_false_iff_ne]; omega
    simp [Gh.setTab, Gh.hide, this]
  · simp only [Gh.setTab, Gh.hide]
    by_cases e : m = n
    · simp [e]
    · have : onlyT n (2 * m + 1) = false := by simp only [onlyT, beq_eq_false_iff_ne]; omega
      simp [e, this]
  · have : ∀ k, onlyT n (2 * k) = false := fun k => by simp only [onlyT, beq_eq_false_iff_ne]; omega
    simp only [Gh.setTab, Gh.hide, this]
    cases g.sus m with
    | none => rfl
    | some x => rfl
theorem WG.setTab (h : WG F g w) {n b : Nat} {vs vs' : List Value} (hn : g.tab n = some (b, vs)) (hos : w'.os = w.os) (ht : w'.tape = w.tape) (hout : w'.output = w.output) (hs : w'.heap.size = w.heap.size) (hh : ∀ b', b' ≠ b → w'.heap[b']? = w.heap[b']?) (hr : row w' b = some vs') : WG F (g.setTab n (b, vs')) w' := by
  have h1 := h.move (onlyT n) (fun b' => b' = b) hos ht hout (by omega) (fun b' _ hb => hh b' hb) fun b' hb => ⟨2 * n + 1, by rw [hb]; exact .tab hn, by simp [onlyT]⟩
  have h2 := h1.newTab (n := n) (b := b) (vs := vs') (by simp [Gh.hide, onlyT]) hr (h.freed (.tab hn) (by simp [onlyT])) (by have := (h.bk _ b (.tab hn)).2.2; rwa [two_half1] at this)
  rwa [onlyT_set] at h2
theorem R.setTab (h : R F g st a w) {n b : Nat} {vs vs' : List Value} {cs' : List X} (hn : g.tab n = some (b, vs)) (hx : XsR g w cs' vs')
    (hos : w'.os = w.os) (ht : w'.tape = w.tape) (hout : w'.output = w.output) (hs : w'.heap.size = w.heap.size) (hh : ∀ b', b' ≠ b → w'.heap[b']? = w.heap[b']?) (hr : row w' b = some vs') :
    R F (g.setTab n (b, vs')) { st with tabs := setl st.tabs n cs' } a w' :=
  ⟨h.s.setTab (fun b' hb' => ⟨hb', hh b' fun e => (h.w.bk _ b (.tab hn)).2.1 (e ▸ hb')⟩) hn hx, h.w.setTab hn hos ht hout hs hh hr⟩

/-- A slice's memory goes over to another name. -/
theorem R.reown (h : R F g st a w) {n n' : Nat} {p : Nat → Bool} {v v' : Value} {c c' : C} {B : Nat → Prop} {I : Nat → Value} (hn : g.own n = some (v, c)) (hp : p n = true) (hp' : p n' = true) (hlow : isLow n = true → isLow n' = true) (hos : w'.os = w.os) (ht : w'.tape = w.tape) (hout : w'.output = w.output) (hs : w.heap.size ≤ w'.heap.size)
    (hh : ∀ b, b < w.heap.size → ¬ g.fp n b → w'.heap[b]? = w.heap[b]?) (ho : OW w' g.Z v' c' B I) (hB : ∀ b, B b → b < w'.heap.size ∧ (w.heap.size ≤ b ∨ ∃ k x, g.own k = some x ∧ p k = true ∧ g.fp k b ∧ (isLow k = true → isLow n' = true))) :
    R F ((g.drop p).setOwn n' (v', c') B I) (st.drop p) a w' := by
  have h1 := h.w.move (evens p) (g.fp n) hos ht hout hs (fun b hb hx => hh b hb hx) fun b hb => ⟨_, .own hn hb, by rw [evens_own]; exact hp⟩
  have h2 : R F (g.drop p) (st.drop p) a w' := ⟨(h.s.drop p).stay fun b hb => ⟨hb, hh b (h.w.Zok b hb).1 fun hf => (h.w.bk _ b (.own hn hf)).2.1 hb⟩, h1⟩
  refine h2.newOwn ?_ ?_ ho fun b hb => ?_
  · cases e : (g.drop p).own n' with
    | none => rfl
    | some x => have := (drop_own.1 e).1; rw [hp'] at this; cases this
  · cases e : (g.drop p).sus n' with
    | none => rfl
    | some x => obtain ⟨v, c, j⟩ := x; have := (drop_sus.1 e).1.1; rw [hp'] at this; cases this
  · obtain ⟨hlt, hb⟩ := hB b hb
    refine ⟨hlt, ?_⟩
    rcases hb with hb | ⟨k, x, hk, hpk, hf, hl⟩
    · exact ⟨(h.w.free hb).hide, .inl (by have := h.w.size; omega)⟩
    · have := (h.w.bk _ b (.own hk hf)).2.2
      rw [two_half] at this
      exact ⟨h.w.freed (.own hk hf) (by rw [evens_own]; exact hpk), this.imp id fun q => ⟨q.1, hl q.2⟩⟩
end
end Go.BV

/-
  Operations that write nothing: they answer alike whatever comes behind them.
-/
namespace Go.BV

def aggB : TypeDesc → Bool
  | .struct _ => true
  | .array _ _ => true
  | _ => false
/-- What is told of a type is so. -/
def DescOk (P : Program) (t : TypeId) : TU → Prop
  | .int k => P.underlying t = some (.int k)
  | .bool => P.underlying t = some .bool
  | .str => P.underlying t = some .string
  | .slice c => ∃ e ie ze, P.underlying t = some (.slice e) ∧ (match c with | .ints k _ => P.underlying e = some (.int k) | _ => True) ∧ (∃ d, P.underlying e = some d ∧ aggB d = false) ∧ P.info? e = some ie ∧ ie.size = 1 ∧ ie.bytes ≤ 64 ∧ ie.zero = some ze ∧ ze.cells = #[ze] ∧ (c.plain = true ∨ ze = .slice none 0 0) ∧ ∀ w Z n i, i < n → SR w Z ((c.zeros n).get i) ze
  | .struct fs => ∃ fields, P.underlying t = some (.struct fields) ∧ fields.size = fs.length ∧ ∀ (i off size : Nat) (ag : Bool), fs[i]? = some (off, size, ag) → ∃ f inf d, fields[i]? = some f ∧ f.offset = off ∧ P.info? f.type = some inf ∧ inf.size = size ∧ size ≠ 0 ∧ P.underlying f.type = some d ∧ ag = aggB d
  | .one => ∃ d, P.underlying t = some d ∧ aggB d = false
  | .other => True
structure TOk (P : Program) (t : TypeId) (i : TI) : Prop where
  info : ∃ inf z, P.info? t = some inf ∧ inf.size = i.size ∧ inf.zero = some z ∧ ∀ g w, XsR g w i.zero z.cells.toList
  desc : DescOk P t i.u
structure TsOk (P : Program) (T : TypeId → TI) : Prop where
  ok : ∀ t, (T t).u ≠ .other → TOk P t (T t)
  no : ∀ t, (T t).u = .other → (T t).size = 0 ∧ (T t).zero = []

def Nat1 (o : Ora) : Prop := ∀ (ρ : Type) (ds : List DU) (K : Out → Option ρ), o.G ds K = (o.G ds some).bind K

section
variable {ρ : Type} (T : TypeId → TI) (O : Env)
def cvD (site : Nat) (op : Op) (e : Operand → V) (tb : Nat → Option (List X)) : Option (V × Option (List X)) := cv T O site op e tb fun v x => some (v, x)

theorem intOp_nat (op : BinOp) (k : IntKind) (a b : Int) (K : X → Option ρ) : intOp op k a b K = (intOp op k a b some).bind K := by
  cases op <;> simp only [intOp] <;> first | rfl | (split <;> rfl)
theorem shOp_nat (op : BinOp) (k : IntKind) (a b : Int) (K : X → Option ρ) : shOp op k a b K = (shOp op k a b some).bind K := by
  cases op <;> simp only [shOp] <;> first | rfl | (split <;> rfl)
theorem strOp_nat (op : BinOp) (a b : ByteArray) (K : X → Option ρ) : strOp op a b K = (strOp op a b some).bind K := by
  cases op <;> simp only [strOp] <;> first | rfl | (split <;> rfl)
theorem binV_nat (u : TU) (op : BinOp) (x y : V) (K : X → Option ρ) : binV u op x y K = (binV u op x y some).bind K := by
  unfold binV
  split
  · cases isSh op
    · simp only [cond_false]
      split
      · exact intOp_nat ..
      · rfl
    · exact shOp_nat ..
  · split <;> rfl
  · exact strOp_nat ..
  · rfl
theorem unV_nat (op : UnOp) (x : V) (K : X → Option ρ) : unV op x K = (unV op x some).bind K := by
  unfold unV
  split <;> rfl
theorem bound_nat (lo hi : Option V) (n : Nat) (K : Nat → Nat → Option ρ) : bound lo hi n K = (bound lo hi n fun l h => some (l, h)).bind fun (l, h) => K l h := by
  unfold bound
  split <;> first | rfl | (split <;> first | rfl | (split <;> first | rfl | (split <;> rfl)))
theorem bindc {σ : Type} (c : Bool) {a b : Option ρ} {a' b' : Option σ} {f : σ → Option ρ} (h1 : a = a'.bind f) (h2 : b = b'.bind f) : cond c a b = (cond c a' b').bind f := by cases c <;> assumption
theorem bindi {σ : Type} {p : Prop} [Decidable p] {a b : Option ρ} {a' b' : Option σ} {f : σ → Option ρ} (h1 : a = a'.bind f) (h2 : b = b'.bind f) : (if p then a else b) = (if p then a' else b').bind f := by split <;> assumption
theorem binV_bind {σ : Type} {u : TU} {op : BinOp} {x y : V} {A : X → Option ρ} {A' : X → Option σ} {f : σ → Option ρ} (h : ∀ r, A r = (A' r).bind f) : binV u op x y A = (binV u op x y A').bind f := by
  rw [binV_nat, binV_nat (ρ := σ)]; cases binV u op x y some
  · rfl
  · exact h _
theorem unV_bind {σ : Type} {op : UnOp} {x : V} {A : X → Option ρ} {A' : X → Option σ} {f : σ → Option ρ} (h : ∀ r, A r = (A' r).bind f) : unV op x A = (unV op x A').bind f := by
  rw [unV_nat, unV_nat (ρ := σ)]; cases unV op x some
  · rfl
  · exact h _
theorem bound_bind {σ : Type} {lo hi : Option V} {n : Nat} {A : Nat → Nat → Option ρ} {A' : Nat → Nat → Option σ} {f : σ → Option ρ} (h : ∀ r s, A r s = (A' r s).bind f) : bound lo hi n A = (bound lo hi n A').bind f := by
  rw [bound_nat, bound_nat (ρ := σ)]; cases bound lo hi n fun l h => some (l, h)
  · rfl
  · exact h _ _
theorem G_bind {σ : Type} {o : Ora} (ho : Nat1 o) {ds : List DU} {A : Out → Option ρ} {A' : Out → Option σ} {f : σ → Option ρ} (h : ∀ r, A r = (A' r).bind f) : o.G ds A = (o.G ds A').bind f := by
  rw [ho, ho σ]; cases o.G ds some
  · rfl
  · exact h _
variable {T O}
theorem cv_nat (hO : ∀ f o, O.fn f = some o → Nat1 o) (site : Nat) (op : Op) (e : Operand → V) (tb : Nat → Option (List X)) (K : V → Option (List X) → Option ρ) :
    cv T O site op e tb K = (cvD T O site op e tb).bind fun p => K p.1 p.2 := by
  unfold cvD cv
  repeat' first
    | rfl
    | refine bindc _ ?_ ?_
    | refine bindi ?_ ?_
    | exact binV_bind fun r => rfl
    | exact unV_bind fun r => rfl
    | exact bound_bind fun r s => rfl
    | refine G_bind (hO _ _ ‹_›) fun r => ?_
    | split
end
end Go.BV

/-
  Operations that write nothing: what the model's machine does is what the evaluator says.
-/
namespace Go.BV

/-- Nothing is named so. -/
structure Fr (g : Gh) (n : Nat) : Prop where
  own : g.own n = none
  tab : g.tab n = none
  sus : g.sus n = none
structure Fresh (site : Nat) (g : Gh) (st : St) : Prop where
  fr : ∀ j, j < 16 → Fr g (nm site j)
  frH : ∀ j, j < 16 → Fr g (nm site j + high)
  tb : ∀ j, j < 16 → st.tb (nm site j) = none
structure Ext (site : Nat) (g g' : Gh) : Prop where
  fr : ∀ n, (∀ j, j < 16 → n ≠ nm site j) → Fr g n → Fr g' n
theorem Ext.refl (site : Nat) (g : Gh) : Ext site g g := ⟨fun _ _ h => h⟩
def Nx (F : Fx) (site : Nat) (g : Gh) (st' : St) (next : Act → World → Prop) : Prop := ∀ g' a' w', R F g' st' a' w' → Ext site g g' → next a' w'

section
variable {P : Program} {T : TypeId → TI} {O : Env} {F : Fx} {g : Gh} {st : St} {a : Act} {w : World} {o : Oper} {site : Nat} {next : Act → World → Prop} {Q : Exit → Act → World → Prop}

theorem ev_ok (h : SG F g w st a) (x : Operand) : VR g w (ev st x) (a.eval x) := by
  cases x with
  | tmp t =>
    show VR g w (st.tmps.getD t _) (a.tmps.getD t undef)
    cases ht : st.tmps[t]? with
    | some v =>
      obtain ⟨u, hu, hr⟩ := h.tmps t v ht
      rw [List.getD_eq_getElem?_getD, ht, Array.getD_eq_getD_getElem?, hu]
      exact hr
    | none =>
      rw [List.getD_eq_getElem?_getD, ht]
      trivial
  | const v =>
    show VR g w (ofConst v) v
    unfold ofConst
    split <;> first | rfl | trivial | exact ⟨rfl, rfl⟩
  | global n => trivial
  | func f => exact ⟨[], [], ⟨[], rfl, rfl⟩, trivial, rfl⟩

theorem fin_val (hR : R F g st a w) {v : V} {u : Value} (hv : VR g w v u) (hrun : (execOp a.eval o).run P w = .ok (.value u) w) (hn : Nx F site g (st.out site o.dst v none) next) : o.wp P a w next Q := by
  unfold Oper.wp
  rw [hrun]
  exact hn g _ _ (hR.put hv o.dst) (Ext.refl _ _)

theorem slice_one {v : Value} {n : Nat} {p : Nat → Value → Prop} {Z : Nat → Prop} (h : Reads w Z v n p) : v.oneCell' = true ∧ v.cells = #[v] := by
  obtain ⟨_, _, rfl, _⟩ := h; exact ⟨rfl, rfl⟩
theorem XR.one (hw : WG F g w) {x : X} {v : Value} (h : XR g w x v) (hc : x.cellOk = true) : v.oneCell' = true ∧ v.cells = #[v] := by
  cases x <;> simp only [XR, X.cellOk] at h hc
  case int => subst h; exact ⟨rfl, rfl⟩
  case bool => subst h; exact ⟨rfl, rfl⟩
  case str => subst h; exact ⟨rfl, rfl⟩
  case nil => rw [h.1]; exact ⟨rfl, rfl⟩
  case ro c => exact slice_one (CR_iff.1 h)
  case own n c =>
    rcases hw.own _ _ _ h with ⟨rfl, _⟩ | ⟨_, _, _, _, rfl, _⟩
    · exact ⟨rfl, rfl⟩
    · exact ⟨rfl, rfl⟩
  case bw n c i =>
    obtain ⟨v', xs, ys, h1, h2, _, rfl⟩ := h
    rcases hw.own _ _ _ h1 with ⟨_, h0⟩ | ⟨b, off, cap, l, rfl, _, _, _, _, h5⟩
    · have := (List.getElem?_eq_some_iff.1 h2).1
      have h0 : xs.length = 0 := h0
      omega
    · have h5 : Rows w xs (fun _ => False) l off b (g.fp n) (g.inn n) := h5
      rcases h5.own i ys h2 (fun h => h) with ⟨e, _⟩ | ⟨_, _, _, _, e, _⟩ <;> (rw [e]; exact ⟨rfl, rfl⟩)
  case sus => cases hc
  case el => obtain ⟨_, _, _, _, _, rfl⟩ := h; exact ⟨rfl, rfl⟩
  case roel => obtain ⟨_, _, _, _, _, rfl⟩ := h; exact ⟨rfl, rfl⟩
  case ptr => obtain ⟨_, _, _, rfl⟩ := h; exact ⟨rfl, rfl⟩
  case rop b cs o =>
    cases b
    · rw [h.2 rfl]; exact ⟨rfl, rfl⟩
    · obtain ⟨_, _, rfl⟩ := h.1 rfl; exact ⟨rfl, rfl⟩
  case fn => obtain ⟨_, _, _, _, rfl⟩ := h; exact ⟨rfl, rfl⟩
  case nilp => subst h; exact ⟨rfl, rfl⟩
  case undef => cases hc
theorem UR.cells (hw : WG F g w) {u : U} {v : Value} (h : UR g w u v) (hc : u.cells.all X.cellOk = true) : XsR g w u.cells v.cells.toList ∧ ∀ x ∈ v.cells.toList, x.oneCell' = true := by
  cases u with
  | x y =>
    simp only [U.cells, List.all_cons, List.all_nil, Bool.and_true] at hc
    have := XR.one hw (x := y) h hc
    rw [this.2]
    exact ⟨⟨h, trivial⟩, fun x hx => by simp at hx; rw [hx]; exact this.1⟩
  | agg xs =>
    obtain ⟨vs, rfl, h⟩ := h
    refine ⟨h, fun x hx => ?_⟩
    simp only [U.cells] at hc
    induction xs generalizing vs with
    | nil => cases vs with
      | nil => cases hx
      | cons => exact h.elim
    | cons y ys ih => cases vs with
      | nil => exact h.elim
      | cons v vs =>
        simp only [List.all_cons, Bool.and_eq_true] at hc
        rcases List.mem_cons.1 hx with rfl | hx
        · exact (XR.one hw h.1 hc.1).1
        · exact ih hc.2 vs h.2 hx

theorem SR.toX {s : S0} {v : Value} (h : SR w g.Z s v) : XR g w s.toX v := by cases s <;> exact h
theorem toX_ok (s : S0) : s.toX.cellOk = true := by cases s <;> rfl

/-! ### One by one -/
variable (hR : R F g st a w)
include hR

theorem s_move {x : Operand} (ho : o.op = .move x) (hn : Nx F site g (st.out site o.dst (ev st x) none) next) : o.wp P a w next Q :=
  fin_val hR (ev_ok hR.s x) (by simp [execOp, ho]) hn
theorem s_assign {x : Operand} (ho : o.op = .assign x) (hn : Nx F site g (st.out site o.dst (ev st x) none) next) : o.wp P a w next Q :=
  fin_val hR (ev_ok hR.s x) (by simp [execOp, ho]) hn
theorem ev_bool {x : Operand} {b : Bool} (h : ev st x = .u (.x (.bool b))) : a.eval x = .bool b := by have := ev_ok hR.s x; rw [h] at this; exact this
theorem ev_int {x : Operand} {k : IntKind} {b : Int} (h : ev st x = .u (.x (.int k b))) : a.eval x = .int k b := by have := ev_ok hR.s x; rw [h] at this; exact this
theorem ev_str {x : Operand} {b : ByteArray} (h : ev st x = .u (.x (.str b))) : a.eval x = .string b := by have := ev_ok hR.s x; rw [h] at this; exact this
theorem ev_x {x : Operand} {y : X} (h : ev st x = .u (.x y)) : XR g w y (a.eval x) := by have := ev_ok hR.s x; rw [h] at this; exact this
theorem ev_u {x : Operand} {y : U} (h : ev st x = .u y) : UR g w y (a.eval x) := by have := ev_ok hR.s x; rw [h] at this; exact this

theorem s_pick {c x y : Operand} {b : Bool} {r : Bool} (ho : o.op = .pick c x y) (hc : ev st c = .u (.x (.bool b))) (hr : (bif b then ev st x else ev st y) = .u (.x (.bool r)))
    (hn : Nx F site g (st.out site o.dst (.u (.x (.bool r))) none) next) : o.wp P a w next Q := by
  refine fin_val (v := .u (.x (.bool r))) (u := .bool r) hR rfl ?_ hn
  cases b
  · simp only [cond_false] at hr
    simp [execOp, ho, asBool, ev_bool hR hc, ev_bool hR hr]
  · simp only [cond_true] at hr
    simp [execOp, ho, asBool, ev_bool hR hc, ev_bool hR hr]

theorem s_nilCheck {x : Operand} (ho : o.op = .nilCheck x) {y : X} (hx : ev st x = .u (.x y)) (hy : (match y with | .ptr _ _ => true | .rop b _ _ => b | .el _ _ _ => true | .roel _ _ => true | .fn _ _ _ => true | _ => false) = true)
    (hn : Nx F site g (st.out site o.dst (.u (.x y)) none) next) : o.wp P a w next Q := by
  have h := ev_x hR hx
  refine fin_val (v := .u (.x y)) (u := a.eval x) hR h ?_ hn
  cases y <;> simp only [Bool.false_eq_true] at hy <;> simp only [XR] at h
  case ptr => obtain ⟨_, _, _, e⟩ := h; simp [execOp, ho, e]
  case rop => obtain ⟨_, _, e⟩ := h.1 hy; simp [execOp, ho, e]
  case el => obtain ⟨_, _, _, _, _, e⟩ := h; simp [execOp, ho, e]
  case roel => obtain ⟨_, _, _, _, _, e⟩ := h; simp [execOp, ho, e]
  case fn => obtain ⟨_, _, _, _, e⟩ := h; simp [execOp, ho, e]

theorem s_extract {t : Operand} {i : Nat} {us : List U} {u : U} (ho : o.op = .extract t i) (ht : ev st t = .tup us) (hi : us[i]? = some u)
    (hn : Nx F site g (st.out site o.dst (.u u) none) next) : o.wp P a w next Q := by
  have h := ev_ok hR.s t
  rw [ht] at h
  obtain ⟨vs, e, h⟩ := h
  obtain ⟨v, hv, hu⟩ : ∃ v, vs[i]? = some v ∧ UR g w u v := by
    clear ht e hn ho
    induction us generalizing vs i with
    | nil => simp at hi
    | cons x xs ih => cases vs with
      | nil => exact h.elim
      | cons y ys => cases i with
        | zero => simp at hi; subst hi; exact ⟨y, rfl, h.1⟩
        | succ i => simpa using ih (by simpa using hi) ys h.2
  exact fin_val (v := .u u) (u := v) hR hu (by simp [execOp, ho, Instr.extract, e, hv]) hn

theorem s_unOp {op : UnOp} {t : TypeId} {x : Operand} {r : X} (ho : o.op = .unOp op t x) (h : unV op (ev st x) some = some r) (hn : Nx F site g (st.out site o.dst (.u (.x r)) none) next) : o.wp P a w next Q := by
  unfold unV at h
  split at h
  · rename_i b hb
    injection h with h; subst h
    exact fin_val (v := .u (.x (.bool (!b)))) (u := .bool (!b)) hR rfl (by simp [execOp, ho, Op.unary, ev_bool hR hb]) hn
  · rename_i k n hb
    injection h with h; subst h
    exact fin_val (v := .u (.x (.int k (k.wrap (0 - n))))) (u := .int k (k.wrap (0 - n))) hR rfl (by simp [execOp, ho, Op.unary, Op.intArith, ev_int hR hb]) hn
  · cases h

def XV : X → Value
  | .int k n => .int k n
  | .bool b => .bool b
  | .str s => .string s
  | _ => undef
omit hR in
theorem intOp_ok {op : BinOp} {k : IntKind} {p q : Int} {r : X} {t : TypeId} (h : intOp op k p q some = some r) (hs : isSh op = false) : (Go.binOp op t (.int k p) (.int k q)).run P w = .ok (XV r) w ∧ XR g w r (XV r) := by
  cases op <;> simp only [intOp] at h
  case quo =>
    split at h
    · cases h
    · rename_i hq; injection h with h; subst h; exact ⟨by simp [binOp, Op.intDiv, hq, XV], rfl⟩
  case rem =>
    split at h
    · cases h
    · rename_i hq; injection h with h; subst h; exact ⟨by simp [binOp, Op.intDiv, hq, XV], rfl⟩
  case add => injection h with h; subst h; exact ⟨by simp [binOp, Op.intArith, XV], rfl⟩
  case sub => injection h with h; subst h; exact ⟨by simp [binOp, Op.intArith, XV], rfl⟩
  case mul => injection h with h; subst h; exact ⟨by simp [binOp, Op.intArith, XV], rfl⟩
  case and => injection h with h; subst h; exact ⟨by simp [binOp, Op.intBits, XV], rfl⟩
  case or => injection h with h; subst h; exact ⟨by simp [binOp, Op.intBits, XV], rfl⟩
  case xor => injection h with h; subst h; exact ⟨by simp [binOp, Op.intBits, XV], rfl⟩
  case eql => injection h with h; subst h; exact ⟨by simp [binOp, Op.intCmp, XV, bne]; by_cases e : p = q <;> simp [e], rfl⟩
  case neq => injection h with h; subst h; exact ⟨by simp [binOp, Op.intCmp, XV, bne]; by_cases e : p = q <;> simp [e], rfl⟩
  case lss => injection h with h; subst h; exact ⟨by simp [binOp, Op.intCmp, XV, bne], rfl⟩
  case leq => injection h with h; subst h; exact ⟨by simp [binOp, Op.intCmp, XV, bne], rfl⟩
  case gtr => injection h with h; subst h; exact ⟨by simp [binOp, Op.intCmp, XV, bne], rfl⟩
  case geq => injection h with h; subst h; exact ⟨by simp [binOp, Op.intCmp, XV, bne], rfl⟩
  all_goals cases h
omit hR in
theorem shOp_ok {op : BinOp} {k k' : IntKind} {p q : Int} {r : X} {t : TypeId} (h : shOp op k p q some = some r) : (binOp op t (.int k p) (.int k' q)).run P w = .ok (XV r) w ∧ XR g w r (XV r) := by
  cases op <;> simp only [shOp] at h
  case shl =>
    split at h
    · cases h
    · rename_i hq; injection h with h; subst h; exact ⟨by simp [binOp, Op.shift, hq, XV], rfl⟩
  case shr =>
    split at h
    · cases h
    · rename_i hq; injection h with h; subst h; exact ⟨by simp [binOp, Op.shift, hq, XV], rfl⟩
  all_goals cases h
omit hR in
theorem toList_eq (x y : ByteArray) : (x.toList == y.toList) = decide (x = y) := by
  rw [ByteArray.toList_eq, ByteArray.toList_eq]
  by_cases h : x = y
  · subst h; simp
  · have : x.data.toList ≠ y.data.toList := fun e => h (by cases x; cases y; simp at e; rw [e])
    rw [decide_eq_false h]
    simpa using fun e => this (by rw [e])
omit hR in
theorem strOp_ok {op : BinOp} {p q : ByteArray} {r : X} {t : TypeId} (h : strOp op p q some = some r) : (binOp op t (.string p) (.string q)).run P w = .ok (XV r) w ∧ XR g w r (XV r) := by
  cases op <;> simp only [strOp] at h
  case add =>
    split at h
    · rename_i hq
      injection h with h; subst h
      refine ⟨?_, rfl⟩
      have : ¬ (((p.size + q.size : Nat) : Int) > IntKind.i64.max) := by simp [IntKind.max, IntKind.bits, IntKind.signed]; omega
      simp only [binOp, Op.stringOp, if_neg this]
      rfl
    · cases h
  case eql => injection h with h; subst h; exact ⟨by simp only [binOp, Op.stringOp, toList_eq]; rfl, rfl⟩
  case neq => injection h with h; subst h; exact ⟨by simp only [binOp, Op.stringOp, toList_eq]; rfl, rfl⟩
  all_goals cases h
omit hR in
theorem eq_bool {t : TypeId} {p q : Bool} (hd : P.underlying t = some .bool) : (Op.equal t (.bool p) (.bool q)).run P w = .ok (p == q) w := by
  have : ∀ d, (Op.equalIn (d + 1) t (.bool p) (.bool q)).run P w = .ok (p == q) w := fun d => by simp only [Op.equalIn, Sem.run_bind, run_underlying hd, Result.andThen_ok, Sem.run_pure]
  exact this 9999
theorem s_binOp {op : BinOp} {t t' : TypeId} {x y : Operand} {r : X} (hT : TsOk P T) (ho : o.op = .binOp op t x y t') (h : binV (T t).u op (ev st x) (ev st y) some = some r) (hn : Nx F site g (st.out site o.dst (.u (.x r)) none) next) : o.wp P a w next Q := by
  have hex : execOp a.eval o = (do pure (Next.value (← (do eqGuard op t x y (a.eval x) (a.eval y); binOp op t (a.eval x) (a.eval y))))) := by simp only [execOp, ho]
  unfold binV at h
  split at h
  · rename_i k p k' q hx hy
    have hx := ev_int hR hx
    have hy := ev_int hR hy
    have key : (binOp op t (.int k p) (.int k' q)).run P w = .ok (XV r) w ∧ XR g w r (XV r) := by
      cases hs : isSh op
      · rw [hs] at h
        simp only [cond_false] at h
        split at h
        · rename_i hk; subst hk; exact intOp_ok h hs
        · cases h
      · rw [hs] at h; exact shOp_ok h
    refine fin_val (v := .u (.x r)) hR key.2 ?_ hn
    rw [hex, hx, hy]
    simp only [Sem.run_bind]
    rw [show (eqGuard op t x y (Value.int k p) (Value.int k' q)).run P w = .ok () w by simp [eqGuard]]
    simp only [Result.andThen_ok, key.1, Sem.run_pure]
  · rename_i p q hx hy
    have hx := ev_bool hR hx
    have hy := ev_bool hR hy
    split at h
    · rename_i hu
      have hd := (hT.ok t (by rw [hu]; intro e; cases e)).desc
      rw [hu] at hd
      injection h with h; subst h
      refine fin_val (v := .u (.x (.bool (p == q)))) (u := .bool (p == q)) hR rfl ?_ hn
      rw [hex, hx, hy]
      simp only [Sem.run_bind]
      rw [show (eqGuard _ t x y (Value.bool p) (Value.bool q)).run P w = .ok () w by simp [eqGuard]]
      simp only [Result.andThen_ok, binOp, Sem.run_bind, eq_bool hd, Sem.run_pure]
    · rename_i hu
      have hd := (hT.ok t (by rw [hu]; intro e; cases e)).desc
      rw [hu] at hd
      injection h with h; subst h
      refine fin_val (v := .u (.x (.bool (!(p == q))))) (u := .bool (!(p == q))) hR rfl ?_ hn
      rw [hex, hx, hy]
      simp only [Sem.run_bind]
      rw [show (eqGuard _ t x y (Value.bool p) (Value.bool q)).run P w = .ok () w by simp [eqGuard]]
      simp only [Result.andThen_ok, binOp, Sem.run_bind, eq_bool hd, Sem.run_pure]
    · cases h
  · rename_i p q hx hy
    have hx := ev_str hR hx
    have hy := ev_str hR hy
    have key := strOp_ok (P := P) (w := w) (g := g) (t := t) h
    refine fin_val (v := .u (.x r)) hR key.2 ?_ hn
    rw [hex, hx, hy]
    simp only [Sem.run_bind]
    rw [show (eqGuard op t x y (Value.string p) (Value.string q)).run P w = .ok () w by simp [eqGuard]]
    simp only [Result.andThen_ok, key.1, Sem.run_pure]
  · cases h
end
end Go.BV

/-
  Operations that write nothing, and operations that make memory.
-/
namespace Go.BV
section
variable {P : Program} {T : TypeId → TI} {O : Env} {F : Fx} {g : Gh} {st : St} {a : Act} {w : World} {o : Oper} {site : Nat} {next : Act → World → Prop} {Q : Exit → Act → World → Prop}

theorem desc (hT : TsOk P T) {t : TypeId} {u : TU} (h : (T t).u = u) (hu : u ≠ .other) : DescOk P t u := by
  have := (hT.ok t (by rw [h]; exact hu)).desc
  rwa [h] at this

variable (hR : R F g st a w)
include hR

theorem s_convInt {s d : TypeId} {x : Operand} {k' k k'' : IntKind} {n : Int} (hT : TsOk P T) (ho : o.op = .convert s d x) (hs : (T s).u = .int k') (hd : (T d).u = .int k) (hx : ev st x = .u (.x (.int k'' n)))
    (hn : Nx F site g (st.out site o.dst (.u (.x (.int k (k.wrap n)))) none) next) : o.wp P a w next Q := by
  refine fin_val (v := .u (.x (.int k (k.wrap n)))) (u := .int k (k.wrap n)) hR rfl ?_ hn
  simp [execOp, ho, convert, run_underlying (desc hT hs (by simp)), run_underlying (desc hT hd (by simp)), ev_int hR hx, Conv.intToInt]

theorem s_convStr {s d : TypeId} {x : Operand} {ys : List Int} {m : Nat} {xs : List Int} (hT : TsOk P T) (ho : o.op = .convert s d x) (hs : (T s).u = .slice (.ints .u8 ys)) (hd : (T d).u = .str) (hx : ev st x = .u (.x (.own m (.ints .u8 xs))))
    (hn : Nx F site g (st.out site o.dst (.u (.x (.str ⟨(xs.map fun n => UInt8.ofNat n.toNat).toArray⟩))) none) next) : o.wp P a w next Q := by
  refine fin_val (v := .u (.x (.str (strOfNums xs)))) (u := .string (strOfNums xs)) hR rfl ?_ hn
  obtain ⟨e, ie, ze, h1, h2, _⟩ := desc hT hs (by simp)
  have h := hR.w.own _ _ _ (ev_x hR hx)
  have hd := desc hT hd (by simp)
  have key : (convert s d (a.eval x)).run P w = .ok (.string (strOfNums xs)) w := by
    rcases h with ⟨e1, e2⟩ | ⟨b, off, cap, l, e1, h3, h4, h5, _, h6⟩
    · rw [e1, run_convert_bytes_nil w s e h1 h2 0 0 d hd]
      have : xs = [] := List.eq_nil_of_length_eq_zero (by simpa [C.len] using e2)
      rw [this]; rfl
    · rw [e1]
      exact run_convert_bytes_arg w s e h1 h2 b off _ cap xs rfl (fun i hi => by
        obtain ⟨u, hu, hs⟩ := (cells_plain rfl).1 h6 i hi
        rw [row_cell h3, hu]
        simp only [C.get, SR] at hs
        rw [hs]) d hd
  simp only [execOp, ho, Sem.run_bind, key, Result.andThen_ok, Sem.run_pure]

theorem s_fieldPtr {t : TypeId} {x : Operand} {f : Nat} {fs : List (Nat × Nat × Bool)} {n k off size : Nat} {ag : Bool} (hT : TsOk P T) (ho : o.op = .fieldAddr t x f) (ht : (T t).u = .struct fs) (hf : fs[f]? = some (off, size, ag)) (hx : ev st x = .u (.x (.ptr n k)))
    (hn : Nx F site g (st.out site o.dst (.u (.x (.ptr n (k + off)))) none) next) : o.wp P a w next Q := by
  obtain ⟨fields, h1, _, h3⟩ := desc hT ht (by simp)
  obtain ⟨fd, inf, d, h4, h5, h6, h7, h8, _⟩ := h3 f off size ag hf
  obtain ⟨b, vs, h9, h10⟩ := ev_x hR hx
  refine fin_val (v := .u (.x (.ptr n (k + off)))) (u := .pointer (some ⟨b, k + off, none⟩)) hR ⟨b, vs, h9, rfl⟩ ?_ hn
  simp [execOp, ho, Instr.fieldAt, run_underlying h1, h4, h10, Instr.sureAddr, fieldPlace, sizeOf, typeInfo, h6, h7, h8, h5, add_none]

theorem s_fieldRop {t : TypeId} {x : Operand} {f : Nat} {fs : List (Nat × Nat × Bool)} {cs : List S0} {k off size : Nat} {ag : Bool} (hT : TsOk P T) (ho : o.op = .fieldAddr t x f) (ht : (T t).u = .struct fs) (hf : fs[f]? = some (off, size, ag)) (hx : ev st x = .u (.x (.rop true cs k)))
    (hn : Nx F site g (st.out site o.dst (.u (.x (.rop true cs (k + off)))) none) next) : o.wp P a w next Q := by
  obtain ⟨fields, h1, _, h3⟩ := desc hT ht (by simp)
  obtain ⟨fd, inf, d, h4, h5, h6, h7, h8, _⟩ := h3 f off size ag hf
  obtain ⟨ad, h9, h10⟩ := (ev_x hR hx).1 rfl
  refine fin_val (v := .u (.x (.rop true cs (k + off)))) (u := .pointer (some ⟨ad.block, ad.off + (k + off), none⟩)) hR ⟨fun _ => ⟨ad, h9, rfl⟩, fun h => by cases h⟩ ?_ hn
  simp [execOp, ho, Instr.fieldAt, run_underlying h1, h4, h10, Instr.sureAddr, fieldPlace, sizeOf, typeInfo, h6, h7, h8, h5, add_none, Nat.add_assoc]

theorem run_isAgg {t : TypeId} {d : TypeDesc} (h : P.underlying t = some d) : (isAgg t).run P w = .ok (aggB d) w := by
  have _ := hR
  simp only [isAgg, Sem.run_bind, run_underlying h, Result.andThen_ok]
  cases d <;> rfl
theorem cut_ok {α : Type} {xs ys : List α} {off n : Nat} (h : cut xs off n = some ys) : off + n ≤ xs.length ∧ ys = (xs.drop off).take n := by
  have _ := hR
  unfold cut at h
  cases e : Nat.ble (off + n) xs.length
  · rw [e] at h; cases h
  · rw [e] at h
    injection h with h
    exact ⟨Nat.le_of_ble_eq_true e, h.symm⟩
theorem s_field {t : TypeId} {x : Operand} {f : Nat} {fs : List (Nat × Nat × Bool)} {xs ys : List X} {off size : Nat} {ag : Bool} {u : U} (hT : TsOk P T) (ho : o.op = .field t x f) (ht : (T t).u = .struct fs) (hx : ev st x = .u (.agg xs)) (hf : fs[f]? = some (off, size, ag))
    (hc : cut xs off size = some ys) (hu : U.ofCells ag ys = some u) (hn : Nx F site g (st.out site o.dst (.u u) none) next) : o.wp P a w next Q := by
  obtain ⟨fields, h1, _, h3⟩ := desc hT ht (by simp)
  obtain ⟨fd, inf, d, h4, h5, h6, h7, h8, h9, h10⟩ := h3 f off size ag hf
  obtain ⟨vs, h11, h12⟩ := ev_u hR hx
  obtain ⟨h13, rfl⟩ := cut_ok hR hc
  have hys := (h12.drop off).take size
  have hl := h12.length
  have hag := run_isAgg (P := P) (w := w) hR h9
  rw [← h10] at hag
  cases ag with
  | true =>
    simp only [U.ofCells] at hu
    injection hu with hu
    subst hu
    refine fin_val (v := .u (.agg _)) (u := .agg ((vs.drop off).take size).toArray) hR ⟨_, rfl, hys⟩ ?_ hn
    simp [execOp, ho, Instr.field, run_underlying h1, h4, h11, asAgg, Go.part, hag, sizeOf, typeInfo, h6, h7, h5]
  | false =>
    generalize hys' : (xs.drop off).take size = l at hu hys
    cases l with
    | nil => simp [U.ofCells] at hu
    | cons y r =>
      cases r with
      | cons _ _ => simp [U.ofCells] at hu
      | nil =>
        simp only [U.ofCells] at hu
        injection hu with hu
        subst hu
        generalize hvs : (vs.drop off).take size = m at hys
        cases m with
        | nil => exact hys.elim
        | cons v r' =>
          have hv : vs[off]? = some v := by
            have := congrArg (fun l => l[0]?) hvs
            simp only [List.getElem?_take, List.getElem?_drop, List.getElem?_cons_zero] at this
            split at this
            · simpa using this
            · cases this
          refine fin_val (v := .u (.x y)) (u := v) hR hys.1 ?_ hn
          simp [execOp, ho, Instr.field, run_underlying h1, h4, h11, asAgg, Go.part, hag, h5, hv]

theorem get_cell {c : C} {ad : Addr} {len cap : Nat} (h : CR w g.Z c (.slice (some ad) len cap)) {i : Nat} (hi : i < c.len) : ∃ u, w.cell? (ad.add i) = some u ∧ SR w g.Z (c.get i) u := by
  have _ := hR
  obtain ⟨a', cap', e, _, _, h2⟩ := CR_iff.1 h
  injection e with e1 e2 e3
  exact h2 ad e1.symm i hi
theorem s_indexOwn {t : TypeId} {x i : Operand} {e : C} {n : Nat} {c : C} {k : IntKind} {j : Int} (hT : TsOk P T) (ho : o.op = .indexAddr t x i) (ht : (T t).u = .slice e) (hx : ev st x = .u (.x (.own n c))) (hi : ev st i = .u (.x (.int k j))) (h0 : 0 ≤ j) (h1 : j < (c.len : Int))
    (hn : Nx F site g (st.out site o.dst (.u (.x (.el n c j.toNat))) none) next) : o.wp P a w next Q := by
  obtain ⟨el, ie, ze, d1, _, _, d2, d3, _⟩ := desc hT ht (by simp)
  have hown : g.own n = some (a.eval x, c) := ev_x hR hx
  rcases hR.w.own _ _ _ hown with ⟨e1, e2⟩ | ⟨b, off, cap, l, e1, _⟩
  · omega
  · rw [e1] at hown
    refine fin_val (v := .u (.x (.el n c j.toNat))) (u := .pointer (some ((⟨b, off, none⟩ : Addr).add j.toNat))) hR ⟨_, _, _, hown, by omega, rfl⟩ ?_ hn
    simp [execOp, ho, Instr.indexAt, e1, ev_int hR hi, asIntOf, run_underlying d1, h0, h1, sizeOf, typeInfo, d2, d3]
theorem s_indexRo {t : TypeId} {x i : Operand} {e : C} {c : C} {k : IntKind} {j : Int} (hT : TsOk P T) (ho : o.op = .indexAddr t x i) (ht : (T t).u = .slice e) (hx : ev st x = .u (.x (.ro c))) (hi : ev st i = .u (.x (.int k j))) (h0 : 0 ≤ j) (h1 : j < (c.len : Int))
    (hn : Nx F site g (st.out site o.dst (.u (.x (.roel c j.toNat))) none) next) : o.wp P a w next Q := by
  obtain ⟨el, ie, ze, d1, _, _, d2, d3, _⟩ := desc hT ht (by simp)
  have hro : CR w g.Z c (a.eval x) := ev_x hR hx
  obtain ⟨ad, cap, e1, _, h2, h3⟩ := CR_iff.1 hro
  obtain ⟨ad, rfl, _⟩ := h2 (by omega)
  rw [e1] at hro
  refine fin_val (v := .u (.x (.roel c j.toNat))) (u := .pointer (some (ad.add j.toNat))) hR ⟨_, _, _, hro, by omega, rfl⟩ ?_ hn
  simp [execOp, ho, Instr.indexAt, e1, ev_int hR hi, asIntOf, run_underlying d1, h0, h1, sizeOf, typeInfo, d2, d3]

theorem s_index {t : TypeId} {x i : Operand} {s : ByteArray} {k : IntKind} {j : Int} (hT : TsOk P T) (ho : o.op = .index t x i) (ht : (T t).u = .str) (hx : ev st x = .u (.x (.str s))) (hi : ev st i = .u (.x (.int k j))) (h0 : 0 ≤ j) (h1 : j < (s.size : Int))
    (hn : Nx F site g (st.out site o.dst (.u (.x (.int .u8 (s.data.toList.getD j.toNat 0).toNat))) none) next) : o.wp P a w next Q := by
  have d1 : P.underlying t = some .string := desc hT ht (by simp)
  refine fin_val (v := .u (.x (.int .u8 (s.data.toList.getD j.toNat 0).toNat))) (u := .int .u8 (s.data.toList.getD j.toNat 0).toNat) hR rfl ?_ hn
  have hlt : j.toNat < s.size := by omega
  have hg : s[j.toNat]? = some (s.data.toList.getD j.toNat 0) := by
    rw [getElem?_pos s j.toNat hlt]
    have : j.toNat < s.data.toList.length := by simpa using hlt
    simp [List.getD_eq_getElem?_getD, List.getElem?_eq_getElem this]
    rfl
  simp [execOp, ho, Instr.index, ev_str hR hx, ev_int hR hi, asIntOf, run_underlying d1, h0, hg]
end
end Go.BV

/-
  Loads, new memory, lengths.
-/
namespace Go.BV
section
variable {P : Program} {T : TypeId → TI} {O : Env} {F : Fx} {g : Gh} {st : St} {a : Act} {w : World} {o : Oper} {site : Nat} {next : Act → World → Prop} {Q : Exit → Act → World → Prop}

theorem XsR.stay {w' : World} (hz : Stay g.Z w g.Z w') {xs : List X} {vs : List Value} (h : XsR g w xs vs) : XsR g w' xs vs := by
  simpa using (tr_id (g := g) (g' := g) hz (Gl.refl _ g)).xs h
theorem VR.stay {w' : World} (hz : Stay g.Z w g.Z w') {v : V} {u : Value} (h : VR g w v u) : VR g w' v u := by
  simpa [map_id_v] using (tr_id (g := g) (g' := g) hz (Gl.refl _ g)).v h
/-- The cells behind an address, and the load of a type. -/
theorem known (hT : TsOk P T) {t : TypeId} (h : (T t).size ≠ 0) : (T t).u ≠ .other := fun e => h (hT.no t e).1
theorem aggOk {t : TypeId} {u : TU} (h : DescOk P t u) (hu : u ≠ .other) : ∃ d, P.underlying t = some d ∧ aggB d = u.isAgg := by
  cases u with
  | int k => exact ⟨_, h, rfl⟩
  | bool => exact ⟨_, h, rfl⟩
  | str => exact ⟨_, h, rfl⟩
  | slice c => obtain ⟨_, _, _, h, _⟩ := h; exact ⟨_, h, rfl⟩
  | struct fs => obtain ⟨_, h, _⟩ := h; exact ⟨_, h, rfl⟩
  | one => obtain ⟨d, h, hd⟩ := h; exact ⟨d, h, hd⟩
  | other => exact absurd rfl hu
theorem run_loadVar (hR : R F g st a w) (hT : TsOk P T) {t : TypeId} (hk : (T t).u ≠ .other) {ad : Addr} {vs : List Value} {ys : List X} {u : U} (hc : ∀ j v, vs[j]? = some v → w.cell? (ad.add j) = some v) (hx : XsR g w ys vs)
    (hl : ys.length = (T t).size) (hu : U.ofCells (T t).u.isAgg ys = some u) : ∃ v, (loadVar t ad).run P w = .ok v w ∧ UR g w u v := by
  have ht := hT.ok t hk
  obtain ⟨inf, z, h1, h2, _⟩ := ht.info
  obtain ⟨d, h3, h4⟩ := aggOk ht.desc hk
  have hag := run_isAgg (P := P) hR h3
  rw [h4] at hag
  have hlen := hx.length
  cases hb : (T t).u.isAgg with
  | true =>
    rw [hb] at hu hag
    simp only [U.ofCells] at hu
    injection hu with hu
    subst hu
    refine ⟨.agg vs.toArray, ?_, vs, rfl, hx⟩
    have := run_loadCells_list (P := P) w ad vs hc
    rw [← hlen, hl] at this
    simp [loadVar, hag, sizeOf, typeInfo, h1, h2, this]
  | false =>
    rw [hb] at hu hag
    cases ys with
    | nil => simp [U.ofCells] at hu
    | cons y r =>
      cases r with
      | cons _ _ => simp [U.ofCells] at hu
      | nil =>
        simp only [U.ofCells] at hu
        injection hu with hu
        subst hu
        cases vs with
        | nil => exact hx.elim
        | cons v r =>
          have h0 := hc 0 v rfl
          rw [show ad.add 0 = ad by simp [Addr.add]] at h0
          exact ⟨v, by simp [loadVar, hag, h0], hx.1⟩

theorem mapX {cs : List S0} {vs : List Value} (h : cs.length = vs.length) (hc : ∀ (i : Nat) s v, cs[i]? = some s → vs[i]? = some v → SR w g.Z s v) : XsR g w (cs.map S0.toX) vs := by
  induction cs generalizing vs with
  | nil => cases vs with
    | nil => trivial
    | cons => simp at h
  | cons s cs ih => cases vs with
    | nil => simp at h
    | cons v vs => exact ⟨SR.toX (hc 0 s v rfl rfl), ih (by simpa using h) fun i s' v' h1 h2 => hc (i + 1) s' v' (by simpa using h1) (by simpa using h2)⟩

variable (hR : R F g st a w)
include hR

theorem loadX_ok (hT : TsOk P T) {t : TypeId} {x : X} {ad : Value} {u : U} (hk : (T t).u ≠ .other) (hx : XR g w x ad) (h : loadX st.tb x (T t).size (T t).u.isAgg = some u) : ∃ b v, ad = .pointer (some b) ∧ (loadVar t b).run P w = .ok v w ∧ UR g w u v := by
  unfold loadX at h
  split at h
  · rename_i n k
    obtain ⟨b, vs, h1, rfl⟩ := hx
    obtain ⟨cs, h2, h3⟩ := hR.s.tabs n b vs h1
    rw [h2] at h
    simp only at h
    split at h
    · rename_i ys hc
      obtain ⟨h4, rfl⟩ := cut_ok hR hc
      have hl := h3.length
      obtain ⟨v, hv, hu⟩ := run_loadVar hR hT (t := t) hk (ad := ⟨b, k, none⟩) (vs := (vs.drop k).take (T t).size) (ys := (cs.drop k).take (T t).size) (u := u) (fun j v hj => by
        rw [add_none, row_cell (hR.w.tab n b vs h1)]
        rw [List.getElem?_take] at hj
        split at hj
        · simpa using hj
        · cases hj) ((h3.drop k).take _) (by simp; omega) h
      exact ⟨_, v, rfl, hv, hu⟩
    · cases h
  · rename_i cs k
    obtain ⟨b, ⟨h1, h2, h3⟩, rfl⟩ := hx.1 rfl
    split at h
    · rename_i ys hc
      obtain ⟨h4, rfl⟩ := cut_ok hR hc
      have hex : ∀ i : Nat, ∃ v, i < cs.length → w.cell? ⟨b.block, b.off + i, none⟩ = some v ∧ SR w g.Z (cs.getD i (.bool false)) v := by
        intro i
        by_cases hi : i < cs.length
        · obtain ⟨v, hv, hs⟩ := h3 i cs[i] (List.getElem?_eq_getElem hi)
          exact ⟨v, fun _ => ⟨hv, by simpa [List.getD_eq_getElem?_getD, List.getElem?_eq_getElem hi] using hs⟩⟩
        · exact ⟨.nilFunc, fun h => absurd h hi⟩
      have hex' := fun i => Classical.choose_spec (hex i)
      generalize hfd : (fun i => Classical.choose (hex i)) = f
      have hf : ∀ i, i < cs.length → w.cell? ⟨b.block, b.off + i, none⟩ = some (f i) ∧ SR w g.Z (cs.getD i (.bool false)) (f i) := fun i hi => by rw [← hfd]; exact hex' i hi
      obtain ⟨v, hv, hu⟩ := run_loadVar hR hT (t := t) hk (ad := ⟨b.block, b.off + k, none⟩) (vs := (List.range (T t).size).map fun j => f (k + j)) (ys := ((cs.drop k).take (T t).size).map S0.toX) (u := u) (fun j v hj => by
        rw [add_none]
        simp only [List.getElem?_map, Option.map_eq_some_iff, List.getElem?_range'] at hj
        obtain ⟨j', hj', rfl⟩ := hj
        obtain ⟨hlt, rfl⟩ := List.getElem?_eq_some_iff.1 hj'
        simp at hlt ⊢
        rw [Nat.add_assoc]
        exact (hf (k + j) (by omega)).1) (mapX (by simp; omega) (fun i s v h1 h2 => by
          simp only [List.getElem?_map, Option.map_eq_some_iff] at h2
          obtain ⟨j', hj', rfl⟩ := h2
          obtain ⟨hlt, rfl⟩ := List.getElem?_eq_some_iff.1 hj'
          simp at hlt ⊢
          rw [List.getElem?_take, if_pos hlt, List.getElem?_drop] at h1
          have := (hf (k + i) (by omega)).2
          rw [List.getD_eq_getElem?_getD, h1] at this
          exact this)) (by simp; omega) h
      exact ⟨_, v, rfl, hv, hu⟩
    · cases h
  · rename_i n c i
    cases hb : (T t).u.isAgg with
    | true => rw [hb] at h; cases h
    | false =>
      rw [hb] at h
      simp only [cond_false] at h
      obtain ⟨b, len, cap, h1, h2, rfl⟩ := hx
      obtain ⟨d, h7, h8⟩ := aggOk (hT.ok t hk).desc hk
      have hag := run_isAgg (P := P) hR h7
      rw [h8, hb] at hag
      rcases hR.w.own _ _ _ h1 with ⟨e, _⟩ | ⟨b', off, cap', l, e, h3, h4, h5, _, h6⟩
      · cases e
      · injection e with e1 e2 e3
        injection e1 with e1
        subst e1
        have plain : c.plain = true → some (U.x (c.get i).toX) = some u → ∃ b v, (Value.pointer (some ((⟨b', off, none⟩ : Addr).add i))) = .pointer (some b) ∧ (loadVar t b).run P w = .ok v w ∧ UR g w u v := fun hp h => by
          injection h with h
          subst h
          obtain ⟨v, hv, hs⟩ := (cells_plain hp).1 h6 i h2
          exact ⟨_, v, rfl, by simp [loadVar, hag, add_none, row_cell h3, hv], SR.toX hs⟩
        cases c with
        | orows xs =>
          injection h with h
          subst h
          have h6 : Rows w xs (fun _ => False) l off b' (g.fp n) (g.inn n) := h6
          have hi : i < xs.length := h2
          have hx : xs[i]? = some xs[i] := List.getElem?_eq_getElem hi
          obtain ⟨v, hv, hin⟩ := h6.cell i _ hx
          refine ⟨_, v, rfl, by simp [loadVar, hag, add_none, row_cell h3, hv], _, xs, xs[i], h1, hx, by simp [hi], hin fun h => h⟩
        | hrows xs j => cases h
        | _ => exact plain rfl h
  · rename_i c i
    cases hb : (T t).u.isAgg with
    | true => rw [hb] at h; cases h
    | false =>
      rw [hb] at h
      injection h with h
      subst h
      obtain ⟨b, len, cap, h1, h2, rfl⟩ := hx
      obtain ⟨v, hv, hs⟩ := get_cell hR h1 h2
      obtain ⟨d, h7, h8⟩ := aggOk (hT.ok t hk).desc hk
      have hag := run_isAgg (P := P) hR h7
      rw [h8, hb] at hag
      refine ⟨_, v, rfl, ?_, SR.toX hs⟩
      simp [loadVar, hag, hv]
  · cases h

theorem blt_ok {n : Nat} (h : Nat.blt 0 n = true) : n ≠ 0 := by
  have _ := hR
  have := Nat.le_of_ble_eq_true h
  omega
theorem s_load {t : TypeId} {x : Operand} {y : X} {u : U} (hT : TsOk P T) (ho : o.op = .load t x) (hx : ev st x = .u (.x y)) (hs : Nat.blt 0 (T t).size = true) (h : loadX st.tb y (T t).size (T t).u.isAgg = some u)
    (hn : Nx F site g (st.out site o.dst (.u u) none) next) : o.wp P a w next Q := by
  obtain ⟨b, v, e, h1, h2⟩ := loadX_ok hR hT (known hT (blt_ok hR hs)) (ev_x hR hx) h
  refine fin_val (v := .u u) (u := v) hR h2 ?_ hn
  simp [execOp, ho, Instr.loadAt, e, Instr.sureAddr, h1]

/-! ### New memory -/
/-- A new variable. -/
theorem fin_tab (hf : Fresh site g st) {cs : List X} {vs : Array Value} {e : TypeId} (hx : XsR g w cs vs.toList) (hrun : (execOp a.eval o).run P w = .ok (.value (.pointer (some ⟨w.heap.size, 0, none⟩))) (w.alloc (.cells vs e)))
    (hn : Nx F site g (st.out site o.dst (.u (.x (.ptr (nm site 0) 0))) (some cs)) next) : o.wp P a w next Q := by
  unfold Oper.wp
  rw [hrun]
  have hlow : 4096 ≤ nm site 0 := by unfold nm; omega
  have h1 := hR.alloc (.cells vs e)
  have h2 := h1.newTab (n := nm site 0) (b := w.heap.size) (vs := vs.toList) (cs := cs) (hf.fr 0 (by omega)).tab (hf.tb 0 (by omega)) row_alloc
    (XsR.stay (hR.w.stay fun _ hb => heap_alloc_lt hb) hx)
    (hR.free (Nat.le_refl _)) hR.w.size hlow
  refine hn _ _ _ (h2.put (v := .u (.x (.ptr (nm site 0) 0))) ⟨w.heap.size, vs.toList, setTab_tab.2 (.inl ⟨rfl, rfl⟩), rfl⟩ o.dst) ⟨fun n hne hfr => ⟨hfr.own, ?_, hfr.sus⟩⟩
  simp only [Gh.setTab]
  rw [if_neg (hne 0 (by omega))]
  exact hfr.tab

/-- A new slice. -/
theorem fin_ownC (hf : Fresh site g st) {c : C} {vs : Array Value} {e : TypeId} {cap : Nat} {I : Nat → Value} (hl : c.len ≤ cap) (hcap : cap ≤ vs.size) (hc : Cells (w.alloc (.cells vs e)) g.Z c vs.toList 0 w.heap.size (fun b => b = w.heap.size) I)
    (hrun : (execOp a.eval o).run P w = .ok (.value (.slice (some ⟨w.heap.size, 0, none⟩) c.len cap)) (w.alloc (.cells vs e)))
    (hn : Nx F site g (st.out site o.dst (.u (.x (.own (nm site 0) c))) none) next) : o.wp P a w next Q := by
  unfold Oper.wp
  rw [hrun]
  have h1 := hR.alloc (.cells vs e)
  have h2 := h1.newOwn (n := nm site 0) (v := .slice (some ⟨w.heap.size, 0, none⟩) c.len cap) (c := c) (B := fun b => b = w.heap.size) (I := I) (hf.fr 0 (by omega)).own (hf.fr 0 (by omega)).sus
    (.inr ⟨w.heap.size, 0, cap, vs.toList, rfl, row_alloc, by simpa using hcap, hl, rfl, hc⟩)
    (fun b hb => by
      subst hb
      exact ⟨by simp, hR.free (Nat.le_refl _), .inl hR.w.size⟩)
  refine hn _ _ _ (h2.put (v := .u (.x (.own (nm site 0) c))) setOwn_self o.dst) ⟨fun n hne hfr => ⟨?_, hfr.tab, hfr.sus⟩⟩
  rw [setOwn_ne (hne 0 (by omega))]
  exact hfr.own
theorem fin_own (hf : Fresh site g st) {c : C} {vs : Array Value} {e : TypeId} {cap : Nat} (hp : c.plain = true) (hl : c.len ≤ cap) (hcap : cap ≤ vs.size) (hc : ∀ i, i < c.len → ∃ u, vs[i]? = some u ∧ SR w g.Z (c.get i) u)
    (hrun : (execOp a.eval o).run P w = .ok (.value (.slice (some ⟨w.heap.size, 0, none⟩) c.len cap)) (w.alloc (.cells vs e)))
    (hn : Nx F site g (st.out site o.dst (.u (.x (.own (nm site 0) c))) none) next) : o.wp P a w next Q := by
  have hst : Stay g.Z w g.Z (w.alloc (.cells vs e)) := hR.w.stay fun _ hb => heap_alloc_lt hb
  refine fin_ownC hR hf (I := fun _ => undef) hl hcap ((cells_plain hp).2 fun i hi => ?_) hrun hn
  obtain ⟨u, hu, hs⟩ := hc i hi
  exact ⟨u, by simpa using hu, hs.mono hst⟩

theorem s_alloc {t : TypeId} (hT : TsOk P T) (hf : Fresh site g st) (ho : o.op = .alloc t) (hz : Nat.blt 0 (T t).zero.length = true)
    (hn : Nx F site g (st.out site o.dst (.u (.x (.ptr (nm site 0) 0))) (some (T t).zero)) next) : o.wp P a w next Q := by
  have hk : (T t).u ≠ .other := fun e => blt_ok hR hz (by rw [(hT.no t e).2]; rfl)
  obtain ⟨inf, z, h1, h2, h3, h4⟩ := (hT.ok t hk).info
  refine fin_tab hR hf (vs := z.cells) (e := t) (h4 g w) ?_ hn
  simp [execOp, ho, Instr.alloc, zeroValue, typeInfo, h1, h3, newVar, newRow]
theorem s_box {t : TypeId} {x : Operand} {u : U} (hT : TsOk P T) (hf : Fresh site g st) (ho : o.op = .box t x) (hx : ev st x = .u u) (hc : u.cells.all X.cellOk = true)
    (hn : Nx F site g (st.out site o.dst (.u (.x (.ptr (nm site 0) 0))) (some u.cells)) next) : o.wp P a w next Q := by
  have h := UR.cells hR.w (ev_u hR hx) hc
  refine fin_tab hR hf (vs := (a.eval x).cells) (e := t) h.1 ?_ hn
  simp [execOp, ho, Instr.box, newVar, newRow]
end
end Go.BV

