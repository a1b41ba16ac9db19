/- An abstract machine for Go functions: values without addresses, a store without capacities, no order left open. Definitions alone. Conditions: none. -/
import Derived.Calls
import Derived.Orders
import Derived.Laws.Entries
set_option linter.unusedSimpArgs false
set_option linter.unusedVariables false
namespace Go.Am

/-- A value of the abstract machine. What is in memory that never changes is part of the value. -/
inductive AV where
  | bool (b : Bool)
  | int (k : IntKind) (n : Int)
  | str (s : ByteArray)
  | nilp
  | ptr (i off : Nat)
  | eptr (cs : List AV)
  | nils
  | sl (cs : List AV) (len : Nat) (full : Bool) (tok : Option Nat)
  | msl (i off len sz : Nat)
  | func (f : Nat) (cap : List AV)
  | nilf
  | agg (cs : List AV)
  | tup (vs : List AV)
  | iface (t : Nat) (v : AV)
  | niliface
  | mapv (i : Nat)
  | nilm
  deriving Inhabited

def undefA : AV := .tup []

/-- An object of the store. -/
inductive AO where
  | cells (cs : List AV)
  | right
  | froz (cs : List AV)
  | map (es : List (ByteArray × AV))

structure St where
  size : Nat
  obj : Nat → Option AO

def St.new (s : St) (o : AO) : St := ⟨s.size + 1, fun j => if j = s.size then some o else s.obj j⟩
def St.put (s : St) (i : Nat) (o : Option AO) : St := ⟨s.size, fun j => if j = i then o else s.obj j⟩

def Env := Nat → AV
def Env.set (e : Env) (k : Nat) (v : AV) : Env := fun j => if j = k then v else e j
def Env.put (e : Env) (d : Option Nat) (v : AV) : Env := match d with | some k => e.set k v | none => e

inductive Opd where
  | t (n : Nat)
  | c (v : AV)
  deriving Inhabited

def Opd.ev (e : Env) : Opd → AV
  | .t n => e n
  | .c v => v

/-- The values that a program's text holds. -/
def ofV : Value → Option AV
  | .bool b => some (.bool b)
  | .int k n => some (.int k n)
  | .string s => some (.str s)
  | .pointer none => some .nilp
  | .slice none 0 0 => some .nils
  | .nilFunc => some .nilf
  | .nilIface => some .niliface
  | .map none => some .nilm
  | _ => none

def ofVs : List Value → Option (List AV)
  | [] => some []
  | v :: vs => match ofV v, ofVs vs with
    | some a, some as => some (a :: as)
    | _, _ => none

/-- What stands in one cell. -/
def AV.one : AV → Bool
  | .agg _ => false
  | .tup _ => false
  | _ => true

def AV.cells : AV → List AV
  | .agg cs => cs
  | v => [v]

/-- What is kept of a value that goes into memory that never changes: not its right to grow. -/
def AV.strip : AV → AV
  | .sl cs len _ _ => .sl cs len false none
  | .nils => .sl [] 0 false none
  | v => v

/-- It may go into memory that never changes. -/
def AV.still : AV → Bool
  | .msl _ _ _ _ => false
  | .agg _ => false
  | .tup _ => false
  | _ => true

inductive COp where
  | mv (x : Opd)
  | pick (c a b : Opd)
  | alloc (zs : List AV)
  | box (x : Opd)
  | build (zs : List AV) (parts : List (Nat × Nat × Opd))
  | bsl (sz len : Nat) (zs : List AV) (parts : List (Nat × Nat × Opd))
  | load (agg : Bool) (n : Nat) (x : Opd)
  | store (n : Nat) (a x : Opd)
  | nilc (x : Opd)
  | bin (op : BinOp) (x y : Opd)
  | eqb (neq : Bool) (x y : Opd)
  | eqnil (p neq : Bool) (x : Opd)
  | un (op : UnOp) (x : Opd)
  | conv (k : IntKind) (x : Opd)
  | clo (f : Nat) (caps : List Opd)
  | slc (sz : Nat) (x : Opd) (lo hi mx : Option Opd)
  | sls (x : Opd) (lo hi : Option Opd)
  | faddr (off : Nat) (x : Opd)
  | fld (agg : Bool) (off n : Nat) (x : Opd)
  | iaddr (sz : Nat) (x i : Opd)
  | idx (x i : Opd)
  | ext (x : Opd) (i : Nat)
  | len (x : Opd)
  | lens (x : Opd)
  | app (mu : Bool) (sz bytes : Nat) (zs : List AV) (s x : Opd)
  | eqs (ks : List Nat) (neq : Bool) (x y : Opd)
  | shf (op : BinOp) (x y : Opd)
  | builda (zs : List AV) (parts : List (Nat × Nat × Opd))
  | idxa (agg : Bool) (len sz : Nat) (x i : Opd)
  | mm (isMin : Bool) (args : List Opd)
  | mksl (sz bytes : Nat) (zs : List AV) (len cap : Opd)
  | call (f : Nat) (args : List Opd)
  | callv (x : Opd) (args : List Opd)
  | frz (x : Opd)
  | stuck
  | iaddra (len sz : Nat) (x i : Opd)
  | bslm (sz len : Nat) (zs : List AV) (parts : List (Nat × Nat × Opd))
  | mkif (t : Nat) (x : Opd)
  | asrt (t : Nat) (ok : Bool) (z : AV) (x : Opd)
  | eqni (neq : Bool) (x : Opd)
  | rcv
  | dfr (x : Opd) (args : List Opd)
  | pan (x : Opd)
  | s2b (x : Opd)
  | mmk
  | mlk (z : AV) (m k : Opd)
  | mup (m k x : Opd)
  | mdl (m k : Opd)
  | eqp (neq : Bool) (x y : Opd)
  | clr (zs : List AV) (x : Opd)

structure CO where
  dst : Option Nat
  guard : Option (Option Nat × Bool)
  op : COp

inductive CC where
  | skip
  | reg (ops : List CO)
  | dreg (ops : List CO) (chk : List (Nat × Nat))
  | seq (a b : CC)
  | cond (c : Opd) (a b : CC)
  | block (id : Nat) (b : CC)
  | loop (b : CC)
  | exit (id : Nat)
  | ret
  | bad
  | back (f : Opd) (ps : List Nat) (a b : CC)

inductive CR where
  | tmp (t : Nat)
  | cell (t : Nat) (agg : Bool) (n : Nat)

structure CF where
  ntmps : Nat
  results : List CR
  body : CC

inductive CX where
  | normal
  | exit (id : Nat)
  | ret

/-! ### Maps whose keys are strings -/
def mget : List (ByteArray × AV) → ByteArray → Option AV
  | [], _ => none
  | e :: r, x => if e.1 = x then some e.2 else mget r x
def mput : List (ByteArray × AV) → ByteArray → AV → List (ByteArray × AV)
  | [], x, a => [(x, a)]
  | e :: r, x, a => if e.1 = x then (x, a) :: r else e :: mput r x a
def mdel : List (ByteArray × AV) → ByteArray → List (ByteArray × AV)
  | [], _ => []
  | e :: r, x => if e.1 = x then r else e :: mdel r x
def maxKey : Nat := 9223372036854775807
def mapOf (s : St) : AV → Option (Nat × List (ByteArray × AV))
  | .mapv i => match s.obj i with
    | some (.map es) => some (i, es)
    | _ => none
  | _ => none
def keyA : AV → Option ByteArray
  | .str x => if x.size ≤ maxKey then some x else none
  | _ => none

/-! ### The operations -/

/-- So many cells from a place on. -/
def rdCells (s : St) (n : Nat) : AV → Option (List AV)
  | .ptr i off => match s.obj i with
    | some (.cells cs) => if off + n ≤ cs.length then some ((cs.drop off).take n) else none
    | some (.froz cs) => if off + n ≤ cs.length then some ((cs.drop off).take n) else none
    | _ => none
  | .eptr cs => if n ≤ cs.length then some (cs.take n) else none
  | _ => none

def loadA (s : St) (agg : Bool) (n : Nat) (a : AV) : Option AV :=
  match rdCells s n a with
  | some cs => if agg then some (.agg (cs.map AV.strip)) else match cs with | [v] => some v | _ => none
  | none => none

def setAt (cs : List AV) (off : Nat) : List AV → List AV
  | [] => cs
  | v :: vs => setAt (cs.set off v) (off + 1) vs

def storeA (s : St) (n : Nat) (a x : AV) : Option St :=
  match a with
  | .ptr i off => match s.obj i with
    | some (.cells cs) => if x.cells.length = n ∧ off + n ≤ cs.length ∧ x.cells.all AV.one = true then some (s.put i (some (.cells (setAt cs off x.cells)))) else none
    | _ => none
  | _ => none

def fillA (cells : List AV) (e : Env) : List (Nat × Nat × Opd) → Option (List AV)
  | [] => some cells
  | (off, size, x) :: rest => let v := (x.ev e).cells
    if v.length = size ∧ off + size ≤ cells.length then fillA (setAt cells off v) e rest else none

def binA : BinOp → AV → AV → Option AV
  | .add, .int k a, .int k' b => if k = k' then some (.int k (k.wrap (a + b))) else none
  | .sub, .int k a, .int k' b => if k = k' then some (.int k (k.wrap (a - b))) else none
  | .mul, .int k a, .int k' b => if k = k' then some (.int k (k.wrap (a * b))) else none
  | .quo, .int k a, .int k' b => if k = k' ∧ b ≠ 0 then some (.int k (k.wrap (a.tdiv b))) else none
  | .rem, .int k a, .int k' b => if k = k' ∧ b ≠ 0 then some (.int k (a.tmod b)) else none
  | .eql, .int k a, .int k' b => if k = k' then some (.bool (a == b)) else none
  | .neq, .int k a, .int k' b => if k = k' then some (.bool (a != b)) else none
  | .lss, .int k a, .int k' b => if k = k' then some (.bool (a < b)) else none
  | .leq, .int k a, .int k' b => if k = k' then some (.bool (a ≤ b)) else none
  | .gtr, .int k a, .int k' b => if k = k' then some (.bool (a > b)) else none
  | .geq, .int k a, .int k' b => if k = k' then some (.bool (a ≥ b)) else none
  | .add, .str a, .str b => if ((a.size + b.size : Nat) : Int) ≤ IntKind.i64.max then some (.str (a ++ b)) else none
  | .eql, .str a, .str b => some (.bool (a.toList == b.toList))
  | .neq, .str a, .str b => some (.bool !(a.toList == b.toList))
  | .lss, .str a, .str b => some (.bool (Op.bytesLess a.toList b.toList))
  | .leq, .str a, .str b => some (.bool (Op.bytesLess a.toList b.toList || a.toList == b.toList))
  | .gtr, .str a, .str b => some (.bool !(Op.bytesLess a.toList b.toList || a.toList == b.toList))
  | .geq, .str a, .str b => some (.bool !(Op.bytesLess a.toList b.toList))
  | _, _, _ => none

/-- What two cells of a struct are to each other. -/
def eqCell : Nat → AV → AV → Option Bool
  | 0, .int k a, .int l b => if k = l then some (a == b) else none
  | 1, .bool a, .bool b => some (a == b)
  | 2, .str a, .str b => some (a.toList == b.toList)
  | _, _, _ => none

def eqCells : List Nat → List AV → List AV → Option Bool
  | [], [], [] => some true
  | k :: ks, a :: as, b :: bs => match eqCell k a b, eqCells ks as bs with
    | some p, some q => some (p && q)
    | _, _ => none
  | _, _, _ => none

def eqsA (ks : List Nat) (neq : Bool) : AV → AV → Option AV
  | .agg xs, .agg ys => match eqCells ks xs ys with | some r => some (.bool (if neq then !r else r)) | none => none
  | _, _ => none

/-- Shifts, and the operations on bits. -/
def shfA : BinOp → AV → AV → Option AV
  | .shl, .int k a, .int _ b => if 0 ≤ b then some (.int k (k.wrap (a * 2 ^ (min b.toNat k.bits)))) else none
  | .shr, .int k a, .int _ b => if 0 ≤ b then some (.int k (a.fdiv (2 ^ (min b.toNat k.bits)))) else none
  | .and, .int k a, .int l b => if k = l then some (.int k (bits .and k a b)) else none
  | .or, .int k a, .int l b => if k = l then some (.int k (bits .or k a b)) else none
  | .xor, .int k a, .int l b => if k = l then some (.int k (bits .xor k a b)) else none
  | .andNot, .int k a, .int l b => if k = l then some (.int k (bits .andNot k a b)) else none
  | _, _, _ => none

def idxaA (agg : Bool) (len sz : Nat) (x i : AV) : Option AV :=
  match x, i with
  | .agg cs, .int _ n => if 0 ≤ n ∧ n < (len : Int) then (if agg then some (.agg ((cs.drop (n.toNat * sz)).take sz)) else cs[n.toNat * sz]?) else none
  | _, _ => none

def mm2 (isMin : Bool) : AV → AV → Option AV
  | .int k a, .int _ b => some (.int k (if isMin then (if b < a then b else a) else (if b > a then b else a)))
  | _, _ => none

def mmFold (isMin : Bool) : AV → List AV → Option AV
  | x, [] => some x
  | x, y :: r => match mm2 isMin x y with | some v => mmFold isMin v r | none => none

def mmA (isMin : Bool) : List AV → Option AV
  | [] => none
  | x :: r => mmFold isMin x r

def eqbA (neq : Bool) : AV → AV → Option AV
  | .bool a, .bool b => some (.bool (if neq then !(a == b) else a == b))
  | _, _ => none

def eqnilA (p neq : Bool) : AV → Option AV
  | .nilp => if p then some (.bool !neq) else none
  | .ptr _ _ => if p then some (.bool neq) else none
  | .nils => if p then none else some (.bool !neq)
  | .sl _ len _ tok => if p then none else if 0 < len ∨ tok.isSome = true then some (.bool neq) else none
  | .msl _ _ _ _ => if p then none else some (.bool neq)
  | _ => none

/-- Two pointers to objects that live. -/
def eqpA (neq : Bool) (s : St) : AV → AV → Option AV
  | .nilp, .nilp => some (.bool !neq)
  | .nilp, .ptr _ _ => some (.bool neq)
  | .ptr _ _, .nilp => some (.bool neq)
  | .ptr i o, .ptr j q => match s.obj i, s.obj j with
    | some (.cells _), some (.cells _) => some (.bool (if neq then !(i == j && o == q) else i == j && o == q))
    | _, _ => none
  | _, _ => none

def unA : UnOp → AV → Option AV
  | .neg, .int k n => some (.int k (k.wrap (0 - n)))
  | .not, .bool b => some (.bool !b)
  | _, _ => none

def natOf (hi : Nat) : AV → Option Nat
  | .int _ n => if 0 ≤ n ∧ n ≤ (hi : Int) then some n.toNat else none
  | _ => none

def optOf (hi dflt : Nat) : Option AV → Option Nat
  | none => some dflt
  | some v => natOf hi v

def slcA (sz : Nat) (x : AV) (lo hi mx : Option AV) : Option AV :=
  match x with
  | .nils => match optOf 0 0 mx, optOf 0 0 hi, optOf 0 0 lo with
    | some _, some _, some _ => some .nils
    | _, _, _ => none
  | .sl cs len full tok =>
    if cs.length = len * sz then
      match optOf len len mx with
      | some m => match optOf m len hi with
        | some h => match optOf h 0 lo with
          | some l => if h ≤ m then some (.sl ((cs.drop (l * sz)).take ((h - l) * sz)) (h - l) (match mx with | none => full && h == len | some _ => h == m) (if l = 0 ∧ h = len ∧ mx.isNone then tok else none)) else none
          | none => none
        | none => none
      | none => none
    else none
  | .msl i off len z =>
    if z = sz ∧ mx.isNone then
      match optOf len len hi with
      | some h => match optOf h 0 lo with
        | some l => if l < h ∨ (l = 0 ∧ h = 0) then some (.msl i (off + l * sz) (h - l) sz) else if l = h then some (.sl [] 0 false none) else none
        | none => none
      | none => none
    else none
  | _ => none

def slsA (x : AV) (lo hi : Option AV) : Option AV :=
  match x with
  | .str s => match optOf s.size s.size hi with
    | some h => match optOf h 0 lo with
      | some l => some (.str (s.extract l h))
      | none => none
    | none => none
  | _ => none

def iaddrA (sz : Nat) (x i : AV) : Option AV :=
  match i with
  | .int _ n => match x with
    | .sl cs len _ _ => if 0 ≤ n ∧ n < (len : Int) then some (.eptr (cs.drop (n.toNat * sz))) else none
    | .msl j off len z => if 0 ≤ n ∧ n < (len : Int) ∧ z = sz then some (.ptr j (off + n.toNat * sz)) else none
    | _ => none
  | _ => none

def iaddraA (len sz : Nat) (x i : AV) : Option AV :=
  match i with
  | .int _ n => if 0 ≤ n ∧ n < (len : Int) then match x with
    | .eptr cs => some (.eptr (cs.drop (n.toNat * sz)))
    | .ptr j off => some (.ptr j (off + n.toNat * sz))
    | _ => none
    else none
  | _ => none

def idxA (x i : AV) : Option AV :=
  match x, i with
  | .str s, .int _ n => if 0 ≤ n then match s[n.toNat]? with | some b => some (.int .u8 b.toNat) | none => none else none
  | _, _ => none

def faddrA (off : Nat) : AV → Option AV
  | .ptr i o => some (.ptr i (o + off))
  | .eptr cs => if off ≤ cs.length then some (.eptr (cs.drop off)) else none
  | _ => none

def fldA (agg : Bool) (off n : Nat) : AV → Option AV
  | .agg cs => if agg then some (.agg ((cs.drop off).take n)) else cs[off]?
  | _ => none

def lensA : AV → Option AV
  | .str s => some (.int .i64 s.size)
  | _ => none

def lenA : AV → Option AV
  | .nils => some (.int .i64 0)
  | .sl _ len _ _ => some (.int .i64 len)
  | .msl _ _ len _ => some (.int .i64 len)
  | _ => none

/-- What a slice or a string holds, as cells. -/
def contents (s : St) (sz : Nat) : AV → Option (Nat × List AV)
  | .nils => some (0, [])
  | .sl cs len _ _ => if cs.length = len * sz then some (len, cs) else none
  | .msl i off len z => match s.obj i with
    | some (.cells cs) => if z = sz ∧ off + len * sz ≤ cs.length then some (len, (cs.drop off).take (len * sz)) else none
    | some (.froz cs) => if z = sz ∧ off + len * sz ≤ cs.length then some (len, (cs.drop off).take (len * sz)) else none
    | _ => none
  | .str t => if sz = 1 then some (t.size, t.data.toList.map fun b => .int .u8 b.toNat) else none
  | _ => none

/-- A new slice of so many elements. -/
def freshA (s : St) (mu : Bool) (sz len : Nat) (cs : List AV) : Option (AV × St) :=
  if mu then (if cs.all AV.one = true then some (.msl s.size 0 len sz, s.new (.cells cs)) else none)
  else if cs.all AV.still = true then some (.sl (cs.map AV.strip) len false (some s.size), s.new .right) else none

def appendA (s : St) (mu : Bool) (sz bytes : Nat) (x y : AV) : Option (AV × St) :=
  match contents s sz y with
  | none => none
  | some (m, ys) =>
    match x with
    | .nils => if m = 0 then some (.nils, s) else if m * bytes ≤ 140737488355328 then freshA s mu sz m ys else none
    | .sl cs len full tok =>
      if m = 0 then some (x, s)
      else if cs.length = len * sz ∧ (len + m) * bytes ≤ 140737488355328 then
        (if full = true then freshA s mu sz (len + m) (cs ++ ys)
         else match tok with
          | none => none
          | some t => match s.obj t with
            | some .right => if ys.all AV.still = true ∧ 0 < len then some (.sl (cs ++ ys.map AV.strip) (len + m) false (some s.size), (s.put t none).new .right) else none
            | _ => none)
      else none
    | .msl i off len z => match s.obj i with
      | some (.cells cs) =>
        if m = 0 then some (x, s)
        else if z = sz ∧ off = 0 ∧ len * sz ≤ cs.length ∧ (len + m) * bytes ≤ 140737488355328 ∧ ys.all AV.one = true
        then some (.msl s.size 0 (len + m) sz, (s.put i none).new (.cells (cs.take (len * sz) ++ ys))) else none
      | _ => none
    | _ => none

/-- What was written is written no more. -/
def frzA (s : St) : AV → Option (AV × St)
  | .msl i off len z => match s.obj i with
    | some (.cells cs) => if off + len * z ≤ cs.length ∧ cs.all AV.still = true then some (.sl (((cs.drop off).take (len * z)).map AV.strip) len false none, s.put i (some (.froz (cs.map AV.strip)))) else none
    | some (.froz cs) => if off + len * z ≤ cs.length then some (.sl ((cs.drop off).take (len * z)) len false none, s) else none
    | _ => none
  | .nils => some (.nils, s)
  | .sl cs len full tok => some (.sl cs len full tok, s)
  | _ => none

def repCells (zs : List AV) : Nat → List AV
  | 0 => []
  | n + 1 => zs ++ repCells zs n

def mkslA (s : St) (sz bytes : Nat) (zs : List AV) (x y : AV) : Option (AV × St) :=
  match x, y with
  | .int _ n, .int _ c => if 0 ≤ n ∧ n ≤ c ∧ c * (bytes : Int) ≤ 140737488355328 ∧ zs.all AV.one = true then some (.msl s.size 0 n.toNat sz, s.new (.cells (repCells zs n.toNat))) else none
  | _, _ => none

/-- The cells of a slice set to zero. -/
def clrA (s : St) (zs : List AV) : AV → Option St
  | .nils => some s
  | .sl _ len _ _ => if len = 0 then some s else none
  | .msl i off len z => if len = 0 then some s else match s.obj i with
    | some (.cells cs) => if zs.length = z ∧ off + len * z ≤ cs.length ∧ zs.all AV.one = true then some (s.put i (some (.cells (setAt cs off (repCells zs len))))) else none
    | _ => none
  | _ => none

/-- What an interface holds, if it is of this type. -/
def asrtA (t : Nat) (ok : Bool) (z : AV) : AV → Option AV
  | .iface u v => if u = t then some (if ok then .tup [v, .bool true] else v) else if ok then some (.tup [z, .bool false]) else none
  | .niliface => if ok then some (.tup [z, .bool false]) else none
  | _ => none

def eqniA (neq : Bool) : AV → Option AV
  | .niliface => some (.bool !neq)
  | .iface _ _ => some (.bool neq)
  | _ => none

def evOp (call : Nat → List AV → St → Option (AV × St)) (o : COp) (e : Env) (s : St) : Option (AV × St) :=
  match o with
  | .mv x => some (x.ev e, s)
  | .pick c a b => match c.ev e with | .bool t => some (if t then a.ev e else b.ev e, s) | _ => none
  | .alloc zs => some (.ptr s.size 0, s.new (.cells zs))
  | .box x => some (.ptr s.size 0, s.new (.cells (x.ev e).cells))
  | .build zs ps => match fillA zs e ps with | some cs => some (.agg cs, s) | none => none
  | .bsl sz len zs ps => match fillA zs e ps with
    | some cs => if cs.all AV.still = true ∧ cs.length = len * sz then some (.sl (cs.map AV.strip) len true none, s) else none
    | none => none
  | .load agg n x => match loadA s agg n (x.ev e) with | some v => some (v, s) | none => none
  | .store n a x => match storeA s n (a.ev e) (x.ev e) with | some s' => some (undefA, s') | none => none
  | .nilc x => match x.ev e with
    | .ptr i o => some (.ptr i o, s)
    | .eptr cs => some (.eptr cs, s)
    | _ => none
  | .bin op x y => match binA op (x.ev e) (y.ev e) with | some v => some (v, s) | none => none
  | .eqb n x y => match eqbA n (x.ev e) (y.ev e) with | some v => some (v, s) | none => none
  | .eqnil p n x => match eqnilA p n (x.ev e) with | some v => some (v, s) | none => none
  | .un op x => match unA op (x.ev e) with | some v => some (v, s) | none => none
  | .conv k x => match x.ev e with | .int _ n => some (.int k (k.wrap n), s) | _ => none
  | .clo f caps => some (.func f (caps.map (Opd.ev e)), s)
  | .slc sz x lo hi mx => match slcA sz (x.ev e) (lo.map (Opd.ev e)) (hi.map (Opd.ev e)) (mx.map (Opd.ev e)) with | some v => some (v, s) | none => none
  | .sls x lo hi => match slsA (x.ev e) (lo.map (Opd.ev e)) (hi.map (Opd.ev e)) with | some v => some (v, s) | none => none
  | .faddr off x => match faddrA off (x.ev e) with | some v => some (v, s) | none => none
  | .fld agg off n x => match fldA agg off n (x.ev e) with | some v => some (v, s) | none => none
  | .iaddr sz x i => match iaddrA sz (x.ev e) (i.ev e) with | some v => some (v, s) | none => none
  | .idx x i => match idxA (x.ev e) (i.ev e) with | some v => some (v, s) | none => none
  | .ext x i => match x.ev e with | .tup vs => (match vs[i]? with | some v => some (v, s) | none => none) | _ => none
  | .len x => match lenA (x.ev e) with | some v => some (v, s) | none => none
  | .lens x => match lensA (x.ev e) with | some v => some (v, s) | none => none
  | .app mu sz bytes _ x y => appendA s mu sz bytes (x.ev e) (y.ev e)
  | .eqs n q x y => match eqsA n q (x.ev e) (y.ev e) with | some v => some (v, s) | none => none
  | .shf op x y => match shfA op (x.ev e) (y.ev e) with | some v => some (v, s) | none => none
  | .builda zs ps => match fillA zs e ps with | some cs => some (.agg cs, s) | none => none
  | .idxa agg len sz x i => match idxaA agg len sz (x.ev e) (i.ev e) with | some v => some (v, s) | none => none
  | .mm q args => match mmA q (args.map (Opd.ev e)) with | some v => some (v, s) | none => none
  | .mksl sz bytes zs x y => mkslA s sz bytes zs (x.ev e) (y.ev e)
  | .call f args => call f (args.map (Opd.ev e)) s
  | .callv x args => match x.ev e with | .func f cap => call f (args.map (Opd.ev e) ++ cap) s | _ => none
  | .frz x => frzA s (x.ev e)
  | .stuck => none
  | .iaddra len sz x i => match iaddraA len sz (x.ev e) (i.ev e) with | some v => some (v, s) | none => none
  | .bslm sz len zs ps => match fillA zs e ps with
    | some cs => if cs.all AV.one = true ∧ cs.length = len * sz then some (.msl s.size 0 len sz, s.new (.cells cs)) else none
    | none => none
  | .mkif t x => some (.iface t (x.ev e), s)
  | .asrt t ok z x => match asrtA t ok z (x.ev e) with | some v => some (v, s) | none => none
  | .eqni neq x => match eqniA neq (x.ev e) with | some v => some (v, s) | none => none
  | .rcv => none
  | .dfr _ _ => none
  | .pan _ => none
  | .s2b x => match x.ev e with | .str t => some (.sl (t.data.toList.map fun b => .int .u8 b.toNat) t.size false none, s) | _ => none
  | .eqp n x y => match eqpA n s (x.ev e) (y.ev e) with | some v => some (v, s) | none => none
  | .clr zs x => match clrA s zs (x.ev e) with | some s' => some (undefA, s') | none => none
  | .mmk => some (.mapv s.size, s.new (.map []))
  | .mlk z m k => match mapOf s (m.ev e), keyA (k.ev e) with
    | some (_, es), some x => some ((mget es x).getD z, s)
    | _, _ => none
  | .mup m k x => match mapOf s (m.ev e), keyA (k.ev e) with
    | some (i, es), some y => some (undefA, s.put i (some (.map (mput es y (x.ev e)))))
    | _, _ => none
  | .mdl m k => match mapOf s (m.ev e), keyA (k.ev e) with
    | some (i, es), some x => some (undefA, s.put i (some (.map (mdel es x))))
    | _, _ => none

def wantedA (e : Env) : Option (Option Nat × Bool) → Bool
  | none => true
  | some (none, _) => false
  | some (some d, want) => match e d with | .bool b => b == want | _ => false

def evOps (call : Nat → List AV → St → Option (AV × St)) : List CO → Env → St → Option (Env × St)
  | [], e, s => some (e, s)
  | o :: r, e, s =>
    if wantedA e o.guard then
      match evOp call o.op e s with
      | some (v, s') => evOps call r (e.put o.dst v) s'
      | none => none
    else evOps call r (e.put o.dst undefA) s

def isAlloc : COp → Bool
  | .alloc _ => true
  | _ => false

/-- In a region whose order is open the new variables come first. -/
def evAllocs : List CO → Env → St → Env × St
  | [], e, s => (e, s)
  | o :: r, e, s => match o.op with
    | .alloc zs => evAllocs r (e.put o.dst (.ptr s.size 0)) (s.new (.cells zs))
    | _ => evAllocs r e s

def evRest (call : Nat → List AV → St → Option (AV × St)) : List CO → Env → St → Option (Env × St)
  | [], e, s => some (e, s)
  | o :: r, e, s =>
    if isAlloc o.op then evRest call r e s
    else if wantedA e o.guard then
      match evOp call o.op e s with
      | some (v, s') => evRest call r (e.put o.dst v) s'
      | none => none
    else evRest call r (e.put o.dst undefA) s

mutual
/-- Two values are the same. -/
def AV.beq : AV → AV → Bool
  | .bool a, .bool b => a == b
  | .int k a, .int l b => k == l && a == b
  | .str a, .str b => decide (a = b)
  | .nilp, .nilp => true
  | .ptr i o, .ptr j p => i == j && o == p
  | .eptr cs, .eptr ds => AV.beqs cs ds
  | .nils, .nils => true
  | .sl cs n f t, .sl ds m g u => AV.beqs cs ds && n == m && f == g && t == u
  | .msl i o n z, .msl j p m y => i == j && o == p && n == m && z == y
  | .func f cs, .func g ds => f == g && AV.beqs cs ds
  | .nilf, .nilf => true
  | .agg cs, .agg ds => AV.beqs cs ds
  | .tup cs, .tup ds => AV.beqs cs ds
  | .iface t a, .iface u b => t == u && AV.beq a b
  | .niliface, .niliface => true
  | .mapv i, .mapv j => i == j
  | .nilm, .nilm => true
  | _, _ => false
def AV.beqs : List AV → List AV → Bool
  | [], [] => true
  | a :: as, b :: bs => AV.beq a b && AV.beqs as bs
  | _, _ => false
end

/-- The states on the way. -/
def evTr (call : Nat → List AV → St → Option (AV × St)) : List CO → Env → St → List (Env × St)
  | [], e, s => [(e, s)]
  | o :: r, e, s => (e, s) ::
    (if isAlloc o.op then evTr call r e s
     else if wantedA e o.guard then
       match evOp call o.op e s with
       | some (v, s') => evTr call r (e.put o.dst v) s'
       | none => []
     else evTr call r (e.put o.dst undefA) s)

/-- Two stores that Go leaves in no order go to different objects. -/
def apartS (ops : List CO) (tr : List (Env × St)) (p : Nat × Nat) : Bool :=
  match ops[p.1]?, tr[p.1]?, ops[p.2]?, tr[p.2]? with
  | some c, some x, some d, some y => (match c.op, d.op with
    | .store _ a _, .store _ b _ => (match a.ev x.1, b.ev y.1 with
      | .ptr i _, .ptr j _ => i != j
      | _, _ => false)
    | _, _ => false)
  | _, _, _, _ => false

def COp.isStore : COp → Bool
  | .store _ _ _ => true
  | _ => false

/-- The load j says the same whether the operation i has run or not. -/
def chk1 (call : Nat → List AV → St → Option (AV × St)) (ops : List CO) (tr : List (Env × St)) (p : Nat × Nat) : Bool :=
  match ops[p.1]?, tr[p.1]?, tr[if p.2 < p.1 then p.2 else p.2 + 1]? with
  | some c, some x, some y => if c.op.isStore = true then apartS ops tr p else !(wantedA x.1 c.guard) || (match evOp call c.op x.1 x.2, evOp call c.op x.1 y.2 with
    | some (v, _), some (u, _) => AV.beq v u
    | _, _ => false)
  | _, _, _ => false

def resA (e : Env) (s : St) : CR → Option AV
  | .tmp t => some (e t)
  | .cell t agg n => loadA s agg n (e t)

def resAs (e : Env) (s : St) : List CR → Option (List AV)
  | [] => some []
  | r :: rs => match resA e s r, resAs e s rs with
    | some v, some vs => some (v :: vs)
    | _, _ => none

def retA (e : Env) (s : St) (rs : List CR) : Option AV :=
  match resAs e s rs with
  | some [v] => some v
  | some vs => some (.tup vs)
  | none => none

def env0 (args : List AV) : Env := fun j => args.getD j undefA

/-- The functions whose answer is given by a law of its own. -/
abbrev Ext := Nat → Option (List AV → St → Option (AV × St))

mutual
def ev (T : Nat → Option CF) (X : Ext) : Nat → CC → Env → St → Option (CX × Env × St)
  | 0, _, _, _ => none
  | n + 1, c, e, s => match c with
    | .skip => some (.normal, e, s)
    | .reg ops => match evOps (evCall T X n) ops e s with
      | some (e', s') => some (.normal, e', s')
      | none => none
    | .dreg ops chk => match evRest (evCall T X n) ops (evAllocs ops e s).1 (evAllocs ops e s).2 with
      | some (e', s') => if chk.all (chk1 (evCall T X n) ops (evTr (evCall T X n) ops (evAllocs ops e s).1 (evAllocs ops e s).2)) = true then some (.normal, e', s') else none
      | none => none
    | .seq a b => match ev T X n a e s with
      | some (.normal, e', s') => ev T X n b e' s'
      | r => r
    | .cond c a b => match c.ev e with
      | .bool true => ev T X n a e s
      | .bool false => ev T X n b e s
      | _ => none
    | .block id b => match ev T X n b e s with
      | some (.exit j, e', s') => if j = id then some (.normal, e', s') else some (.exit j, e', s')
      | r => r
    | .loop b => match ev T X n b e s with
      | some (.normal, e', s') => ev T X n (.loop b) e' s'
      | r => r
    | .exit id => some (.exit id, e, s)
    | .ret => some (.ret, e, s)
    | .bad => none
    | .back _ _ _ _ => none
def evCall (T : Nat → Option CF) (X : Ext) : Nat → Nat → List AV → St → Option (AV × St)
  | 0, _, _, _ => none
  | n + 1, f, args, s => match X f with
    | some h => h args s
    | none => match T f with
      | none => none
      | some cf => if args.length ≤ cf.ntmps then (match ev T X n cf.body (env0 args) s with
        | some (.normal, e', s') => (match retA e' s' cf.results with | some v => some (v, s') | none => none)
        | some (.ret, e', s') => (match retA e' s' cf.results with | some v => some (v, s') | none => none)
        | _ => none) else none
end

end Go.Am
