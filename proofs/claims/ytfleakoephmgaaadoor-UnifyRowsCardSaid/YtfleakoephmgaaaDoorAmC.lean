/- How a Go function's text becomes a text of the abstract machine. Conditions: none. -/
import Derived.Test.YtfleakoephmgaaaDoorAmB
import Derived.WalkKit
set_option linter.unusedSimpArgs false
set_option linter.unusedVariables false
namespace Go.Am

/-- A constant, of parts too. -/
def ofC : Value → Option AV
  | .agg vs => (ofVs vs.toList).map .agg
  | v => ofV v

def cO (G : Glob) : Operand → Option Opd
  | .tmp t => some (.t t)
  | .const v => (ofC v).map .c
  | .func f => some (.c (.func f []))
  | .global g => (G g).map fun cs => .c (.eptr cs)

def cOs (G : Glob) : List Operand → Option (List Opd)
  | [] => some []
  | x :: xs => match cO G x, cOs G xs with
    | some a, some as => some (a :: as)
    | _, _ => none

def cM (G : Glob) : Option Operand → Option (Option Opd)
  | none => some none
  | some x => (cO G x).map some

def zeroOf (P : Program) (t : TypeId) : Option (List AV) :=
  match P.info? t with
  | some i => match i.zero with
    | some v => ofVs v.cells.toList
    | none => none
  | none => none

/-- A type's zero value. -/
def zeroV (P : Program) (t : TypeId) : Option AV :=
  match P.info? t with
  | some i => match i.zero with
    | some (.agg vs) => (ofVs vs.toList).map .agg
    | some v => ofV v
    | none => none
  | none => none

def aggOf (P : Program) (t : TypeId) : Option Bool :=
  match P.underlying t with
  | some (.struct _) => some true
  | some (.array _ _) => some true
  | some _ => some false
  | none => none

def cPartsS (G : Glob) (pl : List (Nat × Nat)) : List (Nat × Operand) → Option (List (Nat × Nat × Opd))
  | [] => some []
  | (i, x) :: r => match pl[i]?, cO G x, cPartsS G pl r with
    | some (off, sz), some o, some ps => some ((off, sz, o) :: ps)
    | _, _, _ => none

def placesOf (P : Program) (fs : Array Field) : Option (List (Nat × Nat)) :=
  fs.toList.mapM (fun f => (P.info? f.type).map fun i => (f.offset, i.size))

def cPartsA (G : Glob) (sz : Nat) : List (Nat × Operand) → Option (List (Nat × Nat × Opd))
  | [] => some []
  | (i, x) :: r => match cO G x, cPartsA G sz r with
    | some o, some ps => some ((i * sz, sz, o) :: ps)
    | _, _ => none

/-- The fields are whole numbers, bools and strings, a cell each. -/
def plainFields (P : Program) : List Field → Nat → Option (List Nat)
  | [], _ => some []
  | f :: r, k => if (f.name == "_") = true ∨ f.offset ≠ k then none else
    match P.underlying f.type, plainFields P r (k + 1) with
    | some (.int _), some ks => some (0 :: ks)
    | some .bool, some ks => some (1 :: ks)
    | some .string, some ks => some (2 :: ks)
    | _, _ => none

/-- Pointers held against each other. -/
def cPtr (P : Program) (el : TypeId) (op : BinOp) (a : Opd) (b : Option Opd) : Option COp := match P.info? el, b with
  | some i, some b => if i.size = 0 then none else (match op with
    | .eql => some (.eqp false a b)
    | .neq => some (.eqp true a b)
    | _ => none)
  | _, _ => none

def cBin (G : Glob) (P : Program) (op : BinOp) (t : TypeId) (x y : Operand) : Option COp :=
  match P.underlying t with
  | some (.int _) => match cO G x, cO G y with
    | some a, some b => some (match op with
      | .shl => .shf op a b
      | .shr => .shf op a b
      | .and => .shf op a b
      | .or => .shf op a b
      | .xor => .shf op a b
      | .andNot => .shf op a b
      | _ => .bin op a b)
    | _, _ => none
  | some (.struct fs) => if P.eqGuardType P.depth t = false ∧ P.stoodInHeld t = false then
      (match op, cO G x, cO G y, plainFields P fs.toList 0 with
      | .eql, some a, some b, some ks => some (.eqs ks false a b)
      | .neq, some a, some b, some ks => some (.eqs ks true a b)
      | _, _, _, _ => none) else none
  | some .string => match cO G x, cO G y with
    | some a, some b => some (.bin op a b)
    | _, _ => none
  | some .bool => match op, cO G x, cO G y with
    | .eql, some a, some b => some (.eqb false a b)
    | .neq, some a, some b => some (.eqb true a b)
    | _, _, _ => none
  | some (.slice _) => match op, cO G x, y with
    | .eql, some a, .const (.slice none 0 0) => some (.eqnil false false a)
    | .neq, some a, .const (.slice none 0 0) => some (.eqnil false true a)
    | _, _, _ => none
  | some (.interface _) => match op, cO G x, y with
    | .eql, some a, .const .nilIface => some (.eqni false a)
    | .neq, some a, .const .nilIface => some (.eqni true a)
    | _, _, _ => none
  | some (.pointer el) => match op, cO G x, y with
    | .eql, some a, .const (.pointer none) => some (.eqnil true false a)
    | .neq, some a, .const (.pointer none) => some (.eqnil true true a)
    | _, some a, _ => cPtr P el op a (cO G y)
    | _, _, _ => none
  | _ => none

def isIntD : TypeDesc → Bool
  | .int _ => true
  | _ => false

def cBuiltin (G : Glob) (P : Program) (mu : Bool) (b : Builtin) (args : List Operand) (ts : List TypeId) : Option COp :=
  match b, args, ts with
  | .len, [x], [t] => match P.underlying t, cO G x with
    | some .string, some o => some (.lens o)
    | some (.slice _), some o => some (.len o)
    | _, _ => none
  | .append, [x, y], [t, u] => match P.underlying t, P.underlying u, cO G x, cO G y with
    | some (.slice e), some du, some a, some b =>
      match isIntD du, P.info? e, zeroOf P e with
      | false, some i, some zs => if 0 < i.size ∧ 0 < i.bytes ∧ zs.length = i.size then some (.app mu i.size i.bytes zs a b) else none
      | _, _, _ => none
    | _, _, _, _ => none
  | .min, _, _ => (cOs G args).map (.mm true)
  | .max, _, _ => (cOs G args).map (.mm false)
  | .recover, _, _ => some .rcv
  | .clear, [x], [t] => match P.underlying t, cO G x with
    | some (.slice el), some o => match P.info? el, zeroOf P el with
      | some i, some zs => if 0 < i.size ∧ zs.length = i.size then some (.clr zs o) else none
      | _, _ => none
    | _, _ => none
  | .delete, [m, k], [t, kt] => match P.underlying t, P.underlying kt, cO G m, cO G k with
    | some (.map kt' _), some .string, some om, some ok => if kt' = kt then some (.mdl om ok) else none
    | _, _, _, _ => none
  | _, _, _ => none

/-- One operation; mu: what this function appends anew may be written later; mb: so may a slice that is written out. -/
def cOp0 (G : Glob) (P : Program) (mu : Bool) (mb : Bool := false) : Op → Option COp
  | .move x => (cO G x).map .mv
  | .assign x => (cO G x).map .mv
  | .pick c a b => match cO G c, cO G a, cO G b with
    | some c, some a, some b => some (.pick c a b)
    | _, _, _ => none
  | .alloc t => (zeroOf P t).map .alloc
  | .box _ x => (cO G x).map .box
  | .build t ps => match P.underlying t, zeroOf P t with
    | some (.struct fs), some zs => match placesOf P fs with
      | some pl => (cPartsS G pl ps.toList).map (.build zs)
      | none => none
    | some (.array _ el), some zs => match P.info? el with
      | some i => (cPartsA G i.size ps.toList).map (.builda zs)
      | none => none
    | _, _ => none
  | .buildSlice t len ps => match P.underlying t with
    | some (.slice e) => match P.info? e, zeroOf P e with
      | some i, some zs => if 0 < i.size ∧ zs.length = i.size ∧ len * i.size ≤ 16777216 then (cPartsA G i.size ps.toList).map (fun q => if mb then .bslm i.size len (repCells zs len) q else .bsl i.size len (repCells zs len) q) else none
      | _, _ => none
    | _ => none
  | .load t x => match aggOf P t, P.info? t, cO G x with
    | some a, some i, some o => some (.load a (if a then i.size else 1) o)
    | _, _, _ => none
  | .store t a x => match P.info? t, cO G a, cO G x with
    | some i, some a, some x => some (.store i.size a x)
    | _, _, _ => none
  | .nilCheck x => (cO G x).map .nilc
  | .binOp op t x y _ => cBin G P op t x y
  | .unOp op _ x => (cO G x).map (.un op)
  | .convert s d x => match P.underlying s, P.underlying d, cO G x with
    | some (.int _), some (.int k), some o => some (.conv k o)
    | some .string, some (.slice e), some o => (match P.underlying e with | some (.int .u8) => some (.s2b o) | _ => none)
    | _, _, _ => none
  | .makeFunc (.func f) first caps => if first.size = 0 then (cOs G caps.toList).map (.clo f) else none
  | .slice t x lo hi mx => match P.underlying t, cO G x, cM G lo, cM G hi, cM G mx with
    | some .string, some o, some l, some h, some none => some (.sls o l h)
    | some (.slice e), some o, some l, some h, some m => match P.info? e with
      | some i => if 0 < i.size ∧ (mx.isSome → hi.isSome) then some (.slc i.size o l h m) else none
      | none => none
    | _, _, _, _, _ => none
  | .fieldAddr t x f => match P.underlying t, cO G x with
    | some (.struct fs), some o => match fs[f]? with
      | some fl => match P.info? fl.type with
        | some i => if 0 < i.size then some (.faddr fl.offset o) else none
        | none => none
      | none => none
    | _, _ => none
  | .field t x f => match P.underlying t, cO G x with
    | some (.struct fs), some o => match fs[f]? with
      | some fl => match aggOf P fl.type, P.info? fl.type with
        | some a, some i => some (.fld a fl.offset i.size o)
        | _, _ => none
      | none => none
    | _, _ => none
  | .indexAddr t x i => match P.underlying t, cO G x, cO G i with
    | some (.slice e), some o, some j => match P.info? e with
      | some inf => some (.iaddr inf.size o j)
      | none => none
    | some (.array len e), some o, some j => match P.info? e with
      | some inf => some (.iaddra len inf.size o j)
      | none => none
    | _, _, _ => none
  | .index t x i => match P.underlying t, cO G x, cO G i with
    | some .string, some o, some j => some (.idx o j)
    | some (.array len el), some o, some j => match aggOf P el, P.info? el with
      | some g, some inf => some (.idxa g len inf.size o j)
      | _, _ => none
    | _, _, _ => none
  | .makeSlice t l k => match P.underlying t, cO G l, cO G k with
    | some (.slice el), some l, some k => match P.info? el, zeroOf P el with
      | some i, some zs => if 0 < i.size ∧ 0 < i.bytes ∧ zs.length = i.size then some (.mksl i.size i.bytes zs l k) else none
      | _, _ => none
    | _, _, _ => none
  | .extract x i => (cO G x).map (.ext · i)
  | .makeInterface t x => match P.underlying t, cO G x with
    | some (.interface _), _ => none
    | some _, some o => some (.mkif t o)
    | _, _ => none
  | .typeAssert x _ t ok => match P.underlying t, zeroV P t, cO G x with
    | some (.interface _), _, _ => none
    | some _, some z, some o => some (.asrt t ok z o)
    | _, _, _ => none
  | .defer c => match c.callee with
    | .value x => match cO G x, cOs G c.args.toList with
      | some o, some l => some (.dfr o l)
      | _, _ => none
    | _ => none
  | .panic x => (cO G x).map .pan
  | .makeMap t none => match P.underlying t with
    | some (.map kt _) => (match P.underlying kt with | some .string => some .mmk | _ => none)
    | _ => none
  | .lookup t m k false => match P.underlying t, cO G m, cO G k with
    | some (.map kt el), some om, some ok => (match P.underlying kt, zeroV P el with | some .string, some z => some (.mlk z om ok) | _, _ => none)
    | _, _, _ => none
  | .mapUpdate t m k x => match P.underlying t, cO G m, cO G k, cO G x with
    | some (.map kt _), some om, some ok, some ox => (match P.underlying kt with | some .string => some (.mup om ok ox) | _ => none)
    | _, _, _, _ => none
  | .call c => match c.callee with
    | .builtin b => cBuiltin G P mu b c.args.toList c.argTypes.toList
    | .value (.func f) => (cOs G c.args.toList).map (.call f)
    | .value (.tmp t) => (cOs G c.args.toList).map (.callv (.t t))
    | _ => none
  | _ => none

/-- An operation that the machine lacks must not be met. -/
def cOp (G : Glob) (P : Program) (mu : Bool) (o : Op) : Option COp := some ((cOp0 G P mu false o).getD .stuck)

/-- The slot in which the operation stands that a guard names. -/
def cGuard (ops : Array Oper) : Option (Nat × Bool) → Option (Option Nat × Bool)
  | none => none
  | some (j, want) => some ((ops[j]?).bind (·.dst), want)

def cOpers (G : Glob) (P : Program) (mu : Bool) (nt : Nat) (ops : Array Oper) : List Oper → Option (List CO)
  | [] => some []
  | o :: r => match cOp G P mu o.op, cOpers G P mu nt ops r with
    | some c, some cs => if o.dst.all (· < nt) = true then some (⟨o.dst, cGuard ops o.guard, c⟩ :: cs) else none
    | _, _ => none

def COp.opds : COp → List Opd
  | .mv x => [x]
  | .pick c a b => [c, a, b]
  | .alloc _ => []
  | .box x => [x]
  | .build _ ps => ps.map fun p => p.2.2
  | .bsl _ _ _ ps => ps.map fun p => p.2.2
  | .load _ _ x => [x]
  | .store _ a x => [a, x]
  | .nilc x => [x]
  | .bin _ x y => [x, y]
  | .eqb _ x y => [x, y]
  | .eqnil _ _ x => [x]
  | .un _ x => [x]
  | .conv _ x => [x]
  | .clo _ cs => cs
  | .slc _ x lo hi mx => x :: (lo.toList ++ hi.toList ++ mx.toList)
  | .sls x lo hi => x :: (lo.toList ++ hi.toList)
  | .faddr _ x => [x]
  | .fld _ _ _ x => [x]
  | .iaddr _ x i => [x, i]
  | .idx x i => [x, i]
  | .ext x _ => [x]
  | .len x => [x]
  | .lens x => [x]
  | .app _ _ _ _ s x => [s, x]
  | .eqs _ _ x y => [x, y]
  | .shf _ x y => [x, y]
  | .builda _ ps => ps.map fun p => p.2.2
  | .idxa _ _ _ x i => [x, i]
  | .mm _ args => args
  | .mksl _ _ _ x y => [x, y]
  | .call _ args => args
  | .callv x args => x :: args
  | .frz x => [x]
  | .stuck => []
  | .iaddra _ _ x i => [x, i]
  | .bslm _ _ _ ps => ps.map fun p => p.2.2
  | .mkif _ x => [x]
  | .asrt _ _ _ x => [x]
  | .eqni _ x => [x]
  | .rcv => []
  | .dfr x args => x :: args
  | .pan x => [x]
  | .s2b x => [x]
  | .mmk => []
  | .mlk _ m k => [m, k]
  | .mup m k x => [m, k, x]
  | .mdl m k => [m, k]
  | .eqp _ x y => [x, y]
  | .clr _ x => [x]

def slotsOf : List Opd → List Nat
  | [] => []
  | .t n :: r => n :: slotsOf r
  | .c _ :: r => slotsOf r

def CO.reads (c : CO) : List Nat :=
  slotsOf c.op.opds ++ (match c.guard with | some (some d, _) => [d] | _ => [])

/-- It may change the store. -/
def COp.heavy : COp → Bool
  | .box _ => true
  | .store _ _ _ => true
  | .app _ _ _ _ _ _ => true
  | .mksl _ _ _ _ _ => true
  | .call _ _ => true
  | .callv _ _ => true
  | .frz _ => true
  | .bslm _ _ _ _ => true
  | .rcv => true
  | .dfr _ _ => true
  | .pan _ => true
  | .mmk => true
  | .mlk _ _ _ => true
  | .mup _ _ _ => true
  | .mdl _ _ => true
  | .eqp _ _ _ => true
  | .clr _ _ => true
  | _ => false

def COp.isLoad : COp → Bool
  | .load _ _ _ => true
  | _ => false

def maskOf (acc : List Nat) (es : List Edge) : Nat :=
  es.foldl (fun s e => if Region.binds .any e then s ||| 2 ^ e.on ||| acc.getD e.on 0 else s) 0

/-- Of each operation which ones stand before it in every order. -/
def befs : List Oper → List Nat → List Nat
  | [], acc => acc
  | o :: r, acc => befs r (acc ++ [maskOf acc o.after.toList])

def ordered (B : List Nat) (i j : Nat) : Bool := if i < j then (B.getD j 0).testBit i else (B.getD i 0).testBit j

/-- A store that stands at the end. -/
def isStoreP (c : CO) : Bool := c.guard.isNone && c.dst.isNone && c.op.isStore
/-- Two stores that Go leaves in no order. -/
def lateOf (B : List Nat) (cs : List CO) : Option (Nat × Nat) := (List.range cs.length).findSome? fun j => (List.range j).findSome? fun i => match cs[i]?, cs[j]? with
  | some d, some c => if isStoreP d && isStoreP c && !(ordered B i j) then some (i, j) else none
  | _, _ => none
/-- All that reads, writes or makes memory stands ahead of both. -/
def lateOk (B : List Nat) (cs : List CO) : Option (Nat × Nat) → Bool
  | none => true
  | some (m, q) => decide (m < q) && (match cs[m]?, cs[q]? with | some d, some c => isStoreP d && isStoreP c | _, _ => false) &&
    (List.range cs.length).all fun k => k == m || k == q || (match cs[k]? with
      | some c => !(c.op.heavy || c.op.isLoad || isAlloc c.op) || ((B.getD m 0).testBit k && (B.getD q 0).testBit k)
      | none => true)

def pairOk (B : List Nat) (lp : Option (Nat × Nat)) (chk : List (Nat × Nat)) (i j : Nat) (d c : CO) : Bool :=
  (!(c.op.heavy && d.op.heavy) || ordered B i j || lp == some (i, j) || lp == some (j, i)) &&
  (!(match d.dst with | some t => c.reads.contains t || c.dst == some t | none => false) || ordered B i j) &&
  (!(isAlloc c.op) || (!(d.dst == c.dst) && (j < i || !(match c.dst with | some t => d.reads.contains t | none => false)))) &&
  (!(c.op.isLoad && d.op.heavy) || ordered B i j || chk.contains (j, i))

def oneOk (j : Nat) (o : Oper) (c : CO) : Bool :=
  (o.after.toList.all fun e => !Region.binds .any e || e.on < j) && (!(isAlloc c.op) || (c.guard.isNone && c.dst.isSome))

/-- The loads and the operations that Go leaves in no order and that might meet. -/
def chkOf (ops : Array Oper) (cs : List CO) : List (Nat × Nat) :=
  let B := befs ops.toList []
  ((List.range cs.length).flatMap fun j => (List.range cs.length).filterMap fun i => match cs[i]?, cs[j]? with
    | some d, some c => if c.op.isLoad && d.op.heavy && !(ordered B i j) then some (j, i) else none
    | _, _ => none) ++ (match lateOf B cs with | some (m, q) => [(q, m)] | none => [])

/-- In whatever order a region runs, it comes to the same. -/
def dOk (ops : Array Oper) (cs : List CO) (chk : List (Nat × Nat)) : Bool :=
  let B := befs ops.toList []
  let lp := lateOf B cs
  lateOk B cs lp && (match lp with | some (m, q) => chk.contains (q, m) | none => true) && (List.range cs.length).all fun j => match ops[j]?, cs[j]? with
    | some o, some c => oneOk j o c && (List.range cs.length).all fun i => i == j || (match cs[i]? with | some d => pairOk B lp chk i j d c | none => false)
    | _, _ => false

/-- These slots get what is written no more, or a slice that may be written. -/
def frzOf (fz : List Nat) (c : CO) : CO :=
  match c.dst, c.op with
  | some d, .mv x => if fz.contains d then ⟨some d, c.guard, .frz x⟩ else c
  | some d, .bsl sz len zs ps => if fz.contains d then ⟨some d, c.guard, .bslm sz len zs ps⟩ else c
  | _, _ => c

def cRes (P : Program) : List ResultVar → Option (List CR)
  | [] => some []
  | .tmp t :: r => (cRes P r).map (.tmp t :: ·)
  | .cell t ty :: r => match aggOf P ty, P.info? ty, cRes P r with
    | some g, some i, some rs => some (.cell t g (if g then i.size else 1) :: rs)
    | _, _, _ => none

/-- A function's text. -/
def cCode (G : Glob) (P : Program) (mu : Bool) (fz : List Nat) (nt : Nat) : Code → Option CC
  | .skip => some .skip
  | .region _ ops false => (cOpers G P mu nt ops ops.toList).map fun l => .reg (l.map (frzOf fz))
  | .region _ ops true => match cOpers G P mu nt ops ops.toList with
    | some cs => if dOk ops cs (chkOf ops cs) = true then some (.dreg cs (chkOf ops cs)) else some .bad
    | none => none
  | .seq a b => match cCode G P mu fz nt a, cCode G P mu fz nt b with
    | some a, some b => some (.seq a b)
    | _, _ => none
  | .cond c a b => match cO G c, cCode G P mu fz nt a, cCode G P mu fz nt b with
    | some c, some a, some b => some (.cond c a b)
    | _, _, _ => none
  | .block id b => (cCode G P mu fz nt b).map (.block id)
  | .loop b => (cCode G P mu fz nt b).map .loop
  | .exit id => some (.exit id)
  | .ret => some .ret
  | .rangeFunc f ps a b => match cO G f, cCode G P mu fz nt a, cCode G P mu fz nt b with
    | some f, some a, some b => some (.back f ps.toList a b)
    | _, _, _ => some .bad
  | _ => some .bad

def cFunc (G : Glob) (P : Program) (mu : Bool) (fn : Func) (fz : List Nat := []) : Option CF :=
  match fn.body with
  | some c => match cCode G P mu fz fn.ntmps c, cRes P fn.results.toList with
    | some b, some r => if fn.name == "runtime.NumGoroutine" then none else some ⟨fn.ntmps, r, b⟩
    | _, _ => none
  | none => none

end Go.Am
