/- The evaluator: values, slots, objects, operations. -/
import Derived.Orders
set_option linter.unusedSectionVars false
set_option linter.unusedVariables false
set_option linter.unusedSimpArgs false
set_option linter.unnecessarySimpa false
namespace Go
namespace Evp

/-- A Go value as a mathematical one. 'sl sz xs': a slice whose elements (sz cells each) read as xs. 'box cs off': the address of cell off of memory that holds cs and never changes. -/
inductive PV where
  | v (x : Value)
  | sl (sz : Nat) (xs : List PV)
  | agg (cs : List PV)
  | fn (f : FuncId) (first caps : List PV)
  | box (cs : List PV) (off : Nat)
  deriving Inhabited

def PV.cells : PV → List PV
  | .agg cs => cs
  | p => [p]

/-- Values without a way into memory. -/
def PV.isV : PV → Bool
  | .v _ => true
  | _ => false
def PV.flat : PV → Bool
  | .v _ => true
  | .agg cs => cs.all PV.isV
  | _ => false

def PV.slSz : PV → Nat
  | .sl sz _ => sz
  | _ => 0
def PV.slXs : PV → List PV
  | .sl _ xs => xs
  | _ => []

inductive ZK where
  | int (k : IntKind) | bool | str | slice | ptr | iface | func | map
  deriving DecidableEq

def ZK.val : ZK → Value
  | .int k => .int k 0
  | .bool => .bool false
  | .str => .string ⟨#[]⟩
  | .slice => .slice none 0 0
  | .ptr => .pointer none
  | .iface => .nilIface
  | .func => .nilFunc
  | .map => .map none
def ZK.pv : ZK → PV
  | .slice => .sl 0 []
  | k => .v k.val

inductive TK where
  | int (k : IntKind) | bool | str
  | struct (fs : List (Nat × TypeId))
  | array (n : Nat) (e : TypeId)
  | slice (e : TypeId)
  | other
  deriving DecidableEq

structure TI where
  size : Nat
  bytes : Nat
  zero : List ZK
  kind : TK
  deriving DecidableEq

def TI.isAgg (i : TI) : Bool :=
  match i.kind with
  | .struct _ => true
  | .array _ _ => true
  | _ => false

abbrev Types := TypeId → Option TI

inductive Slot where
  | no
  | undef
  | val (p : PV)
  | ptr (n off : Nat)
  | elt (n i o : Nat)
  | slc (n : Nat)
  | tup (ss : List (PV ⊕ Nat))
  deriving Inhabited

inductive Obj where
  | var (cs : List PV)
  | arr (sz : Nat) (xs : List PV)
  | frz (sz : Nat) (xs : List PV)
  | bx (cs : List PV)
  | gone

structure St where
  slots : List Slot
  objs : List (Nat × Obj)
  nxt : Nat

def St.slot (st : St) (t : Nat) : Slot := st.slots.getD t .no

def look : List (Nat × Obj) → Nat → Option Obj
  | [], _ => none
  | (m, o) :: r, n => bif m == n then some o else look r n

abbrev St.obj (st : St) (n : Nat) : Option Obj := look st.objs n

def St.put (st : St) (dst : Option Nat) (s : Slot) (ups : List (Nat × Obj)) : St :=
  match dst with
  | some d => { st with slots := st.slots.set d s, objs := ups ++ st.objs }
  | none => { st with objs := ups ++ st.objs }

/-- What an operation is given: its operands' slots and the objects. -/
abbrev Look := Nat → Option Obj

def elemSize (T : Types) (t : TypeId) : Option Nat :=
  match T t with
  | some { kind := .slice e, .. } => (T e).map (·.size)
  | _ => none

def constSlot (T : Types) (t : TypeId) : Value → Slot
  | .slice none 0 0 =>
    match elemSize T t with
    | some sz => .val (.sl sz [])
    | none => .no
  | .slice _ _ _ => .no
  | .agg _ => .no
  | .tuple _ => .no
  | .func _ _ _ => .no
  | .pointer (some _) => .no
  | x => .val (.v x)

def St.opnd (T : Types) (st : St) (t : TypeId) : Operand → Slot
  | .tmp n => st.slot n
  | .const x => constSlot T t x
  | .func f => .val (.fn f [] [])
  | .global _ => .no

abbrev Ups := List (Nat × Obj)

/-- A slot read as a value (what it is in memory may change later). -/
def rdPV (L : Look) : Slot → Option PV
  | .val p => some p
  | .slc n =>
    match L n with
    | some (.arr sz xs) => some (.sl sz xs)
    | some (.frz sz xs) => some (.sl sz xs)
    | _ => none
  | _ => none

/-- A slot read as a value that is kept: its memory is given up to be read alone. -/
def keepPV (L : Look) : Slot → Option (PV × Ups)
  | .val p => some (p, [])
  | .slc n =>
    match L n with
    | some (.arr sz xs) => some (.sl sz xs, [(n, .frz sz xs)])
    | some (.frz sz xs) => some (.sl sz xs, [])
    | _ => none
  | _ => none

def keepAll (L : Look) : List Slot → Option (List PV × Ups)
  | [] => some ([], [])
  | s :: r =>
    match keepPV L s with
    | none => none
    | some (p, u) =>
      match keepAll L r with
      | none => none
      | some (ps, us) => some (p :: ps, u ++ us)

def partPV (cs : List PV) (off : Nat) (i : TI) : Option PV :=
  match i.isAgg with
  | true => bif (off + i.size).ble cs.length then some (.agg ((cs.drop off).take i.size)) else none
  | false => cs[off]?

def putPart (cs : List PV) (off size : Nat) (p : PV) : Option (List PV) :=
  bif (p.cells.length == size) && (off + size).ble cs.length then some (cs.take off ++ p.cells ++ cs.drop (off + size)) else none

def intBin (op : BinOp) (k : IntKind) (a b : Int) : Option Value :=
  match op with
  | .add => some (.int k (k.wrap (a + b)))
  | .sub => some (.int k (k.wrap (a - b)))
  | .mul => some (.int k (k.wrap (a * b)))
  | .quo => bif b == 0 then none else some (.int k (k.wrap (a.tdiv b)))
  | .rem => bif b == 0 then none else some (.int k (a.tmod b))
  | .and => some (.int k (k.wrap (BitVec.ofInt k.bits a &&& BitVec.ofInt k.bits b).toNat))
  | .or => some (.int k (k.wrap (BitVec.ofInt k.bits a ||| BitVec.ofInt k.bits b).toNat))
  | .xor => some (.int k (k.wrap (BitVec.ofInt k.bits a ^^^ BitVec.ofInt k.bits b).toNat))
  | .eql => some (.bool (a == b))
  | .neq => some (.bool (a != b))
  | .lss => some (.bool (a < b))
  | .leq => some (.bool (a ≤ b))
  | .gtr => some (.bool (a > b))
  | .geq => some (.bool (a ≥ b))
  | _ => none

def shiftV (op : BinOp) (k : IntKind) (a b : Int) : Option Value :=
  bif decide (b < 0) then none else
  match op with
  | .shl => some (.int k (k.wrap (a * 2 ^ (min b.toNat k.bits))))
  | .shr => some (.int k (a.fdiv (2 ^ (min b.toNat k.bits))))
  | _ => none

def strBin (op : BinOp) (x y : ByteArray) : Option Value :=
  match op with
  | .add => bif (x.size + y.size).ble 9223372036854775807 then some (.string (x ++ y)) else none
  | .eql => some (.bool (x.toList == y.toList))
  | .neq => some (.bool (!(x.toList == y.toList)))
  | .lss => some (.bool (Op.bytesLess x.toList y.toList))
  | .leq => some (.bool (Op.bytesLess x.toList y.toList || x.toList == y.toList))
  | .gtr => some (.bool (!(Op.bytesLess x.toList y.toList || x.toList == y.toList)))
  | .geq => some (.bool (!(Op.bytesLess x.toList y.toList)))
  | _ => none

def eqV : Value → Value → Option Bool
  | .int k a, .int k' b => bif k == k' then some (a == b) else none
  | .bool a, .bool b => some (a == b)
  | .string a, .string b => some (a.toList == b.toList)
  | _, _ => none

def ZK.fits : ZK → Value → Bool
  | .int k, .int k' _ => k == k'
  | .bool, .bool _ => true
  | .str, .string _ => true
  | _, _ => false

/-- Cells of the kinds zs, compared one by one. -/
def eqCells : List ZK → List PV → List PV → Option Bool
  | [], [], [] => some true
  | z :: zs, .v x :: cs, .v y :: ds =>
    bif z.fits x && z.fits y then
      match eqV x y with
      | none => none
      | some a =>
        match eqCells zs cs ds with
        | none => none
        | some b => some (a && b)
    else none
  | _, _, _ => none

def isShift : BinOp → Bool
  | .shl => true
  | .shr => true
  | _ => false

/-- Two values by an operator. 'eqt': structs of this type are compared cell by cell. -/
def binPV (eqt : Option (List ZK)) (bt : Bool) (op : BinOp) : PV → PV → Option PV
  | .v (.int k a), .v (.int k' b) =>
    bif isShift op then (shiftV op k a b).map .v
    else bif k == k' then (intBin op k a b).map .v else none
  | .v (.string a), .v (.string b) => (strBin op a b).map .v
  | .v (.bool a), .v (.bool b) =>
    bif bt then
      match op with
      | .eql => some (.v (.bool (a == b)))
      | .neq => some (.v (.bool (!(a == b))))
      | _ => none
    else none
  | .agg cs, .agg ds =>
    match eqt with
    | some zs =>
      match op with
      | .eql => (eqCells zs cs ds).map fun b => .v (.bool b)
      | .neq => (eqCells zs cs ds).map fun b => .v (.bool (!b))
      | _ => none
    | none => none
  | _, _ => none

def unPV (op : UnOp) : PV → Option PV
  | .v (.bool b) =>
    match op with
    | .not => some (.v (.bool (!b)))
    | _ => none
  | .v (.int k n) =>
    match op with
    | .neg => some (.v (.int k (k.wrap (0 - n))))
    | _ => none
  | _ => none

def asByte : PV → Option UInt8
  | .v (.int .u8 n) => some (UInt8.ofNat n.toNat)
  | _ => none
def asBytes : List PV → Option (List UInt8)
  | [] => some []
  | p :: r =>
    match asByte p with
    | none => none
    | some b =>
      match asBytes r with
      | none => none
      | some bs => some (b :: bs)
def ofBytes (l : List UInt8) : List PV := l.map fun b => .v (.int .u8 b.toNat)

/-- How many bytes a slice may take that is made here. -/
def roomy (n bytes : Nat) : Bool := (n * bytes).ble 70368744177664

def fillPV (size : Nat) : List (Nat × PV) → List PV → Option (List PV)
  | [], cells => some cells
  | (i, p) :: r, cells =>
    match putPart cells (i * size) size p with
    | none => none
    | some cs => fillPV size r cs

def fillStruct (T : Types) (fs : List (Nat × TypeId)) : List (Nat × PV) → List PV → Option (List PV)
  | [], cells => some cells
  | (i, p) :: r, cells =>
    match fs[i]? with
    | none => none
    | some (off, t) =>
      match T t with
      | none => none
      | some ti =>
        match putPart cells off ti.size p with
        | none => none
        | some cs => fillStruct T fs r cs

end Evp
end Go
