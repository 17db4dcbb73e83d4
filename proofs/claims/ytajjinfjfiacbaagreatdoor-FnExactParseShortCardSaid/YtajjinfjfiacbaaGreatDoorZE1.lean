/- The evaluator: one operation, a region, code, a function. -/
import Derived.Test.YtajjinfjfiacbaaGreatDoorZE0
set_option linter.unusedSectionVars false
set_option linter.unusedVariables false
set_option linter.unusedSimpArgs false
set_option linter.unnecessarySimpa false
namespace Go
namespace Evp

def partType (T : Types) (t : TypeId) (i : Nat) : TypeId :=
  match T t with
  | some { kind := .struct fs, .. } => ((fs[i]?).map (·.2)).getD 0
  | some { kind := .array _ e, .. } => e
  | some { kind := .slice e, .. } => e
  | _ => 0

/-- The operands' slots. -/
def opIns (T : Types) (st : St) (o : Oper) : List Slot :=
  match o.op with
  | .move x => [st.opnd T o.type x]
  | .assign x => [st.opnd T o.type x]
  | .pick c a b => [st.opnd T 0 c, st.opnd T o.type a, st.opnd T o.type b]
  | .alloc _ => []
  | .box e x => [st.opnd T e x]
  | .build t ps => ps.toList.map fun (i, x) => st.opnd T (partType T t i) x
  | .buildSlice t _ ps => ps.toList.map fun (i, x) => st.opnd T (partType T t i) x
  | .load _ a => [st.opnd T 0 a]
  | .store t a x => [st.opnd T 0 a, st.opnd T t x]
  | .nilCheck x => [st.opnd T 0 x]
  | .binOp _ t x y _ => [st.opnd T t x, st.opnd T t y]
  | .unOp _ t x => [st.opnd T t x]
  | .convert s _ x => [st.opnd T s x]
  | .makeFunc _ first caps => (first.toList ++ caps.toList).map (st.opnd T 0)
  | .makeSlice _ l c => [st.opnd T 0 l, st.opnd T 0 c]
  | .slice t x lo hi mx => st.opnd T t x :: (lo.toList ++ hi.toList ++ mx.toList).map (st.opnd T 0)
  | .fieldAddr _ x _ => [st.opnd T 0 x]
  | .field t x _ => [st.opnd T t x]
  | .indexAddr t x i => [st.opnd T t x, st.opnd T 0 i]
  | .index t x i => [st.opnd T t x, st.opnd T 0 i]
  | .extract x _ => [st.opnd T 0 x]
  | .call c =>
    (match c.callee with
     | .value f => [st.opnd T 0 f]
     | .invoke _ _ => []
     | .builtin _ => []) ++ (c.args.toList.zip c.argTypes.toList).map fun (x, t) => st.opnd T t x
  | _ => []

/-- Fixed in a closure: the variables that it captures. -/
def capPV (L : Look) : Slot → Option (PV × Ups)
  | .ptr n 0 =>
    match L n with
    | some (.var cs) => some (.box cs 0, [(n, .bx cs)])
    | some (.bx cs) => some (.box cs 0, [])
    | _ => none
  | .val p => some (p, [])
  | _ => none
def capAll (L : Look) : List Slot → Option (List PV × Ups)
  | [] => some ([], [])
  | s :: r =>
    match capPV L s with
    | none => none
    | some (p, u) =>
      match capAll L r with
      | none => none
      | some (ps, us) => some (p :: ps, u ++ us)

abbrev Res := Option (Slot × Ups)

def valRes (p : PV) : Res := some (.val p, [])
def optRes : Option PV → Res
  | some p => some (.val p, [])
  | none => none

def loadC (L : Look) (i : TI) : Slot → Res
  | .ptr n off =>
    match L n with
    | some (.var cs) => optRes (partPV cs off i)
    | some (.bx cs) => optRes (partPV cs off i)
    | _ => none
  | .elt n j off =>
    match L n with
    | some (.arr _ xs) => match xs[j]? with | some x => optRes (partPV x.cells off i) | none => none
    | some (.frz _ xs) => match xs[j]? with | some x => optRes (partPV x.cells off i) | none => none
    | _ => none
  | .val (.box cs off) => optRes (partPV cs off i)
  | _ => none

def storeC (L : Look) (i : TI) (s : Slot) (p : PV) : Option Ups :=
  match s with
  | .ptr n off =>
    match L n with
    | some (.var cs) => match putPart cs off i.size p with | some ds => some [(n, .var ds)] | none => none
    | _ => none
  | .elt n j off =>
    match L n with
    | some (.arr sz xs) =>
      match xs[j]? with
      | some x =>
        bif i.size == sz then bif (p.cells.length == sz) && (off == 0) then some [(n, .arr sz (xs.set j p))] else none
        else match putPart x.cells off i.size p with | some ds => some [(n, .arr sz (xs.set j (.agg ds)))] | none => none
      | none => none
    | _ => none
  | _ => none

def indexAddrC (T : Types) (L : Look) (t : TypeId) (s : Slot) (i : Int) : Res :=
  match T t with
  | some { kind := .slice e, .. } =>
    match T e with
    | none => none
    | some ei =>
      match s with
      | .slc n =>
        match L n with
        | some (.arr sz xs) =>
          bif sz == ei.size then bif decide (0 ≤ i) && decide (i < xs.length) then some (.elt n i.toNat 0, []) else none else none
        | some (.frz sz xs) =>
          bif sz == ei.size then bif decide (0 ≤ i) then
            match xs[i.toNat]? with | some x => some (.val (.box x.cells 0), []) | none => none
          else none else none
        | _ => none
      | .val (.sl sz xs) =>
        bif sz == ei.size then bif decide (0 ≤ i) then
          match xs[i.toNat]? with | some x => some (.val (.box x.cells 0), []) | none => none
        else none else none
      | _ => none
  | some { kind := .array len e, .. } =>
    match T e with
    | none => none
    | some ei =>
      match s with
      | .ptr n off => bif decide (0 ≤ i) && decide (i < len) then some (.ptr n (off + i.toNat * ei.size), []) else none
      | .val (.box cs off) => bif decide (0 ≤ i) && decide (i < len) then some (.val (.box cs (off + i.toNat * ei.size)), []) else none
      | _ => none
  | _ => none

def indexC (T : Types) (t : TypeId) (p : PV) (i : Int) : Res :=
  match p with
  | .v (.string s) =>
    match T t with
    | some { kind := .str, .. } =>
      bif decide (0 ≤ i) then match s.data.toList[i.toNat]? with | some b => valRes (.v (.int .u8 b.toNat)) | none => none else none
    | _ => none
  | .agg cs =>
    match T t with
    | some { kind := .array len e, .. } =>
      match T e with
      | none => none
      | some ei => bif decide (0 ≤ i) && decide (i < len) then optRes (partPV cs (i.toNat * ei.size) ei) else none
    | _ => none
  | _ => none

def fieldC (T : Types) (t : TypeId) (f : Nat) (p : PV) : Res :=
  match T t with
  | some { kind := .struct fs, .. } =>
    match fs[f]? with
    | none => none
    | some (off, ft) =>
      match T ft with
      | none => none
      | some fi =>
        match p with
        | .agg cs => optRes (partPV cs off fi)
        | _ => none
  | _ => none

def fieldAddrC (T : Types) (t : TypeId) (f : Nat) (s : Slot) : Res :=
  match T t with
  | some { kind := .struct fs, .. } =>
    match fs[f]? with
    | none => none
    | some (off, ft) =>
      match T ft with
      | none => none
      | some fi =>
        bif fi.size == 0 then none else
        match s with
        | .ptr n o => some (.ptr n (o + off), [])
        | .elt n j o => some (.elt n j (o + off), [])
        | .val (.box cs o) => some (.val (.box cs (o + off)), [])
        | _ => none
  | _ => none

def intOf : Slot → Option Int
  | .val (.v (.int _ n)) => some n
  | _ => none

/-- The bounds of a slice expression, both told: 0 ≤ l ≤ h ≤ n. -/
def within (l h : Int) (n : Nat) : Bool := decide (0 ≤ l) && decide (l ≤ h) && decide (h ≤ n)

def sliceC (T : Types) (L : Look) (nm : Nat) (t : TypeId) (x : Slot) (lo hi mx : Option Int) : Res :=
  match mx with
  | some m =>
    -- s[:0:0] alone: nothing, with no room behind it
    match lo, hi with
    | none, some h =>
      bif (m == 0) && (h == 0) then
        match elemSize T t, rdPV L x with
        | some sz, some (.sl _ _) => some (.slc nm, [(nm, .arr sz [])])
        | _, _ => none
      else none
    | _, _ => none
  | none =>
    match keepPV L x with
    | some (.v (.string s), _) =>
      match T t with
      | some { kind := .str, .. } =>
        bif within (lo.getD 0) (hi.getD s.size) s.size then valRes (.v (.string (s.extract (lo.getD 0).toNat (hi.getD s.size).toNat))) else none
      | _ => none
    | some (.sl sz xs, ups) =>
      bif (elemSize T t == some sz) && within (lo.getD 0) (hi.getD xs.length) xs.length then
        some (.val (.sl sz ((xs.take (hi.getD xs.length).toNat).drop (lo.getD 0).toNat)), ups) else none
    | _ => none

def appendC (T : Types) (L : Look) (nm : Nat) (t t2 : TypeId) (s x : Slot) : Res :=
  match T t with
  | some { kind := .slice e, .. } =>
    match T e, T t2 with
    | some ei, some xi =>
      match s with
      | .slc n =>
        match L n with
        | some (.arr sz xs) =>
          match xi.kind, x with
          | .slice _, .val (.sl sz2 ys) =>
            bif (sz == ei.size) && (sz2 == ei.size) && roomy (xs.length + ys.length) ei.bytes && !(ei.bytes == 0) then some (.slc nm, [(n, .gone), (nm, .arr sz (xs ++ ys))]) else none
          | .slice _, .slc m =>
            match L m with
            | some (.arr sz2 ys) => bif (sz == ei.size) && (sz2 == ei.size) && !(m == n) && roomy (xs.length + ys.length) ei.bytes && !(ei.bytes == 0) then some (.slc nm, [(n, .gone), (nm, .arr sz (xs ++ ys))]) else none
            | some (.frz sz2 ys) => bif (sz == ei.size) && (sz2 == ei.size) && !(m == n) && roomy (xs.length + ys.length) ei.bytes && !(ei.bytes == 0) then some (.slc nm, [(n, .gone), (nm, .arr sz (xs ++ ys))]) else none
            | _ => none
          | .str, .val (.v (.string b)) =>
            bif (sz == 1) && (ei.size == 1) && roomy (xs.length + b.size) ei.bytes && !(ei.bytes == 0) then some (.slc nm, [(n, .gone), (nm, .arr sz (xs ++ ofBytes b.data.toList))]) else none
          | _, _ => none
        | _ => none
      | _ => none
    | _, _ => none
  | _ => none

def minInt (a b : Int) : Int := if b < a then b else a
def maxInt (a b : Int) : Int := if a < b then b else a

def builtinC (T : Types) (L : Look) (nm : Nat) (b : Builtin) (ts : List TypeId) (ins : List Slot) : Res :=
  match b, ts, ins with
  | .len, [t], [s] =>
    match T t, rdPV L s with
    | some { kind := .str, .. }, some (.v (.string x)) => valRes (.v (.int .i64 x.size))
    | some { kind := .slice _, .. }, some (.sl _ xs) => valRes (.v (.int .i64 xs.length))
    | _, _ => none
  | .append, [t, t2], [s, x] => appendC T L nm t t2 s x
  | .min, _, [.val (.v (.int k a)), .val (.v (.int _ b))] => valRes (.v (.int k (minInt a b)))
  | .max, _, [.val (.v (.int k a)), .val (.v (.int _ b))] => valRes (.v (.int k (maxInt a b)))
  | _, _, _ => none

def convertC (T : Types) (nm : Nat) (s d : TypeId) (p : PV) : Res :=
  match T s, T d with
  | some si, some di =>
    match si.kind, di.kind, p with
    | .int _, .int k, .v (.int _ n) => valRes (.v (.int k (k.wrap n)))
    | .str, .str, .v (.string x) => valRes (.v (.string x))
    | .int _, .str, .v (.int _ n) => valRes (.v (.string (Utf8.encode n)))
    | .str, .slice e, .v (.string x) =>
      match T e with
      | some ei => bif decide (ei.kind = .int .u8) && (ei.size == 1) then some (.slc nm, [(nm, .arr 1 (ofBytes x.data.toList))]) else none
      | none => none
    | .slice e, .str, .sl 1 xs =>
      match T e with
      | some ei => bif decide (ei.kind = .int .u8) then (match asBytes xs with | some bs => valRes (.v (.string ⟨bs.toArray⟩)) | none => none) else none
      | none => none
    | _, _, _ => none
  | _, _ => none

def zerosPV (i : TI) : List PV := i.zero.map ZK.pv
def zeroElem (i : TI) : PV := match i.isAgg with | true => .agg (zerosPV i) | false => (zerosPV i).headD default

def moveC (T : Types) (nm : Nat) (t : TypeId) (x : Operand) (ins : List Slot) : Res :=
  match x with
  | .const (.slice none 0 0) =>
    match elemSize T t with
    | some sz => some (.slc nm, [(nm, .arr sz [])])
    | none => none
  | _ =>
    match ins with
    | [.val p] => some (.val p, [])
    | [.ptr n off] => some (.ptr n off, [])
    | [.elt n i off] => some (.elt n i off, [])
    | [.slc n] => some (.slc n, [])
    | [.tup ss] => some (.tup ss, [])
    | _ => none

def isBoolT (T : Types) (t : TypeId) : Bool :=
  match T t with
  | some { kind := .bool, .. } => true
  | _ => false

/-- One operation that is no call. -/
def opC (T : Types) (EQ : TypeId → Option (List ZK)) (nm : Nat) (L : Look) (o : Oper) (ins : List Slot) : Res :=
  match o.op with
  | .move x => moveC T nm o.type x ins
  | .assign x => moveC T nm o.type x ins
  | .pick _ _ _ =>
    match ins with
    | [.val (.v (.bool b)), x, y] =>
      match b with
      | true => match x with | .val p => some (.val p, []) | _ => none
      | false => match y with | .val p => some (.val p, []) | _ => none
    | _ => none
  | .alloc e =>
    match T e with
    | some i => some (.ptr nm 0, [(nm, .var (zerosPV i))])
    | none => none
  | .box _ _ =>
    match ins with
    | [s] => match keepPV L s with | some (p, ups) => some (.ptr nm 0, (nm, .var p.cells) :: ups) | none => none
    | _ => none
  | .build t ps =>
    match T t with
    | none => none
    | some i =>
      match keepAll L ins with
      | none => none
      | some (vs, ups) =>
        match i.kind with
        | .struct fs =>
          match fillStruct T fs ((ps.toList.map (·.1)).zip vs) (zerosPV i) with
          | some cs => some (.val (.agg cs), ups)
          | none => none
        | .array _ e =>
          match T e with
          | none => none
          | some ei => match fillPV ei.size ((ps.toList.map (·.1)).zip vs) (zerosPV i) with | some cs => some (.val (.agg cs), ups) | none => none
        | _ => none
  | .buildSlice t len ps =>
    match T t with
    | some { kind := .slice e, .. } =>
      match T e with
      | none => none
      | some ei =>
        match keepAll L ins with
        | none => none
        | some (vs, ups) =>
          bif (ps.toList.map (·.1) == List.range len) && (vs.length == len) && vs.all (fun p => p.cells.length == ei.size) && (len * ei.size).ble 65536
            then some (.slc nm, (nm, .arr ei.size vs) :: ups) else none
    | _ => none
  | .load t _ =>
    match T t, ins with
    | some i, [s] => loadC L i s
    | _, _ => none
  | .store t _ _ =>
    match T t, ins with
    | some i, [s, x] =>
      match keepPV L x with
      | some (p, ups) =>
        match storeC L i s p with
        | some u => bif ups.all (fun x => u.all (fun y => !(x.1 == y.1))) then some (.undef, u ++ ups) else none
        | none => none
      | none => none
    | _, _ => none
  | .nilCheck _ =>
    match ins with
    | [.ptr n off] => some (.ptr n off, [])
    | [.elt n i off] => some (.elt n i off, [])
    | [.val (.box cs off)] => some (.val (.box cs off), [])
    | [.val (.fn f a b)] => some (.val (.fn f a b), [])
    | _ => none
  | .binOp op t _ _ _ =>
    match ins with
    | [x, y] =>
      match rdPV L x, rdPV L y with
      | some p, some q => optRes (binPV (EQ t) (isBoolT T t) op p q)
      | _, _ => none
    | _ => none
  | .unOp op _ _ =>
    match ins with
    | [.val p] => optRes (unPV op p)
    | _ => none
  | .convert s d _ =>
    match ins with
    | [x] => match rdPV L x with | some p => convertC T nm s d p | none => none
    | _ => none
  | .makeFunc (.func f) first _ =>
    match capAll L ins with
    | some (vs, ups) => some (.val (.fn f (vs.take first.size) (vs.drop first.size)), ups)
    | none => none
  | .makeSlice t _ _ =>
    match T t, ins with
    | some { kind := .slice e, .. }, [.val (.v (.int _ l)), .val (.v (.int _ c))] =>
      match T e with
      | none => none
      | some ei =>
        bif decide (0 ≤ l) && (l == c) && roomy l.toNat ei.bytes && decide (l ≤ 9223372036854775807) && decide (ei.isAgg = true ∨ ei.size = 1) then
          some (.slc nm, [(nm, .arr ei.size (List.replicate l.toNat (zeroElem ei)))]) else none
    | _, _ => none
  | .slice t _ lo hi mx =>
    match ins with
    | x :: is =>
      match lo, hi, mx, is with
      | none, none, none, [] => sliceC T L nm t x none none none
      | some _, none, none, [a] => match intOf a with | some i => sliceC T L nm t x (some i) none none | none => none
      | none, some _, none, [a] => match intOf a with | some i => sliceC T L nm t x none (some i) none | none => none
      | some _, some _, none, [a, b] => match intOf a, intOf b with | some i, some j => sliceC T L nm t x (some i) (some j) none | _, _ => none
      | none, some _, some _, [a, b] => match intOf a, intOf b with | some i, some j => sliceC T L nm t x none (some i) (some j) | _, _ => none
      | _, _, _, _ => none
    | _ => none
  | .fieldAddr t _ f =>
    match ins with
    | [s] => fieldAddrC T t f s
    | _ => none
  | .field t _ f =>
    match ins with
    | [.val p] => fieldC T t f p
    | _ => none
  | .indexAddr t _ _ =>
    match ins with
    | [s, .val (.v (.int _ i))] => indexAddrC T L t s i
    | _ => none
  | .index t _ _ =>
    match ins with
    | [.val p, .val (.v (.int _ i))] => indexC T t p i
    | _ => none
  | .extract _ i =>
    match ins with
    | [.tup ss] =>
      match ss[i]? with
      | some (.inl p) => some (.val p, [])
      | some (.inr n) => some (.slc n, [])
      | none => none
    | _ => none
  | .call c =>
    match c.callee with
    | .builtin b => bif c.args.size == c.argTypes.size then builtinC T L nm b c.argTypes.toList ins else none
    | _ => none
  | _ => none

/-! Calls -/

inductive PK where
  | val | iptr | islc
  deriving DecidableEq
inductive RK where
  | flat | val | own
  deriving DecidableEq
structure FSig where
  params : List PK
  results : List RK

structure Gathered where
  args : List PV
  borrowed : List (Nat × Obj)
  inouts : List (PK × Nat × Nat)

/-- The arguments: values (own slices are lent), variables and own slices that the callee changes. -/
def gather (L : Look) : List PK → List Slot → Option Gathered
  | [], [] => some ⟨[], [], []⟩
  | k :: ks, s :: ss =>
    match gather L ks ss with
    | none => none
    | some g =>
      match k, s with
      | .val, .val p => some ⟨p :: g.args, g.borrowed, g.inouts⟩
      | .val, .slc n =>
        match L n with
        | some (.arr sz xs) => some ⟨.sl sz xs :: g.args, (n, .frz sz xs) :: g.borrowed, g.inouts⟩
        | some (.frz sz xs) => some ⟨.sl sz xs :: g.args, g.borrowed, g.inouts⟩
        | _ => none
      | .iptr, .ptr n 0 =>
        match L n with
        | some (.var cs) => some ⟨.agg cs :: g.args, g.borrowed, (.iptr, n, 0) :: g.inouts⟩
        | _ => none
      | .islc, .slc n =>
        match L n with
        | some (.arr sz xs) => some ⟨.sl sz xs :: g.args, g.borrowed, (.islc, n, sz) :: g.inouts⟩
        | _ => none
      | _, _ => none
  | _, _ => none

def nodupB : List Nat → Bool
  | [] => true
  | n :: r => !r.contains n && nodupB r

def resSlots (nm : Nat) : List RK → List PV → Nat → List (PV ⊕ Nat) × Ups
  | [], _, _ => ([], [])
  | k :: ks, rs, j =>
    let p := rs.headD default
    let r := resSlots nm ks rs.tail (j + 1)
    match k with
    | .own => (.inr (nm + j) :: r.1, (nm + j, .arr p.slSz p.slXs) :: r.2)
    | _ => (.inl p :: r.1, r.2)

def backUps : List (PK × Nat × Nat) → List PV → Ups
  | [], _ => []
  | (k, n, sz) :: r, rs =>
    let p := rs.headD default
    (n, match k with | .islc => .arr sz p.slXs | _ => .var p.cells) :: backUps r rs.tail

def resSlot : List (PV ⊕ Nat) → Slot
  | [.inl p] => .val p
  | [.inr n] => .slc n
  | ss => .tup ss

abbrev Oracle := FuncId → List PV → Option (List PV)
abbrev Sigs := FuncId → Option FSig

def callUps (g : Gathered) (rk : List RK) : Ups := bif rk.all (fun k => !(decide (k = .val))) && g.inouts.isEmpty then [] else g.borrowed

def callRes (nm : Nat) (sg : FSig) (g : Gathered) (rs : List PV) : Slot × Ups :=
  let r := resSlots nm sg.results rs 1
  (resSlot r.1, r.2 ++ (backUps g.inouts (rs.drop sg.results.length) ++ callUps g sg.results))

def callPrep (sg : FSig) (L : Look) (ins : List Slot) : Option Gathered :=
  match gather L sg.params ins with
  | none => none
  | some g => bif nodupB (g.inouts.map (·.2.1)) && g.borrowed.all (fun b => !(g.inouts.map (·.2.1)).contains b.1) then some g else none

/-- Whom a call's callee slot means: the function, what stands ahead of the arguments and behind them. -/
def target : Slot → Option (FuncId × List PV × List PV)
  | .val (.fn f first caps) => some (f, first, caps)
  | _ => none

def callD (C : Oracle) (S : Sigs) (nm : Nat) (L : Look) (ins : List Slot) : Res :=
  match ins with
  | fs :: as_ =>
    match target fs with
    | none => none
    | some (f, first, caps) =>
      match S f with
      | none => none
      | some sg =>
        match callPrep sg L (first.map .val ++ as_ ++ caps.map .val) with
        | none => none
        | some g =>
          match C f g.args with
          | none => none
          | some rs => some (callRes nm sg g rs)
  | [] => none

def isCall (o : Oper) : Bool :=
  match o.op with
  | .call { callee := .value _, args, argTypes } => args.size == argTypes.size
  | _ => false

def opD (T : Types) (EQ : TypeId → Option (List ZK)) (C : Oracle) (S : Sigs) (nm : Nat) (st : St) (o : Oper) : Res :=
  bif isCall o then callD C S nm st.obj (opIns T st o) else opC T EQ nm st.obj o (opIns T st o)

end Evp
end Go
