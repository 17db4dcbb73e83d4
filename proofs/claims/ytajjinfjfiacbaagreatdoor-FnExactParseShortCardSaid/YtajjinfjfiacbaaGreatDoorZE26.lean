/- The evaluator once more, with continuations: what is known of a function's data stays a variable. -/
import Derived.Test.YtajjinfjfiacbaaGreatDoorZE25
set_option linter.unusedSectionVars false
set_option linter.unusedVariables false
set_option linter.unusedSimpArgs false
set_option linter.unnecessarySimpa false
namespace Go
namespace Evp

abbrev R := Option (List PV)

/-! What may fail. -/

def chk (b : Bool) (k : R) : R := match b with | true => k | false => none
def optP (o : Option PV) (k : PV → R) : R := match o with | some p => k p | none => none
def optI (κ : IntKind) (o : Option PV) (k : Int → R) : R :=
  match o with
  | some (.v (.int κ' a)) => match decide (κ' = κ) with | true => k a | false => none
  | _ => none
def optB (o : Option PV) (k : Bool → R) : R :=
  match o with
  | some (.v (.bool b)) => k b
  | _ => none
def optS (o : Option PV) (k : ByteArray → R) : R :=
  match o with
  | some (.v (.string b)) => k b
  | _ => none
def optL (o : Option PV) (k : Nat → List PV → R) : R :=
  match o with
  | some (.sl z xs) => k z xs
  | _ => none
def optLz (z : Nat) (o : Option PV) (k : List PV → R) : R :=
  match o with
  | some (.sl z' xs) => match decide (z' = z) with | true => k xs | false => none
  | _ => none
def optA (o : Option PV) (k : List PV → R) : R :=
  match o with
  | some (.agg cs) => k cs
  | _ => none
def optC {α : Type} (o : Option α) (k : α → R) : R := match o with | some p => k p | none => none

def optX (o : Option PV) (k : List PV → R) : R :=
  match o with
  | some (.box cs 0) => k cs
  | _ => none

/-- What is known of a value's form. -/
inductive Sh where
  | int (k : IntKind) | bool | str | sl (z : Nat) | slz | agg | box | any

def refine (s : Sh) (o : Option PV) (k : PV → R) : R :=
  match s with
  | .int κ => optI κ o fun a => k (.v (.int κ a))
  | .bool => optB o fun b => k (.v (.bool b))
  | .str => optS o fun b => k (.v (.string b))
  | .sl z => optLz z o fun xs => k (.sl z xs)
  | .slz => optL o fun z xs => k (.sl z xs)
  | .agg => optA o fun cs => k (.agg cs)
  | .box => optX o fun cs => k (.box cs 0)
  | .any => optP o k

def optU (ps : List PV) (k : PV → List PV → R) : R :=
  match ps with
  | p :: r => k p r
  | [] => none
def popN (ps : List PV) (k : R) : R :=
  match ps with
  | [] => k
  | _ :: _ => none

/-- A list of values of known forms. -/
def un : List Sh → List PV → (List PV → R) → R
  | [], ps, k => popN ps (k [])
  | s :: ss, ps, k => optU ps fun p r => refine s (some p) fun q => un ss r fun qs => k (q :: qs)

/-! What a list begins with. -/
def popI (κ : IntKind) (ps : List PV) (k : Int → List PV → R) : R := optU ps fun p r => optI κ (some p) fun a => k a r
def popB (ps : List PV) (k : Bool → List PV → R) : R := optU ps fun p r => optB (some p) fun a => k a r
def popS (ps : List PV) (k : ByteArray → List PV → R) : R := optU ps fun p r => optS (some p) fun a => k a r
def popLz (z : Nat) (ps : List PV) (k : List PV → List PV → R) : R := optU ps fun p r => optLz z (some p) fun a => k a r
def popL (ps : List PV) (k : Nat → List PV → List PV → R) : R := optU ps fun p r => optL (some p) fun z a => k z a r
def popA (ps : List PV) (k : List PV → List PV → R) : R := optU ps fun p r => optA (some p) fun a => k a r
def popX (ps : List PV) (k : List PV → List PV → R) : R := optU ps fun p r => optX (some p) fun a => k a r
def popP (ps : List PV) (k : PV → List PV → R) : R := optU ps fun p r => k p r

def partA (cs : List PV) (off size : Nat) : Option PV := bif (off + size).ble cs.length then some (.agg ((cs.drop off).take size)) else none
def eltS (xs : List PV) (j off : Nat) : Option PV :=
  match xs[j]? with
  | some x => x.cells[off]?
  | none => none
def eltA (xs : List PV) (j off size : Nat) : Option PV :=
  match xs[j]? with
  | some x => partA x.cells off size
  | none => none
def fillL : List (Nat × Nat × PV) → List PV → Option (List PV)
  | [], cells => some cells
  | (off, size, p) :: r, cells =>
    match putPart cells off size p with
    | none => none
    | some cs => fillL r cs

def arrS (cs : List PV) (len size : Nat) (i : Int) : Option PV :=
  match decide (0 ≤ i) && decide (i < len) with
  | true => cs[i.toNat * size]?
  | false => none
def arrA (cs : List PV) (len size : Nat) (i : Int) : Option PV :=
  match decide (0 ≤ i) && decide (i < len) with
  | true => partA cs (i.toNat * size) size
  | false => none
abbrev bs (l : List UInt8) : ByteArray := ⟨⟨l⟩⟩
abbrev I (n : Int) : PV := .v (.int .i64 n)
abbrev B (b : Bool) : PV := .v (.bool b)
abbrev Sg (s : ByteArray) : PV := .v (.string s)
abbrev wr (n : Int) : Int := IntKind.wrap .i64 n

def TI.sh (i : TI) : Sh :=
  match i.kind with
  | .int k => .int k
  | .bool => .bool
  | .str => .str
  | .struct _ => .agg
  | .array _ _ => .agg
  | .slice _ => .slz
  | .other => .any

def shOf (T : Types) (t : TypeId) : Sh :=
  match T t with
  | some i => i.sh
  | none => .any

abbrev KRes := Slot → Ups → R
def resK (r : Res) (k : KRes) : R := match r with | some (s, u) => k s u | none => none
def valK (k : KRes) (p : PV) : R := k (.val p) []

def eltPart (xs : List PV) (j off : Nat) (i : TI) : Option PV :=
  match xs[j]? with
  | some x => partPV x.cells off i
  | none => none

def loadK (L : Look) (i : TI) (s : Slot) (k : KRes) : R :=
  match s with
  | .ptr n off =>
    match L n with
    | some (.var cs) => refine i.sh (partPV cs off i) (valK k)
    | some (.bx cs) => refine i.sh (partPV cs off i) (valK k)
    | _ => none
  | .elt n j off =>
    match L n with
    | some (.arr _ xs) => refine i.sh (eltPart xs j off i) (valK k)
    | some (.frz _ xs) => refine i.sh (eltPart xs j off i) (valK k)
    | _ => none
  | .val (.box cs off) => refine i.sh (partPV cs off i) (valK k)
  | _ => none

def storeK (L : Look) (i : TI) (s : Slot) (p : PV) (k : Ups → R) : R :=
  match s with
  | .ptr n off =>
    match L n with
    | some (.var cs) => optC (putPart cs off i.size p) fun ds => k [(n, .var ds)]
    | _ => none
  | .elt n j off =>
    match L n with
    | some (.arr sz xs) =>
      optP xs[j]? fun x =>
        match i.size == sz with
        | true => chk ((p.cells.length == sz) && (off == 0)) (k [(n, .arr sz (xs.set j p))])
        | false => optC (putPart x.cells off i.size p) fun ds => k [(n, .arr sz (xs.set j (.agg ds)))]
    | _ => none
  | _ => none

def indexAddrK (T : Types) (L : Look) (t : TypeId) (s : Slot) (i : Int) (k : KRes) : R :=
  match T t with
  | some { kind := .slice e, .. } =>
    match T e with
    | none => none
    | some ei =>
      match s with
      | .slc n =>
        match L n with
        | some (.arr sz xs) => chk ((sz == ei.size) && (decide (0 ≤ i) && decide (i < xs.length))) (k (.elt n i.toNat 0) [])
        | some (.frz sz xs) => chk ((sz == ei.size) && decide (0 ≤ i)) (optP xs[i.toNat]? fun x => k (.val (.box x.cells 0)) [])
        | _ => none
      | .val (.sl sz xs) => chk ((sz == ei.size) && decide (0 ≤ i)) (optP xs[i.toNat]? fun x => k (.val (.box x.cells 0)) [])
      | _ => none
  | some { kind := .array len e, .. } =>
    match T e with
    | none => none
    | some ei =>
      match s with
      | .ptr n off => chk (decide (0 ≤ i) && decide (i < len)) (k (.ptr n (off + i.toNat * ei.size)) [])
      | .val (.box cs off) => chk (decide (0 ≤ i) && decide (i < len)) (k (.val (.box cs (off + i.toNat * ei.size))) [])
      | _ => none
  | _ => none

def strAt (s : ByteArray) (i : Int) : Option PV :=
  match decide (0 ≤ i) with
  | true => match s.data.toList[i.toNat]? with | some b => some (.v (.int .u8 b.toNat)) | none => none
  | false => none
def arrAt (cs : List PV) (len : Nat) (ei : TI) (i : Int) : Option PV :=
  match decide (0 ≤ i) && decide (i < len) with
  | true => partPV cs (i.toNat * ei.size) ei
  | false => none

def indexK (T : Types) (t : TypeId) (p : PV) (i : Int) (k : KRes) : R :=
  match p with
  | .v (.string s) =>
    match T t with
    | some { kind := .str, .. } => optI .u8 (strAt s i) fun b => k (.val (.v (.int .u8 b))) []
    | _ => none
  | .agg cs =>
    match T t with
    | some { kind := .array len e, .. } =>
      match T e with
      | none => none
      | some ei => refine ei.sh (arrAt cs len ei i) (valK k)
    | _ => none
  | _ => none

def fieldK (T : Types) (t : TypeId) (f : Nat) (p : PV) (k : KRes) : R :=
  match T t with
  | some { kind := .struct fs, .. } =>
    match fs[f]? with
    | none => none
    | some (off, ft) =>
      match T ft with
      | none => none
      | some fi =>
        match p with
        | .agg cs => refine fi.sh (partPV cs off fi) (valK k)
        | _ => none
  | _ => none

def sliceK (T : Types) (L : Look) (nm : Nat) (t : TypeId) (x : Slot) (lo hi mx : Option Int) (k : KRes) : R :=
  match mx with
  | some _ => resK (sliceC T L nm t x lo hi mx) k
  | none =>
    match keepPV L x with
    | some (.v (.string s), _) =>
      match T t with
      | some { kind := .str, .. } =>
        chk (within (lo.getD 0) (hi.getD s.size) s.size) (k (.val (.v (.string (s.extract (lo.getD 0).toNat (hi.getD s.size).toNat)))) [])
      | _ => none
    | some (.sl sz xs, ups) =>
      chk ((elemSize T t == some sz) && within (lo.getD 0) (hi.getD xs.length) xs.length)
        (k (.val (.sl sz ((xs.take (hi.getD xs.length).toNat).drop (lo.getD 0).toNat))) ups)
    | _ => none

def appendK (T : Types) (L : Look) (nm : Nat) (t t2 : TypeId) (s x : Slot) (k : KRes) : R :=
  match T t with
  | some { kind := .slice e, .. } =>
    match T e, T t2 with
    | some ei, some xi =>
      match s with
      | .slc n =>
        match L n with
        | some (.arr sz xs) =>
          match xi.kind, x with
          | .slice _, .val (.sl sz2 ys) =>
            chk ((sz == ei.size) && (sz2 == ei.size) && roomy (xs.length + ys.length) ei.bytes && !(ei.bytes == 0)) (k (.slc nm) [(n, .gone), (nm, .arr sz (xs ++ ys))])
          | .slice _, .slc m =>
            match L m with
            | some (.arr sz2 ys) => chk ((sz == ei.size) && (sz2 == ei.size) && !(m == n) && roomy (xs.length + ys.length) ei.bytes && !(ei.bytes == 0)) (k (.slc nm) [(n, .gone), (nm, .arr sz (xs ++ ys))])
            | some (.frz sz2 ys) => chk ((sz == ei.size) && (sz2 == ei.size) && !(m == n) && roomy (xs.length + ys.length) ei.bytes && !(ei.bytes == 0)) (k (.slc nm) [(n, .gone), (nm, .arr sz (xs ++ ys))])
            | _ => none
          | .str, .val (.v (.string b)) =>
            chk ((sz == 1) && (ei.size == 1) && roomy (xs.length + b.size) ei.bytes && !(ei.bytes == 0)) (k (.slc nm) [(n, .gone), (nm, .arr sz (xs ++ ofBytes b.data.toList))])
          | _, _ => none
        | _ => none
      | _ => none
    | _, _ => none
  | _ => none

/-- Does an operator always answer (at values of its kind)? -/
def sureOp (op : BinOp) (p : PV) : Bool :=
  match p with
  | .v (.int _ _) => match op with | .quo => false | .rem => false | .shl => false | .shr => false | _ => true
  | .v (.string _) => match op with | .add => false | _ => true
  | .v (.bool _) => true
  | _ => false

def binK (T : Types) (EQ : TypeId → Option (List ZK)) (ot t : TypeId) (op : BinOp) (p q : PV) (k : KRes) : R :=
  match sureOp op p with
  | true => resK (optRes (binPV (EQ t) (isBoolT T t) op p q)) k
  | false => refine (shOf T ot) (binPV (EQ t) (isBoolT T t) op p q) (valK k)

def buildS (T : Types) (t : TypeId) (l : List (Nat × PV)) : Option (List PV) :=
  match T t with
  | none => none
  | some i =>
    match i.kind with
    | .struct fs => fillStruct T fs l (zerosPV i)
    | .array _ e =>
      match T e with
      | none => none
      | some ei => fillPV ei.size l (zerosPV i)
    | _ => none

def bytesOf (xs : List PV) : Option ByteArray :=
  match asBytes xs with
  | some bs => some ⟨bs.toArray⟩
  | none => none

def convertK (T : Types) (nm : Nat) (s d : TypeId) (p : PV) (k : KRes) : R :=
  match p with
  | .sl 1 xs =>
    match T s, T d with
    | some si, some di =>
      match si.kind, di.kind with
      | .slice e, .str =>
        match T e with
        | some ei => match decide (ei.kind = .int .u8) with | true => optC (bytesOf xs) fun b => k (.val (.v (.string b))) [] | false => none
        | none => none
      | _, _ => none
    | _, _ => none
  | _ => resK (convertC T nm s d p) k

/-- A function value that takes and gives values alone. -/
def applyPV (C : Oracle) (S : Sigs) (p : PV) (args : List PV) : Option PV :=
  match p with
  | .fn f first caps =>
    match S f with
    | some sg =>
      match sg.params.all (fun k => decide (k = .val)) && decide (sg.results = [.flat]) && (sg.params.length == (first ++ args ++ caps).length) with
      | true =>
        match C f (first ++ args ++ caps) with
        | some rs => some (rs.headD default)
        | none => none
      | false => none
    | none => none
  | _ => none

def valArgs (L : Look) : List Slot → Option (List PV)
  | [] => some []
  | s :: ss =>
    match rdPV L s, valArgs L ss with
    | some p, some ps => some (p :: ps)
    | _, _ => none

def callK (T : Types) (C : Oracle) (S : Sigs) (RS : FuncId → List Sh) (nm : Nat) (L : Look) (ot : TypeId) (f : Operand) (ins : List Slot) (k : KRes) : R :=
  match ins with
  | fs :: as_ =>
    match f with
    | .func g =>
      match S g with
      | none => none
      | some sg =>
        match callPrep sg L as_ with
        | none => none
        | some ga => optC (C g ga.args) fun rs => un (RS g) rs fun rs' => k (callRes nm sg ga rs').1 (callRes nm sg ga rs').2
    | _ =>
      match fs with
      | .val p =>
        match valArgs L as_ with
        | none => none
        | some args => refine (shOf T ot) (applyPV C S p args) (valK k)
      | _ => none
  | [] => none

def opK (T : Types) (EQ : TypeId → Option (List ZK)) (C : Oracle) (S : Sigs) (RS : FuncId → List Sh) (nm : Nat) (st : St) (o : Oper) (k : KRes) : R :=
  match isCall o with
  | true =>
    match o.op with
    | .call { callee := .value f, .. } => callK T C S RS nm st.obj o.type f (opIns T st o) k
    | _ => none
  | false =>
    match o.op with
    | .build t ps =>
      match keepAll st.obj (opIns T st o) with
      | none => none
      | some (vs, ups) => optC (buildS T t ((ps.toList.map (·.1)).zip vs)) fun cs => k (.val (.agg cs)) ups
    | .buildSlice t len ps =>
      match T t with
      | some { kind := .slice e, .. } =>
        match T e with
        | none => none
        | some ei =>
          match keepAll st.obj (opIns T st o) with
          | none => none
          | some (vs, ups) =>
            match (ps.toList.map (·.1) == List.range len) && (vs.length == len) && (len * ei.size).ble 65536 with
            | true => chk (vs.all (fun p => p.cells.length == ei.size)) (k (.slc nm) ((nm, .arr ei.size vs) :: ups))
            | false => none
      | _ => none
    | .load t _ =>
      match T t, opIns T st o with
      | some i, [s] => loadK st.obj i s k
      | _, _ => none
    | .store t _ _ =>
      match T t, opIns T st o with
      | some i, [s, x] =>
        match keepPV st.obj x with
        | some (p, ups) =>
          storeK st.obj i s p fun u => match ups.all (fun x => u.all (fun y => !(x.1 == y.1))) with | true => k .undef (u ++ ups) | false => none
        | none => none
      | _, _ => none
    | .binOp op t _ _ _ =>
      match opIns T st o with
      | [x, y] =>
        match rdPV st.obj x, rdPV st.obj y with
        | some p, some q => binK T EQ o.type t op p q k
        | _, _ => none
      | _ => none
    | .convert s d _ =>
      match opIns T st o with
      | [x] => match rdPV st.obj x with | some p => convertK T nm s d p k | none => none
      | _ => none
    | .makeSlice t _ _ =>
      match T t, opIns T st o with
      | some { kind := .slice e, .. }, [.val (.v (.int _ l)), .val (.v (.int _ c))] =>
        match T e with
        | none => none
        | some ei =>
          chk (decide (0 ≤ l) && (l == c) && roomy l.toNat ei.bytes && decide (l ≤ 9223372036854775807) && decide (ei.isAgg = true ∨ ei.size = 1))
            (k (.slc nm) [(nm, .arr ei.size (List.replicate l.toNat (zeroElem ei)))])
      | _, _ => none
    | .slice t _ lo hi mx =>
      match opIns T st o with
      | x :: is =>
        match lo, hi, mx, is with
        | none, none, none, [] => sliceK T st.obj nm t x none none none k
        | some _, none, none, [a] => match intOf a with | some i => sliceK T st.obj nm t x (some i) none none k | none => none
        | none, some _, none, [a] => match intOf a with | some i => sliceK T st.obj nm t x none (some i) none k | none => none
        | some _, some _, none, [a, b] => match intOf a, intOf b with | some i, some j => sliceK T st.obj nm t x (some i) (some j) none k | _, _ => none
        | none, some _, some _, [a, b] => match intOf a, intOf b with | some i, some j => sliceK T st.obj nm t x none (some i) (some j) k | _, _ => none
        | _, _, _, _ => none
      | _ => none
    | .field t _ f =>
      match opIns T st o with
      | [.val p] => fieldK T t f p k
      | _ => none
    | .indexAddr t _ _ =>
      match opIns T st o with
      | [s, .val (.v (.int _ i))] => indexAddrK T st.obj t s i k
      | _ => none
    | .index t _ _ =>
      match opIns T st o with
      | [.val p, .val (.v (.int _ i))] => indexK T t p i k
      | _ => none
    | .call c =>
      match c.callee with
      | .builtin b =>
        match c.args.size == c.argTypes.size with
        | true =>
          match b, c.argTypes.toList, opIns T st o with
          | .append, [t, t2], [s, x] => appendK T st.obj nm t t2 s x k
          | b, ts, ins => resK (builtinC T st.obj nm b ts ins) k
        | false => none
      | _ => none
    | _ => resK (opC T EQ nm st.obj o (opIns T st o)) k

end Evp
end Go
