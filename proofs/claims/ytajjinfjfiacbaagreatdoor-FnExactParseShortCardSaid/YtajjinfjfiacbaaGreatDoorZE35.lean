/- The values of this program's types; the texts' words at values of known form. -/
import Derived.Test.YtajjinfjfiacbaaGreatDoorZE34
set_option linter.unusedSectionVars false
set_option linter.unusedVariables false
set_option linter.unusedSimpArgs false
set_option linter.unnecessarySimpa false
namespace Go
namespace Evp

theorem FU0_ex : ∃ n : Nat, 18446744073709552616 ≤ n := ⟨_, Nat.le_refl _⟩
/-- Rounds of a loop: enough, and nobody looks how many. -/
noncomputable def FU0 : Nat := Classical.choose FU0_ex
theorem FU0_le : 18446744073709552616 ≤ FU0 := Classical.choose_spec FU0_ex
/-- For what is computed whole. -/
theorem FU0_add : ∃ k, FU0 = k + 1000 := ⟨FU0 - 1000, by have := FU0_le; omega⟩

theorem iterK_unroll {F : (List PV → R) → List PV → R} {vs : List PV} {r : R} (h : ∀ k, iterK (k + 1000) F vs = r) : iterK FU0 F vs = r := by
  obtain ⟨k, hk⟩ := FU0_add
  rw [hk]
  exact h k
theorem iterK_succ {n : Nat} {F : (List PV → R) → List PV → R} {vs : List PV} : iterK (n + 1) F vs = F (iterK n F) vs := eqOf rfl

/-- A loop whose state is of one form; its rounds are counted down by a measure. -/
theorem iterK_loop {α : Type} {F : (List PV → R) → List PV → R} (enc : α → List PV) (g : α → R) (μ : α → Nat) (inv : α → Prop)
    (step : ∀ a rec, inv a → (∀ b, inv b → μ b < μ a → rec (enc b) = g b) → F rec (enc a) = g a) (a : α) (hi : inv a) (h : μ a < 18446744073709552616) : iterK FU0 F (enc a) = g a :=
  iterK_ind enc g μ inv step FU0 a hi (Nat.lt_of_lt_of_le h FU0_le)

@[simp] theorem cond_true' {α : Type} (a b : α) : cond true a b = a := eqOf rfl
@[simp ↓] theorem cond_true_pre {α : Type} (a b : α) : cond true a b = a := eqOf rfl
@[simp ↓] theorem cond_false_pre {α : Type} (a b : α) : cond false a b = b := eqOf rfl
@[simp] theorem cond_false' {α : Type} (a b : α) : cond false a b = b := eqOf rfl

/-! structs' cells -/

structure Shape where
  t : Int
  i : Int
  m : Int
  r : Int
  l : Int
  sp : Bool
  deriving DecidableEq
structure Orient where
  p : Int
  f : Int
  deriving DecidableEq
structure Plc where
  r : Int
  s : Int
  c : Bool
  deriving DecidableEq
structure Mov where
  st : List UInt8
  n : Int
  deriving DecidableEq
structure Hand where
  sh : Shape
  o : Orient
  p : Plc
  m : Mov
  deriving DecidableEq
structure Sign where
  main : Hand
  two : Bool
  other : Hand
  deriving DecidableEq

def Shape.cells (x : Shape) : List PV := [I x.t, I x.i, I x.m, I x.r, I x.l, B x.sp]
def Orient.cells (x : Orient) : List PV := [I x.p, I x.f]
def Plc.cells (x : Plc) : List PV := [I x.r, I x.s, B x.c]
def Mov.cells (x : Mov) : List PV := [Sg (bs x.st), I x.n]
def Hand.cells (x : Hand) : List PV := [I x.sh.t, I x.sh.i, I x.sh.m, I x.sh.r, I x.sh.l, B x.sh.sp, I x.o.p, I x.o.f, I x.p.r, I x.p.s, B x.p.c, Sg (bs x.m.st), I x.m.n]
def Sign.cells (x : Sign) : List PV := [I x.main.sh.t, I x.main.sh.i, I x.main.sh.m, I x.main.sh.r, I x.main.sh.l, B x.main.sh.sp, I x.main.o.p, I x.main.o.f, I x.main.p.r, I x.main.p.s, B x.main.p.c, Sg (bs x.main.m.st), I x.main.m.n,
  B x.two, I x.other.sh.t, I x.other.sh.i, I x.other.sh.m, I x.other.sh.r, I x.other.sh.l, B x.other.sh.sp, I x.other.o.p, I x.other.o.f, I x.other.p.r, I x.other.p.s, B x.other.p.c, Sg (bs x.other.m.st), I x.other.m.n]

def Shape.zero : Shape := ⟨0, 0, 0, 0, 0, false⟩
def Orient.zero : Orient := ⟨0, 0⟩
def Plc.zero : Plc := ⟨0, 0, false⟩
def Mov.zero : Mov := ⟨[], 0⟩
def Hand.zero : Hand := ⟨.zero, .zero, .zero, .zero⟩
def Sign.zero : Sign := ⟨.zero, false, .zero⟩

@[simp ↓] theorem Shape.at0 (x : Shape) : x.cells[0]? = some (I x.t) := eqOf rfl
@[simp] theorem Shape.g0 (x : Shape) (h : 0 < x.cells.length) : x.cells[0]'h = I x.t := eqOf rfl
@[simp ↓] theorem Shape.at1 (x : Shape) : x.cells[1]? = some (I x.i) := eqOf rfl
@[simp] theorem Shape.g1 (x : Shape) (h : 1 < x.cells.length) : x.cells[1]'h = I x.i := eqOf rfl
@[simp ↓] theorem Shape.at2 (x : Shape) : x.cells[2]? = some (I x.m) := eqOf rfl
@[simp] theorem Shape.g2 (x : Shape) (h : 2 < x.cells.length) : x.cells[2]'h = I x.m := eqOf rfl
@[simp ↓] theorem Shape.at3 (x : Shape) : x.cells[3]? = some (I x.r) := eqOf rfl
@[simp] theorem Shape.g3 (x : Shape) (h : 3 < x.cells.length) : x.cells[3]'h = I x.r := eqOf rfl
@[simp ↓] theorem Shape.at4 (x : Shape) : x.cells[4]? = some (I x.l) := eqOf rfl
@[simp] theorem Shape.g4 (x : Shape) (h : 4 < x.cells.length) : x.cells[4]'h = I x.l := eqOf rfl
@[simp ↓] theorem Shape.at5 (x : Shape) : x.cells[5]? = some (B x.sp) := eqOf rfl
@[simp] theorem Shape.g5 (x : Shape) (h : 5 < x.cells.length) : x.cells[5]'h = B x.sp := eqOf rfl
@[simp] theorem Shape.len (x : Shape) : x.cells.length = 6 := eqOf rfl
@[simp] theorem Shape.allV (x : Shape) : List.all x.cells PV.isV = true := eqOf rfl
@[simp] theorem Shape.part (x : Shape) : partA x.cells 0 6 = some (.agg x.cells) := eqOf rfl
@[simp ↓] theorem Orient.at0 (x : Orient) : x.cells[0]? = some (I x.p) := eqOf rfl
@[simp] theorem Orient.g0 (x : Orient) (h : 0 < x.cells.length) : x.cells[0]'h = I x.p := eqOf rfl
@[simp ↓] theorem Orient.at1 (x : Orient) : x.cells[1]? = some (I x.f) := eqOf rfl
@[simp] theorem Orient.g1 (x : Orient) (h : 1 < x.cells.length) : x.cells[1]'h = I x.f := eqOf rfl
@[simp] theorem Orient.len (x : Orient) : x.cells.length = 2 := eqOf rfl
@[simp] theorem Orient.allV (x : Orient) : List.all x.cells PV.isV = true := eqOf rfl
@[simp] theorem Orient.part (x : Orient) : partA x.cells 0 2 = some (.agg x.cells) := eqOf rfl
@[simp ↓] theorem Plc.at0 (x : Plc) : x.cells[0]? = some (I x.r) := eqOf rfl
@[simp] theorem Plc.g0 (x : Plc) (h : 0 < x.cells.length) : x.cells[0]'h = I x.r := eqOf rfl
@[simp ↓] theorem Plc.at1 (x : Plc) : x.cells[1]? = some (I x.s) := eqOf rfl
@[simp] theorem Plc.g1 (x : Plc) (h : 1 < x.cells.length) : x.cells[1]'h = I x.s := eqOf rfl
@[simp ↓] theorem Plc.at2 (x : Plc) : x.cells[2]? = some (B x.c) := eqOf rfl
@[simp] theorem Plc.g2 (x : Plc) (h : 2 < x.cells.length) : x.cells[2]'h = B x.c := eqOf rfl
@[simp] theorem Plc.len (x : Plc) : x.cells.length = 3 := eqOf rfl
@[simp] theorem Plc.allV (x : Plc) : List.all x.cells PV.isV = true := eqOf rfl
@[simp] theorem Plc.part (x : Plc) : partA x.cells 0 3 = some (.agg x.cells) := eqOf rfl
@[simp ↓] theorem Mov.at0 (x : Mov) : x.cells[0]? = some (Sg (bs x.st)) := eqOf rfl
@[simp] theorem Mov.g0 (x : Mov) (h : 0 < x.cells.length) : x.cells[0]'h = Sg (bs x.st) := eqOf rfl
@[simp ↓] theorem Mov.at1 (x : Mov) : x.cells[1]? = some (I x.n) := eqOf rfl
@[simp] theorem Mov.g1 (x : Mov) (h : 1 < x.cells.length) : x.cells[1]'h = I x.n := eqOf rfl
@[simp] theorem Mov.len (x : Mov) : x.cells.length = 2 := eqOf rfl
@[simp] theorem Mov.allV (x : Mov) : List.all x.cells PV.isV = true := eqOf rfl
@[simp] theorem Mov.part (x : Mov) : partA x.cells 0 2 = some (.agg x.cells) := eqOf rfl
@[simp] theorem Hand.len (x : Hand) : x.cells.length = 13 := eqOf rfl
@[simp] theorem Hand.allV (x : Hand) : List.all x.cells PV.isV = true := eqOf rfl
@[simp] theorem Hand.part (x : Hand) : partA x.cells 0 13 = some (.agg x.cells) := eqOf rfl
@[simp] theorem Hand.part_sh (x : Hand) : partA x.cells 0 6 = some (.agg x.sh.cells) := eqOf rfl
@[simp] theorem Hand.part_o (x : Hand) : partA x.cells 6 2 = some (.agg x.o.cells) := eqOf rfl
@[simp] theorem Hand.part_p (x : Hand) : partA x.cells 8 3 = some (.agg x.p.cells) := eqOf rfl
@[simp] theorem Hand.part_m (x : Hand) : partA x.cells 11 2 = some (.agg x.m.cells) := eqOf rfl
@[simp ↓] theorem Hand.at11 (x : Hand) : x.cells[11]? = some (Sg (bs x.m.st)) := eqOf rfl
@[simp] theorem Hand.g11 (x : Hand) (h : 11 < x.cells.length) : x.cells[11]'h = Sg (bs x.m.st) := eqOf rfl
@[simp] theorem Sign.len (x : Sign) : x.cells.length = 27 := eqOf rfl
@[simp] theorem Sign.allV (x : Sign) : List.all x.cells PV.isV = true := eqOf rfl
@[simp] theorem Sign.part (x : Sign) : partA x.cells 0 27 = some (.agg x.cells) := eqOf rfl
@[simp] theorem Sign.part_main (x : Sign) : partA x.cells 0 13 = some (.agg x.main.cells) := eqOf rfl
@[simp] theorem Sign.part_other (x : Sign) : partA x.cells 14 13 = some (.agg x.other.cells) := eqOf rfl
@[simp ↓] theorem Sign.at13 (x : Sign) : x.cells[13]? = some (B x.two) := eqOf rfl
@[simp] theorem Sign.g13 (x : Sign) (h : 13 < x.cells.length) : x.cells[13]'h = B x.two := eqOf rfl

/-- What a built struct is. -/
theorem Shape.mk_cells (a b c d e : Int) (f : Bool) : [I a, I b, I c, I d, I e, B f] = (Shape.mk a b c d e f).cells := rfl
theorem Orient.mk_cells (a b : Int) : [I a, I b] = (Orient.mk a b).cells := rfl
theorem Plc.mk_cells (a b : Int) (c : Bool) : [I a, I b, B c] = (Plc.mk a b c).cells := rfl
theorem Mov.mk_cells (s : List UInt8) (n : Int) : [Sg (bs s), I n] = (Mov.mk s n).cells := rfl

/-! bytes -/

theorem bs_data (s : ByteArray) : bs s.data.toList = s := by cases s; rfl
@[simp] theorem bs_toList (l : List UInt8) : (bs l).toList = l := by
  have := ByteArray.toList_eq (bs l)
  rw [this]
@[simp] theorem bs_size (l : List UInt8) : (bs l).size = l.length := by show l.toArray.size = _; simp
@[simp] theorem bs_dl (l : List UInt8) : (bs l).data.toList = l := eqOf rfl

theorem wr_eq {n : Int} (h1 : -9223372036854775808 ≤ n) (h2 : n < 9223372036854775808) : wr n = n := wr_of h1 h2
theorem eltS_lit {xs : List PV} {n : Nat} {x : PV} (h : xs[n]? = some x) (o : Nat) : eltS xs n o = x.cells[o]? := by simp [eltS, h]
@[simp] theorem cells_v (x : Value) : (PV.v x).cells = [.v x] := eqOf rfl
@[simp] theorem cells_agg (cs : List PV) : (PV.agg cs).cells = cs := eqOf rfl
@[simp] theorem fillL_nil (cs : List PV) : fillL [] cs = some cs := eqOf rfl
theorem fillL_cons (a n : Nat) (p : PV) (r : List (Nat × Nat × PV)) (cs : List PV) : fillL ((a, n, p) :: r) cs = match putPart cs a n p with | none => none | some ds => fillL r ds := eqOf rfl

theorem strAt_nat (l : List UInt8) (n : Nat) (h : n < l.length) : strAt (bs l) n = some (.v (.int .u8 (l[n]).toNat)) := by
  simp [strAt, h]
theorem strAt_lit0 (a : UInt8) (l : List UInt8) : strAt (bs (a :: l)) 0 = some (.v (.int .u8 a.toNat)) := eqOf rfl

theorem putPart_whole {cs ds : List PV} {n : Nat} (h1 : ds.length = n) (h2 : cs.length = n) : putPart cs 0 n (.agg ds) = some ds := by
  subst h1
  simp only [putPart, PV.cells, Nat.zero_add, List.take_zero, List.nil_append, h2, beq_self_eq_true, Bool.true_and]
  rw [Nat.ble_eq_true_of_le (Nat.le_refl _), ← h2, List.drop_length]
  simp
theorem partA_whole {cs : List PV} {n : Nat} (h : cs.length = n) : partA cs 0 n = some (.agg cs) := by
  subst h
  simp only [partA, Nat.zero_add, List.drop_zero, List.take_length]
  rw [Nat.ble_eq_true_of_le (Nat.le_refl _)]
  rfl
@[simp] theorem Shape.put0 (x : Shape) (n : Int) : putPart x.cells 0 1 (I n) = some (Shape.mk n x.i x.m x.r x.l x.sp).cells := eqOf rfl
@[simp] theorem Shape.put1 (x : Shape) (n : Int) : putPart x.cells 1 1 (I n) = some (Shape.mk x.t n x.m x.r x.l x.sp).cells := eqOf rfl
@[simp] theorem Shape.put2 (x : Shape) (n : Int) : putPart x.cells 2 1 (I n) = some (Shape.mk x.t x.i n x.r x.l x.sp).cells := eqOf rfl
@[simp] theorem Shape.put3 (x : Shape) (n : Int) : putPart x.cells 3 1 (I n) = some (Shape.mk x.t x.i x.m n x.l x.sp).cells := eqOf rfl
@[simp] theorem Shape.put4 (x : Shape) (n : Int) : putPart x.cells 4 1 (I n) = some (Shape.mk x.t x.i x.m x.r n x.sp).cells := eqOf rfl
@[simp] theorem Shape.put5 (x : Shape) (b : Bool) : putPart x.cells 5 1 (B b) = some (Shape.mk x.t x.i x.m x.r x.l b).cells := eqOf rfl
@[simp] theorem Shape.fill (a b c d e : Int) (f : Bool) : fillL [(0, 1, I a), (1, 1, I b), (2, 1, I c), (3, 1, I d), (4, 1, I e), (5, 1, B f)] [I 0, I 0, I 0, I 0, I 0, B false] = some (Shape.mk a b c d e f).cells := eqOf rfl
@[simp] theorem Orient.fill (a b : Int) : fillL [(0, 1, I a), (1, 1, I b)] [I 0, I 0] = some (Orient.mk a b).cells := eqOf rfl
@[simp] theorem Plc.fill (a b : Int) (c : Bool) : fillL [(0, 1, I a), (1, 1, I b), (2, 1, B c)] [I 0, I 0, B false] = some (Plc.mk a b c).cells := eqOf rfl
@[simp] theorem Mov.fill (a : List UInt8) (b : Int) : fillL [(0, 1, Sg (bs a)), (1, 1, I b)] [Sg (bs []), I 0] = some (Mov.mk a b).cells := eqOf rfl
@[simp] theorem Mov.fill1 (b : Int) : fillL [(1, 1, I b)] [Sg (bs []), I 0] = some (Mov.mk [] b).cells := eqOf rfl
@[simp] theorem Mov.put0 (x : Mov) (s : List UInt8) : putPart x.cells 0 1 (Sg (bs s)) = some (Mov.mk s x.n).cells := eqOf rfl
@[simp] theorem Mov.put1 (x : Mov) (n : Int) : putPart x.cells 1 1 (I n) = some (Mov.mk x.st n).cells := eqOf rfl
@[simp] theorem Shape.putw (x y : Shape) : putPart x.cells 0 6 (.agg y.cells) = some y.cells := eqOf rfl
@[simp] theorem Shape.putz (y : Shape) : putPart [I 0, I 0, I 0, I 0, I 0, B false] 0 6 (.agg y.cells) = some y.cells := eqOf rfl
@[simp] theorem Shape.putzz (x : Shape) : putPart x.cells 0 6 (.agg [I 0, I 0, I 0, I 0, I 0, B false]) = some Shape.zero.cells := eqOf rfl
@[simp] theorem Shape.putzzz : putPart [I 0, I 0, I 0, I 0, I 0, B false] 0 6 (.agg [I 0, I 0, I 0, I 0, I 0, B false]) = some Shape.zero.cells := eqOf rfl
@[simp] theorem Shape.partz : partA [I 0, I 0, I 0, I 0, I 0, B false] 0 6 = some (.agg Shape.zero.cells) := eqOf rfl
@[simp] theorem Orient.putw (x y : Orient) : putPart x.cells 0 2 (.agg y.cells) = some y.cells := eqOf rfl
@[simp] theorem Orient.putz (y : Orient) : putPart [I 0, I 0] 0 2 (.agg y.cells) = some y.cells := eqOf rfl
@[simp] theorem Orient.putzz (x : Orient) : putPart x.cells 0 2 (.agg [I 0, I 0]) = some Orient.zero.cells := eqOf rfl
@[simp] theorem Orient.putzzz : putPart [I 0, I 0] 0 2 (.agg [I 0, I 0]) = some Orient.zero.cells := eqOf rfl
@[simp] theorem Orient.partz : partA [I 0, I 0] 0 2 = some (.agg Orient.zero.cells) := eqOf rfl
@[simp] theorem Plc.putw (x y : Plc) : putPart x.cells 0 3 (.agg y.cells) = some y.cells := eqOf rfl
@[simp] theorem Plc.putz (y : Plc) : putPart [I 0, I 0, B false] 0 3 (.agg y.cells) = some y.cells := eqOf rfl
@[simp] theorem Plc.putzz (x : Plc) : putPart x.cells 0 3 (.agg [I 0, I 0, B false]) = some Plc.zero.cells := eqOf rfl
@[simp] theorem Plc.putzzz : putPart [I 0, I 0, B false] 0 3 (.agg [I 0, I 0, B false]) = some Plc.zero.cells := eqOf rfl
@[simp] theorem Plc.partz : partA [I 0, I 0, B false] 0 3 = some (.agg Plc.zero.cells) := eqOf rfl
@[simp] theorem Mov.putw (x y : Mov) : putPart x.cells 0 2 (.agg y.cells) = some y.cells := eqOf rfl
@[simp] theorem Mov.putz (y : Mov) : putPart [Sg (bs []), I 0] 0 2 (.agg y.cells) = some y.cells := eqOf rfl
@[simp] theorem Mov.putzz (x : Mov) : putPart x.cells 0 2 (.agg [Sg (bs []), I 0]) = some Mov.zero.cells := eqOf rfl
@[simp] theorem Mov.putzzz : putPart [Sg (bs []), I 0] 0 2 (.agg [Sg (bs []), I 0]) = some Mov.zero.cells := eqOf rfl
@[simp] theorem Mov.partz : partA [Sg (bs []), I 0] 0 2 = some (.agg Mov.zero.cells) := eqOf rfl
@[simp] theorem Hand.putw (x y : Hand) : putPart x.cells 0 13 (.agg y.cells) = some y.cells := eqOf rfl
@[simp] theorem Hand.putz (y : Hand) : putPart [I 0, I 0, I 0, I 0, I 0, B false, I 0, I 0, I 0, I 0, B false, Sg (bs []), I 0] 0 13 (.agg y.cells) = some y.cells := eqOf rfl
@[simp] theorem Hand.putzz (x : Hand) : putPart x.cells 0 13 (.agg [I 0, I 0, I 0, I 0, I 0, B false, I 0, I 0, I 0, I 0, B false, Sg (bs []), I 0]) = some Hand.zero.cells := eqOf rfl
@[simp] theorem Hand.putzzz : putPart [I 0, I 0, I 0, I 0, I 0, B false, I 0, I 0, I 0, I 0, B false, Sg (bs []), I 0] 0 13 (.agg [I 0, I 0, I 0, I 0, I 0, B false, I 0, I 0, I 0, I 0, B false, Sg (bs []), I 0]) = some Hand.zero.cells := eqOf rfl
@[simp] theorem Hand.partz : partA [I 0, I 0, I 0, I 0, I 0, B false, I 0, I 0, I 0, I 0, B false, Sg (bs []), I 0] 0 13 = some (.agg Hand.zero.cells) := eqOf rfl
@[simp] theorem Sign.putw (x y : Sign) : putPart x.cells 0 27 (.agg y.cells) = some y.cells := eqOf rfl
@[simp] theorem Sign.putz (y : Sign) : putPart [I 0, I 0, I 0, I 0, I 0, B false, I 0, I 0, I 0, I 0, B false, Sg (bs []), I 0, B false, I 0, I 0, I 0, I 0, I 0, B false, I 0, I 0, I 0, I 0, B false, Sg (bs []), I 0] 0 27 (.agg y.cells) = some y.cells := eqOf rfl
@[simp] theorem Sign.putzz (x : Sign) : putPart x.cells 0 27 (.agg [I 0, I 0, I 0, I 0, I 0, B false, I 0, I 0, I 0, I 0, B false, Sg (bs []), I 0, B false, I 0, I 0, I 0, I 0, I 0, B false, I 0, I 0, I 0, I 0, B false, Sg (bs []), I 0]) = some Sign.zero.cells := eqOf rfl
@[simp] theorem Sign.putzzz : putPart [I 0, I 0, I 0, I 0, I 0, B false, I 0, I 0, I 0, I 0, B false, Sg (bs []), I 0, B false, I 0, I 0, I 0, I 0, I 0, B false, I 0, I 0, I 0, I 0, B false, Sg (bs []), I 0] 0 27 (.agg [I 0, I 0, I 0, I 0, I 0, B false, I 0, I 0, I 0, I 0, B false, Sg (bs []), I 0, B false, I 0, I 0, I 0, I 0, I 0, B false, I 0, I 0, I 0, I 0, B false, Sg (bs []), I 0]) = some Sign.zero.cells := eqOf rfl
@[simp] theorem Sign.partz : partA [I 0, I 0, I 0, I 0, I 0, B false, I 0, I 0, I 0, I 0, B false, Sg (bs []), I 0, B false, I 0, I 0, I 0, I 0, I 0, B false, I 0, I 0, I 0, I 0, B false, Sg (bs []), I 0] 0 27 = some (.agg Sign.zero.cells) := eqOf rfl
@[simp] theorem Hand.put_sh (x : Hand) (y : Shape) : putPart x.cells 0 6 (.agg y.cells) = some (Hand.mk y x.o x.p x.m).cells := eqOf rfl
@[simp] theorem Hand.put_o (x : Hand) (y : Orient) : putPart x.cells 6 2 (.agg y.cells) = some (Hand.mk x.sh y x.p x.m).cells := eqOf rfl
@[simp] theorem Hand.put_p (x : Hand) (y : Plc) : putPart x.cells 8 3 (.agg y.cells) = some (Hand.mk x.sh x.o y x.m).cells := eqOf rfl
@[simp] theorem Hand.put_m (x : Hand) (y : Mov) : putPart x.cells 11 2 (.agg y.cells) = some (Hand.mk x.sh x.o x.p y).cells := eqOf rfl
theorem Hand.zeros : [I 0, I 0, I 0, I 0, I 0, B false, I 0, I 0, I 0, I 0, B false, Sg (bs []), I 0] = Hand.zero.cells := eqOf rfl
theorem Sign.zeros : [I 0, I 0, I 0, I 0, I 0, B false, I 0, I 0, I 0, I 0, B false, Sg (bs []), I 0, B false, I 0, I 0, I 0, I 0, I 0, B false, I 0, I 0, I 0, I 0, B false, Sg (bs []), I 0] = Sign.zero.cells := eqOf rfl
theorem Plc.zeros : [I 0, I 0, B false] = Plc.zero.cells := eqOf rfl
theorem Mov.zeros : [Sg (bs []), I 0] = Mov.zero.cells := eqOf rfl
theorem Shape.zeros : [I 0, I 0, I 0, I 0, I 0, B false] = Shape.zero.cells := eqOf rfl

@[simp] theorem roomy_eq (n b : Nat) : roomy n b = decide (n * b ≤ 70368744177664) := by
  rw [roomy, Bool.eq_iff_iff]; simp
theorem optC_eq {α : Type} {o : Option α} {a : α} {k : α → R} (h : o = some a) : optC o k = k a := by rw [h]; rfl

/-- Is n from a to b? -/
def inR (n a b : Int) : Bool := decide (a ≤ n) && decide (n ≤ b)

theorem Shape.eqC (x y : Shape) : eqCells [.int .i64, .int .i64, .int .i64, .int .i64, .int .i64, .bool] x.cells y.cells = some (decide (x = y)) := by
  obtain ⟨a, b, c, d, e, f⟩ := x
  obtain ⟨g, h, i, j, k, l⟩ := y
  simp only [eqCells, Shape.cells, ZK.fits, eqV, beq_self_eq_true, Bool.and_self, cond_true, Option.some.injEq]
  rw [Bool.eq_iff_iff]
  simp [Shape.mk.injEq]
theorem Orient.eqC (x y : Orient) : eqCells [.int .i64, .int .i64] x.cells y.cells = some (decide (x = y)) := by
  obtain ⟨a, b⟩ := x
  obtain ⟨c, d⟩ := y
  simp only [eqCells, Orient.cells, ZK.fits, eqV, beq_self_eq_true, Bool.and_self, cond_true, Option.some.injEq]
  rw [Bool.eq_iff_iff]
  simp [Orient.mk.injEq]
theorem Plc.eqC (x y : Plc) : eqCells [.int .i64, .int .i64, .bool] x.cells y.cells = some (decide (x = y)) := by
  obtain ⟨a, b, c⟩ := x
  obtain ⟨d, e, f⟩ := y
  simp only [eqCells, Plc.cells, ZK.fits, eqV, beq_self_eq_true, Bool.and_self, cond_true, Option.some.injEq]
  rw [Bool.eq_iff_iff]
  simp [Plc.mk.injEq]
theorem Mov.eqC (x y : Mov) : eqCells [.str, .int .i64] x.cells y.cells = some (decide (x = y)) := by
  obtain ⟨a, b⟩ := x
  obtain ⟨c, d⟩ := y
  simp only [eqCells, Mov.cells, ZK.fits, eqV, beq_self_eq_true, Bool.and_self, cond_true, Option.some.injEq]
  rw [Bool.eq_iff_iff]
  simp [Mov.mk.injEq, ByteArray.toList_mk]
theorem Hand.eqC (x y : Hand) : eqCells [.int .i64, .int .i64, .int .i64, .int .i64, .int .i64, .bool, .int .i64, .int .i64, .int .i64, .int .i64, .bool, .str, .int .i64] x.cells y.cells = some (decide (x = y)) := by
  obtain ⟨⟨x0, x1, x2, x3, x4, x5⟩, ⟨x6, x7⟩, ⟨x8, x9, xa⟩, ⟨xb, xc⟩⟩ := x
  obtain ⟨⟨y0, y1, y2, y3, y4, y5⟩, ⟨y6, y7⟩, ⟨y8, y9, ya⟩, ⟨yb, yc⟩⟩ := y
  simp only [eqCells, Hand.cells, ZK.fits, eqV, beq_self_eq_true, Bool.and_self, cond_true, Option.some.injEq]
  rw [Bool.eq_iff_iff]
  simp [Hand.mk.injEq, Shape.mk.injEq, Orient.mk.injEq, Plc.mk.injEq, Mov.mk.injEq, ByteArray.toList_mk, and_assoc]
theorem Sign.eqC (x y : Sign) : eqCells [.int .i64, .int .i64, .int .i64, .int .i64, .int .i64, .bool, .int .i64, .int .i64, .int .i64, .int .i64, .bool, .str, .int .i64, .bool, .int .i64, .int .i64, .int .i64, .int .i64, .int .i64, .bool, .int .i64, .int .i64, .int .i64, .int .i64, .bool, .str, .int .i64] x.cells y.cells = some (decide (x = y)) := by
  obtain ⟨⟨⟨x0, x1, x2, x3, x4, x5⟩, ⟨x6, x7⟩, ⟨x8, x9, xa⟩, ⟨xb, xc⟩⟩, t, ⟨⟨z0, z1, z2, z3, z4, z5⟩, ⟨z6, z7⟩, ⟨z8, z9, za⟩, ⟨zb, zc⟩⟩⟩ := x
  obtain ⟨⟨⟨y0, y1, y2, y3, y4, y5⟩, ⟨y6, y7⟩, ⟨y8, y9, ya⟩, ⟨yb, yc⟩⟩, u, ⟨⟨v0, v1, v2, v3, v4, v5⟩, ⟨v6, v7⟩, ⟨v8, v9, va⟩, ⟨vb, vc⟩⟩⟩ := y
  simp only [eqCells, Sign.cells, ZK.fits, eqV, beq_self_eq_true, Bool.and_self, cond_true, Option.some.injEq]
  rw [Bool.eq_iff_iff]
  simp [Sign.mk.injEq, Hand.mk.injEq, Shape.mk.injEq, Orient.mk.injEq, Plc.mk.injEq, Mov.mk.injEq, ByteArray.toList_mk, and_assoc]

@[simp] theorem binPV_eql (zs : List ZK) (b : Bool) (cs ds : List PV) : binPV (some zs) b .eql (.agg cs) (.agg ds) = (eqCells zs cs ds).map fun b => .v (.bool b) := eqOf rfl
@[simp] theorem binPV_neq (zs : List ZK) (b : Bool) (cs ds : List PV) : binPV (some zs) b .neq (.agg cs) (.agg ds) = (eqCells zs cs ds).map fun b => .v (.bool (!b)) := eqOf rfl
theorem binPV_add (s t : List UInt8) (h : s.length + t.length ≤ 9223372036854775807) : binPV none false .add (Sg (bs s)) (Sg (bs t)) = some (Sg (bs (s ++ t))) := by
  have e : (bs s ++ bs t : ByteArray) = bs (s ++ t) := by
    apply ByteArray.ext
    show (ByteArray.append (bs s) (bs t)).data = _
    simp
  simp only [binPV, strBin, bs_size, e]
  rw [Nat.ble_eq_true_of_le h]
  rfl

end Evp
end Go
