/- A program's functions and their annotations; a function's call from its text. -/
import Derived.Test.YtajjinfjfiacbaaGreatDoorZE28
set_option linter.unusedSectionVars false
set_option linter.unusedVariables false
set_option linter.unusedSimpArgs false
set_option linter.unnecessarySimpa false
namespace Go
namespace Evp

structure FInfo where
  sg : FSig
  ka : KA
  shs : List Sh
  rsh : List Sh

def findN {α : Type} (n : Nat) : List (Nat × α) → Option α
  | [] => none
  | (m, a) :: r => bif Nat.beq m n then some a else findN n r

structure Book where
  P : Program
  types : List (TypeId × TI)
  eqs : List TypeId
  infos : List (FuncId × FInfo)
  exts : List (FuncId × (List PV → Option (List PV)))

namespace Book
variable (K : Book)
def T : Types := fun t => findN t K.types
def EQ (t : TypeId) : Option (List ZK) := bif K.eqs.contains t then (K.T t).map (·.zero) else none
def S : Sigs := fun f => (findN f K.infos).map (·.sg)
def RS (f : FuncId) : List Sh := ((findN f K.infos).map (·.rsh)).getD []
def ext (f : FuncId) : Option (List PV → Option (List PV)) := findN f K.exts
def fn (f : FuncId) : Option (Func × Ann) :=
  match K.P.funcs[f]?, findN f K.infos with
  | some fn, some i => some (fn, i.ka.toAnn)
  | _, _ => none
def env (FU : Nat) : Env := { T := K.T, EQ := K.EQ, S := K.S, fn := K.fn, ext := K.ext, FU := FU }
end Book

/-- What function f gives, called with ps, from its own code. -/
def bodyK (K : Book) (FU : Nat) (C : Oracle) (fn : Func) (i : FInfo) (ps : List PV) : R :=
  funK K.T K.EQ C K.S K.RS FU fn i.sg i.ka i.shs ps

theorem call_of {K : Book} {FU m : Nat} {f : FuncId} {fn : Func} {i : FInfo} {ps rs : List PV} (hx : K.ext f = none) (hi : findN f K.infos = some i) (hf : K.P.funcs[f]? = some fn)
    (h : bodyK K FU (callN (K.env FU) m) fn i ps = some rs) : callN (K.env FU) (m + 1) f ps = some rs := by
  have he : (K.env FU).ext f = none := hx
  have hfn : (K.env FU).fn f = some (fn, i.ka.toAnn) := by simp only [Book.env, Book.fn, hf, hi]
  have hS : (K.env FU).S f = some i.sg := by simp only [Book.env, Book.S, hi, Option.map_some]
  simp only [callN, he, hfn, hS]
  exact funK_some h

theorem call_ext {K : Book} {FU m : Nat} {f : FuncId} {e : List PV → Option (List PV)} {ps rs : List PV} (hx : K.ext f = some e) (h : e ps = some rs) : callN (K.env FU) (m + 1) f ps = some rs := by
  have he : (K.env FU).ext f = some e := hx
  simp only [callN, he]
  exact h

end Evp
end Go
