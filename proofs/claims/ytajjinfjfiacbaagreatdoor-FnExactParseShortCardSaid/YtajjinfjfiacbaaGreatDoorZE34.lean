/- Functions of Go's library that are taken by themselves: what they compute. -/
import Derived.Test.YtajjinfjfiacbaaGreatDoorZE33
import Derived.Lib.Bytealg
import Derived.Lib.Split
import Derived.Lib.Join
import Derived.Lib.Repeat
import Derived.Lib.ItoaNum
import Derived.Lib.AtoiAll
set_option linter.unusedSectionVars false
set_option linter.unusedVariables false
set_option linter.unusedSimpArgs false
set_option linter.unnecessarySimpa false
namespace Go
namespace Evp

/-- A text cut at each of its bytes c. -/
def splitL (c : UInt8) : List UInt8 → List (List UInt8)
  | [] => [[]]
  | b :: l => bif b == c then [] :: splitL c l else match splitL c l with | [] => [[b]] | x :: r => (b :: x) :: r

def asTexts : List PV → Option (List (List UInt8))
  | [] => some []
  | .v (.string s) :: r => match asTexts r with | some l => some (s.data.toList :: l) | none => none
  | _ => none

def texts (l : List (List UInt8)) : List PV := l.map fun x => Sg (bs x)

def decimalL (s : List UInt8) : Int × Bool :=
  match Lib.atoiAll s with
  | .ok v => bif Lib.itoa v == s then (v, true) else (0, false)
  | _ => (0, false)

def swapN (n : Nat) : Nat := if n = 108 then 114 else if n = 114 then 108 else n
def swapLR (l : List UInt8) : List UInt8 := l.map fun b => UInt8.ofNat (swapN b.toNat)

def xIndexByte : List PV → Option (List PV)
  | [.v (.string s), .v (.int .u8 c)] => some [I (Lib.indexByte s.data.toList c.toNat.toUInt8)]
  | _ => none
def xIndex : List PV → Option (List PV)
  | [.v (.string s), .v (.string t)] => match t.data.toList with | [c] => some [I (Lib.indexByte s.data.toList c)] | _ => none
  | _ => none
def xCount : List PV → Option (List PV)
  | [.v (.string s), .v (.string t)] => match t.data.toList with | [c] => some [I (Lib.countByte s.data.toList c)] | _ => none
  | _ => none
def xSplit : List PV → Option (List PV)
  | [.v (.string s), .v (.string t)] =>
    match t.data.toList with
    | [c] => bif s.size.ble 4294967280 then some [.sl 1 (texts (splitL c s.data.toList))] else none
    | _ => none
  | _ => none
def xJoin : List PV → Option (List PV)
  | [.sl 1 xs, .v (.string t)] =>
    match asTexts xs with
    | some l => bif l.length.ble 140737488355328 && (Lib.join l t.data.toList).length.ble 140737488355328 then some [Sg (bs (Lib.join l t.data.toList))] else none
    | none => none
  | _ => none
def xRepeat : List PV → Option (List PV)
  | [.v (.string s), .v (.int .i64 n)] => bif decide (0 ≤ n) && decide (n ≤ 9223372036854775807) && (s.size * n.toNat).ble 140737488355328 then some [Sg (bs (Lib.repeatL s.data.toList n.toNat))] else none
  | _ => none
def xItoa : List PV → Option (List PV)
  | [.v (.int .i64 n)] => bif decide (-9223372036854775808 ≤ n) && decide (n ≤ 9223372036854775807) then some [Sg (bs (Lib.itoa n))] else none
  | _ => none
def xDecimal : List PV → Option (List PV)
  | [.v (.string s)] => bif s.size.ble 281474976710656 then some [I (decimalL s.data.toList).1, B (decimalL s.data.toList).2] else none
  | _ => none
def xMirrored : List PV → Option (List PV)
  | [.agg [.v (.string s), .v (.int .i64 r)]] => bif s.size.ble 9223372036854775807 then some [.agg [Sg (bs (swapLR s.data.toList)), I r]] else none
  | _ => none

end Evp
end Go
