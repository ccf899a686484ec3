/- Layer 9 as plain data: operands, tests, guards. -/
import Derived.Test.YtefpolgflimlgaaDoorCmp
import Derived.Test.YtefpolgflimlgaaDoorTup
namespace Go.Proofs.YtefpolgflimlgaaDoor.Tm
set_option linter.unusedVariables false
set_option linter.unusedSimpArgs false

/-- A test; an operand has a cell's fields. -/
structure TestD where
  op : Int
  a : CellD
  b : CellD
deriving DecidableEq
def TestD.vals (t : TestD) : List Value := [.int .i64 t.op] ++ t.a.vals ++ t.b.vals
def noArg : CellD := ⟨0, 0, noText⟩
/-- Can an operand be? -/
def argB (a : CellD) : Bool :=
  if a.kind = 1 then decide (0 ≤ a.n) && (decide (a.n < 16) && a.text.toList.isEmpty)
  else if a.kind = 3 then a.text.toList.isEmpty
  else if a.kind = 4 then decide (a.n = 0) && decide (cellE (atomC a.text) = 0)
  else if a.kind = 5 then decide (a.n = 0) && a.text.toList.isEmpty
  else false
def opB (op : Int) : Bool := decide (1 ≤ op) && decide (op ≤ 13)
def testB (t : TestD) : Bool := opB t.op && (argB t.a && (if 6 < t.op then decide (t.b = noArg) else argB t.b))
/-- What is wrong of a guard. -/
def guardE (g : List TestD) : Int := if 16 < g.length then 4 else if g.all testB then 0 else 90
/-- What an operand is of registers. -/
def regD (x : List (List CellD)) (n : Int) : List CellD := if n < 0 then [] else x.getD n.toNat []
def valueD (a : CellD) (x : List (List CellD)) : List CellD :=
  if a.kind = 1 then regD x a.n else if a.kind = 3 then [intC a.n] else if a.kind = 4 then [atomC a.text] else if a.kind = 5 then [nilC] else []
/-- Does a test hold of terms? -/
def saysB (op : Int) (a b : List CellD) : Bool :=
  let k := (a.headD noArg).kind
  let c := termCmp a b
  if op = 1 then decide (c = 0) else if op = 2 then decide (c ≠ 0) else if op = 3 then decide (c < 0) else if op = 4 then decide (c ≤ 0) else if op = 5 then decide (0 < c) else if op = 6 then decide (0 ≤ c)
  else if op = 7 then decide (k = 1) else if op = 8 then decide (k = 2) else if op = 9 then decide (k = 3) else if op = 10 then decide (k = 4) else if op = 11 then decide (k = 5) else if op = 12 then decide (k = 6) || decide (k = 7) else decide (k = 8)
def holdB (x : List (List CellD)) (t : TestD) : Bool :=
  !((valueD t.a x).isEmpty || (decide (t.op ≤ 6) && (valueD t.b x).isEmpty)) && saysB t.op (valueD t.a x) (valueD t.b x)
/-- What is wrong of registers: those that are set. -/
def regsE : List (List CellD) → Int
  | [] => 0
  | l :: ls => if 0 < l.length ∧ (rightE l).1 ≠ 0 then (rightE l).1 else regsE ls
def holdsE (g : List TestD) (x : List (List CellD)) : Bool × Int :=
  if guardE g ≠ 0 then (false, guardE g) else if 16 < x.length then (false, 1) else if regsE x ≠ 0 then (false, regsE x) else (g.all (holdB x), 0)
end Go.Proofs.YtefpolgflimlgaaDoor.Tm
