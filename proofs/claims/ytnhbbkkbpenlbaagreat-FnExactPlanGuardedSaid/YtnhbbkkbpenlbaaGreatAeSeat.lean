/- The seat's facts for the evaluator. -/
import Derived.Test.YtnhbbkkbpenlbaaGreatChecked
import Derived.Test.YtnhbbkkbpenlbaaGreatAeMQ
import Derived.KernelRfl
namespace Go.AE
open Go Go.RowKit
noncomputable abbrev P : Program := Go.Proofs.Tryz.prog
def tab : Tab := [(4, ⟨.val Ty.bool, 1, 1⟩),
  (3, ⟨.val (Ty.int .i64), 1, 8⟩),
  (22, ⟨.sl 57 TTable, 1, 24⟩),
  (57, ⟨.st [(0, 54, "Columns"), (1, 55, "Rows")] TTable, 2, 48⟩),
  (54, ⟨.sl 153 TColumn, 1, 24⟩),
  (153, ⟨.st [(0, 3, "Kind"), (1, 4, "Empty")] TColumn, 2, 16⟩),
  (55, ⟨.sl 146 (Ty.sl TValue), 1, 24⟩),
  (146, ⟨.sl 148 TValue, 1, 24⟩),
  (148, ⟨.st [(0, 3, "Kind"), (1, 3, "N"), (2, 9, "S")] TValue, 3, 32⟩),
  (9, ⟨.val Ty.str, 1, 16⟩),
  (36, ⟨.sl 81 TGuard, 1, 24⟩),
  (81, ⟨.st [(0, 3, "In"), (1, 59, "E")] TGuard, 2, 32⟩),
  (59, ⟨.sl 150 TPart, 1, 24⟩),
  (150, ⟨.st [(0, 3, "Kind"), (1, 3, "N"), (2, 148, "V")] TPart, 5, 48⟩),
  (23, ⟨.sl 62 TStep, 1, 24⟩),
  (62, ⟨.st [(0, 3, "Kind"), (1, 3, "A"), (2, 3, "B"), (3, 3, "N"), (4, 59, "E"), (5, 60, "List")] TStep, 6, 80⟩),
  (60, ⟨.sl 3 (Ty.int .i64), 1, 24⟩),
  (28, ⟨.sl 71 TTable, 1, 24⟩),
  (71, ⟨.st [(0, 69, "Columns"), (1, 49, "Rows")] TTable, 2, 48⟩),
  (69, ⟨.sl 122 TColumn, 1, 24⟩),
  (122, ⟨.st [(0, 3, "Kind"), (1, 4, "Empty")] TColumn, 2, 16⟩),
  (49, ⟨.sl 87 (Ty.sl TValue), 1, 24⟩),
  (87, ⟨.sl 124 TValue, 1, 24⟩),
  (124, ⟨.st [(0, 3, "Kind"), (1, 3, "N"), (2, 9, "S")] TValue, 3, 32⟩),
  (39, ⟨.sl 85 TGuard, 1, 24⟩),
  (85, ⟨.st [(0, 3, "In"), (1, 65, "E")] TGuard, 2, 32⟩),
  (65, ⟨.sl 126 TPart, 1, 24⟩),
  (126, ⟨.st [(0, 3, "Kind"), (1, 3, "N"), (2, 124, "V")] TPart, 5, 48⟩),
  (26, ⟨.sl 67 TStep, 1, 24⟩),
  (67, ⟨.st [(0, 3, "Kind"), (1, 3, "A"), (2, 3, "B"), (3, 3, "N"), (4, 65, "E"), (5, 60, "List")] TStep, 6, 80⟩),
  (44, ⟨.other, 1, 0⟩),
  (0, ⟨.other, 1, 0⟩),
  (99, ⟨.other, 1, 8⟩),
  (100, ⟨.other, 1, 0⟩),
  (94, ⟨.other, 1, 0⟩),
  (93, ⟨.sl 69 (Ty.sl TColumn), 1, 24⟩),
  (115, ⟨.other, 1, 0⟩),
  (114, ⟨.sl 157 TMade, 1, 24⟩),
  (157, ⟨.st [(0, 69, "columns"), (1, 3, "most")] TMade, 2, 32⟩),
  (134, ⟨.other, 1, 0⟩),
  (158, ⟨.other, 1, 0⟩),
  (5, ⟨.val (Ty.int .u8), 1, 1⟩),
  (162, ⟨.sl 5 (Ty.int .u8), 1, 24⟩),
  (164, ⟨.other, 1, 0⟩),
  (170, ⟨.other, 1, 0⟩),
  (90, ⟨.other, 1, 8⟩),
  (141, ⟨.other, 1, 8⟩)]
def cmps : List TypeId := [4, 124]
theorem tab_check : allOk P tab tab = true := by kernel_rfl
theorem cmp_check : cmpOk P tab cmps = true := by kernel_rfl
theorem mixed : P.follows .mixedOrders = true := by kernel_rfl
@[reducible] def nT (xs : List TTable.D) (i : Int) : TTable.D := nth (t := TTable) xs i
@[reducible] def nS (xs : List TStep.D) (i : Int) : TStep.D := nth (t := TStep) xs i
@[reducible] def nC (xs : List TColumn.D) (i : Int) : TColumn.D := nth (t := TColumn) xs i
@[reducible] def nI (xs : List TInt.D) (i : Int) : TInt.D := nth (t := TInt) xs i
@[reducible] def nP (xs : List TPart.D) (i : Int) : TPart.D := nth (t := TPart) xs i
@[reducible] def nM (xs : List TMade.D) (i : Int) : TMade.D := nth (t := TMade) xs i
@[reducible] def nG (xs : List TGuard.D) (i : Int) : TGuard.D := nth (t := TGuard) xs i
@[reducible] def nV (xs : List TValue.D) (i : Int) : TValue.D := nth (t := TValue) xs i
abbrev LTb : Type := List TTable.D
abbrev LV : Type := List TValue.D
abbrev LS : Type := List TStep.D
abbrev LPt : Type := List TPart.D
abbrev LC : Type := List TColumn.D
abbrev LG : Type := List TGuard.D
@[reducible] def TTb : Ty := .sl TTable
@[reducible] def TSS : Ty := .sl TStep
@[reducible] def TCS : Ty := .sl TColumn
@[reducible] def TVS : Ty := .sl TValue
@[reducible] def TPS : Ty := .sl TPart
@[reducible] def TGS : Ty := .sl TGuard
abbrev Z0 : Int := 0
abbrev Z1 : Int := 1
abbrev Z2 : Int := 2
abbrev Z3 : Int := 3
abbrev Z4 : Int := 4
abbrev Z5 : Int := 5
abbrev Z6 : Int := 6
@[reducible] def dI (n : Int) : AV := .data TInt n
@[reducible] def dB (b : Bool) : AV := .data Ty.bool b
abbrev KA : Type := AV → Hp → Prop
abbrev KX : Type := X → St → Prop
end Go.AE

