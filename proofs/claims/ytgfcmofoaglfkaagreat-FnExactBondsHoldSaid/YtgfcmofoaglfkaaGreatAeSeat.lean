/- The seat's facts for the evaluator. -/
import Derived.Test.YtgfcmofoaglfkaaGreatChecked
import Derived.Test.YtgfcmofoaglfkaaGreatAeMM
import Derived.KernelRfl
namespace Go.AE
open Go Go.RowKit
noncomputable abbrev P : Program := Go.Proofs.Tryz.prog
def tab : Tab := [(4, ⟨.val Ty.bool, 1, 1⟩),
  (3, ⟨.val (Ty.int .i64), 1, 8⟩),
  (22, ⟨.sl 59 TTable, 1, 24⟩),
  (59, ⟨.st [(0, 56, "Columns"), (1, 57, "Rows")] TTable, 2, 48⟩),
  (56, ⟨.sl 158 TColumn, 1, 24⟩),
  (158, ⟨.st [(0, 3, "Kind"), (1, 4, "Empty")] TColumn, 2, 16⟩),
  (57, ⟨.sl 148 (Ty.sl TValue), 1, 24⟩),
  (148, ⟨.sl 150 TValue, 1, 24⟩),
  (150, ⟨.st [(0, 3, "Kind"), (1, 3, "N"), (2, 9, "S")] TValue, 3, 32⟩),
  (9, ⟨.val Ty.str, 1, 16⟩),
  (44, ⟨.sl 96 TBond, 1, 24⟩),
  (96, ⟨.st [(0, 3, "Kind"), (1, 3, "In"), (2, 62, "List"), (3, 3, "Of"), (4, 62, "To"), (5, 4, "Follow"), (6, 61, "E")] TBond, 7, 104⟩),
  (62, ⟨.sl 3 (Ty.int .i64), 1, 24⟩),
  (61, ⟨.sl 152 TPart, 1, 24⟩),
  (152, ⟨.st [(0, 3, "Kind"), (1, 3, "N"), (2, 150, "V")] TPart, 5, 48⟩),
  (28, ⟨.sl 73 TTable, 1, 24⟩),
  (73, ⟨.st [(0, 71, "Columns"), (1, 51, "Rows")] TTable, 2, 48⟩),
  (71, ⟨.sl 128 TColumn, 1, 24⟩),
  (128, ⟨.st [(0, 3, "Kind"), (1, 4, "Empty")] TColumn, 2, 16⟩),
  (51, ⟨.sl 89 (Ty.sl TValue), 1, 24⟩),
  (89, ⟨.sl 130 TValue, 1, 24⟩),
  (130, ⟨.st [(0, 3, "Kind"), (1, 3, "N"), (2, 9, "S")] TValue, 3, 32⟩),
  (47, ⟨.sl 99 TBond, 1, 24⟩),
  (99, ⟨.st [(0, 3, "Kind"), (1, 3, "In"), (2, 62, "List"), (3, 3, "Of"), (4, 62, "To"), (5, 4, "Follow"), (6, 67, "E")] TBond, 7, 104⟩),
  (67, ⟨.sl 132 TPart, 1, 24⟩),
  (132, ⟨.st [(0, 3, "Kind"), (1, 3, "N"), (2, 130, "V")] TPart, 5, 48⟩),
  (0, ⟨.other, 1, 0⟩),
  (142, ⟨.other, 1, 8⟩),
  (171, ⟨.other, 1, 0⟩),
  (177, ⟨.other, 1, 0⟩),
  (92, ⟨.other, 1, 8⟩),
  (166, ⟨.other, 1, 8⟩),
  (207, ⟨.other, 1, 8⟩),
  (5, ⟨.val (Ty.int .u8), 1, 1⟩),
  (169, ⟨.sl 5 (Ty.int .u8), 1, 24⟩)]
def cmps : List TypeId := [4, 130]
theorem tab_check : allOk P tab tab = true := by kernel_rfl
theorem cmp_check : cmpOk P tab cmps = true := by kernel_rfl
theorem mixed : P.follows .mixedOrders = true := by kernel_rfl
end Go.AE

