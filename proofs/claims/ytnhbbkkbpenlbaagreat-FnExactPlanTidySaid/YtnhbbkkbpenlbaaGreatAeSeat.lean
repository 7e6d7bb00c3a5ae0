/- The seat's facts for the evaluator. -/
import Derived.Test.YtnhbbkkbpenlbaaGreatChecked
import Derived.Test.YtnhbbkkbpenlbaaGreatAeMP
import Derived.KernelRfl
namespace Go.AE
open Go Go.RowKit
noncomputable abbrev P : Program := Go.Proofs.Tryz.prog
def tab : Tab := [(4, ⟨.val Ty.bool, 1, 1⟩),
  (3, ⟨.val (Ty.int .i64), 1, 8⟩),
  (22, ⟨.sl 57 TTable, 1, 24⟩),
  (57, ⟨.st [(0, 54, "Columns"), (1, 55, "Rows")] TTable, 2, 48⟩),
  (54, ⟨.sl 153 TColumn, 1, 24⟩),
  (153, ⟨.st [(0, 3, "Kind"), (1, 4, "Empty")] TColumn, 2, 16⟩),
  (55, ⟨.sl 146 (Ty.sl TValue), 1, 24⟩),
  (146, ⟨.sl 148 TValue, 1, 24⟩),
  (148, ⟨.st [(0, 3, "Kind"), (1, 3, "N"), (2, 9, "S")] TValue, 3, 32⟩),
  (9, ⟨.val Ty.str, 1, 16⟩),
  (23, ⟨.sl 62 TStep, 1, 24⟩),
  (62, ⟨.st [(0, 3, "Kind"), (1, 3, "A"), (2, 3, "B"), (3, 3, "N"), (4, 59, "E"), (5, 60, "List")] TStep, 6, 80⟩),
  (59, ⟨.sl 150 TPart, 1, 24⟩),
  (150, ⟨.st [(0, 3, "Kind"), (1, 3, "N"), (2, 148, "V")] TPart, 5, 48⟩),
  (60, ⟨.sl 3 (Ty.int .i64), 1, 24⟩),
  (28, ⟨.sl 71 TTable, 1, 24⟩),
  (71, ⟨.st [(0, 69, "Columns"), (1, 49, "Rows")] TTable, 2, 48⟩),
  (69, ⟨.sl 122 TColumn, 1, 24⟩),
  (122, ⟨.st [(0, 3, "Kind"), (1, 4, "Empty")] TColumn, 2, 16⟩),
  (49, ⟨.sl 87 (Ty.sl TValue), 1, 24⟩),
  (87, ⟨.sl 124 TValue, 1, 24⟩),
  (124, ⟨.st [(0, 3, "Kind"), (1, 3, "N"), (2, 9, "S")] TValue, 3, 32⟩),
  (26, ⟨.sl 67 TStep, 1, 24⟩),
  (67, ⟨.st [(0, 3, "Kind"), (1, 3, "A"), (2, 3, "B"), (3, 3, "N"), (4, 65, "E"), (5, 60, "List")] TStep, 6, 80⟩),
  (65, ⟨.sl 126 TPart, 1, 24⟩),
  (126, ⟨.st [(0, 3, "Kind"), (1, 3, "N"), (2, 124, "V")] TPart, 5, 48⟩),
  (0, ⟨.other, 1, 0⟩),
  (64, ⟨.sl 4 Ty.bool, 1, 24⟩),
  (94, ⟨.other, 1, 0⟩),
  (93, ⟨.sl 69 (Ty.sl TColumn), 1, 24⟩),
  (115, ⟨.other, 1, 0⟩),
  (114, ⟨.sl 157 TMade, 1, 24⟩),
  (157, ⟨.st [(0, 69, "columns"), (1, 3, "most")] TMade, 2, 32⟩),
  (99, ⟨.other, 1, 8⟩),
  (134, ⟨.other, 1, 0⟩),
  (158, ⟨.other, 1, 0⟩),
  (5, ⟨.val (Ty.int .u8), 1, 1⟩),
  (162, ⟨.sl 5 (Ty.int .u8), 1, 24⟩),
  (164, ⟨.other, 1, 0⟩),
  (170, ⟨.other, 1, 0⟩),
  (90, ⟨.other, 1, 8⟩),
  (141, ⟨.other, 1, 8⟩)]
def cmps : List TypeId := [4, 124]
theorem tab_check : allOk P tab tab = true := by kernel_rfl
theorem cmp_check : cmpOk P tab cmps = true := by kernel_rfl
theorem mixed : P.follows .mixedOrders = true := by kernel_rfl
end Go.AE

