/- The seat's facts for the evaluator. -/
import Derived.Test.YtcideedlnkgbiaaGreatChecked
import Derived.Test.YtcideedlnkgbiaaGreatAeMM
import Derived.KernelRfl
namespace Go.AE
open Go Go.RowKit
noncomputable abbrev P : Program := Go.Proofs.Tryz.prog
def tab : Tab := [(0, ⟨.other, 1, 0⟩),
  (26, ⟨.st [(0, 3, "Kind"), (1, 3, "In"), (2, 23, "List"), (3, 3, "Of"), (4, 23, "To"), (5, 4, "Follow"), (6, 24, "E")] TBond, 7, 104⟩),
  (3, ⟨.val (Ty.int .i64), 1, 8⟩),
  (23, ⟨.sl 3 (Ty.int .i64), 1, 24⟩),
  (4, ⟨.val Ty.bool, 1, 1⟩),
  (24, ⟨.sl 86 TPart, 1, 24⟩),
  (86, ⟨.st [(0, 3, "Kind"), (1, 3, "N"), (2, 84, "V")] TPart, 5, 48⟩),
  (84, ⟨.st [(0, 3, "Kind"), (1, 3, "N"), (2, 9, "S")] TValue, 3, 32⟩),
  (9, ⟨.val Ty.str, 1, 16⟩),
  (22, ⟨.sl 52 TTable, 1, 24⟩),
  (52, ⟨.st [(0, 49, "Columns"), (1, 50, "Rows")] TTable, 2, 48⟩),
  (49, ⟨.sl 129 TColumn, 1, 24⟩),
  (129, ⟨.st [(0, 3, "Kind"), (1, 4, "Empty")] TColumn, 2, 16⟩),
  (50, ⟨.sl 121 (Ty.sl TValue), 1, 24⟩),
  (121, ⟨.sl 84 TValue, 1, 24⟩),
  (30, ⟨.sl 59 TTable, 1, 24⟩),
  (59, ⟨.st [(0, 56, "Columns"), (1, 57, "Rows")] TTable, 2, 48⟩),
  (56, ⟨.sl 92 TColumn, 1, 24⟩),
  (92, ⟨.st [(0, 3, "Kind"), (1, 4, "Empty")] TColumn, 2, 16⟩),
  (57, ⟨.sl 95 (Ty.sl TValue), 1, 24⟩),
  (95, ⟨.sl 93 TValue, 1, 24⟩),
  (93, ⟨.st [(0, 3, "Kind"), (1, 3, "N"), (2, 9, "S")] TValue, 3, 32⟩),
  (34, ⟨.st [(0, 3, "Kind"), (1, 3, "In"), (2, 23, "List"), (3, 3, "Of"), (4, 23, "To"), (5, 4, "Follow"), (6, 32, "E")] TBond, 7, 104⟩),
  (32, ⟨.sl 103 TPart, 1, 24⟩),
  (103, ⟨.st [(0, 3, "Kind"), (1, 3, "N"), (2, 93, "V")] TPart, 5, 48⟩),
  (125, ⟨.other, 1, 0⟩),
  (137, ⟨.other, 1, 8⟩),
  (98, ⟨.other, 1, 8⟩),
  (149, ⟨.other, 1, 8⟩),
  (162, ⟨.other, 1, 0⟩),
  (5, ⟨.val (Ty.int .u8), 1, 1⟩),
  (150, ⟨.sl 5 (Ty.int .u8), 1, 24⟩)]
def cmps : List TypeId := [4, 93]
theorem tab_check : allOk P tab tab = true := by kernel_rfl
theorem cmp_check : cmpOk P tab cmps = true := by kernel_rfl
theorem mixed : P.follows .mixedOrders = true := by kernel_rfl
end Go.AE

