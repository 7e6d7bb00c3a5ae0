/- The seat's facts for the evaluator. -/
import Derived.Test.YtckamkecfekneaaGreatChecked
import Derived.Test.YtckamkecfekneaaGreatAeMW
import Derived.Test.YtckamkecfekneaaGreatAeY
import Derived.KernelRfl
namespace Go.AE
open Go Go.RowKit
noncomputable abbrev P : Program := Go.Proofs.Tryz.prog
def tab : Tab := [(4, ⟨.val Ty.bool, 1, 1⟩),
  (3, ⟨.val (Ty.int .i64), 1, 8⟩),
  (22, ⟨.sl 51 TTable, 1, 24⟩),
  (51, ⟨.st [(0, 48, "Columns"), (1, 49, "Rows")] TTable, 2, 48⟩),
  (48, ⟨.sl 132 TColumn, 1, 24⟩),
  (132, ⟨.st [(0, 3, "Kind"), (1, 4, "Empty")] TColumn, 2, 16⟩),
  (49, ⟨.sl 121 (Ty.sl TValue), 1, 24⟩),
  (121, ⟨.sl 123 TValue, 1, 24⟩),
  (123, ⟨.st [(0, 3, "Kind"), (1, 3, "N"), (2, 9, "S")] TValue, 3, 32⟩),
  (9, ⟨.val Ty.str, 1, 16⟩),
  (23, ⟨.sl 55 TStep, 1, 24⟩),
  (55, ⟨.st [(0, 3, "Kind"), (1, 3, "A"), (2, 3, "B"), (3, 3, "N"), (4, 53, "E"), (5, 39, "List")] TStep, 6, 80⟩),
  (53, ⟨.sl 125 TPart, 1, 24⟩),
  (125, ⟨.st [(0, 3, "Kind"), (1, 3, "N"), (2, 123, "V")] TPart, 5, 48⟩),
  (39, ⟨.sl 3 (Ty.int .i64), 1, 24⟩),
  (28, ⟨.sl 61 TTable, 1, 24⟩),
  (61, ⟨.st [(0, 59, "Columns"), (1, 26, "Rows")] TTable, 2, 48⟩),
  (59, ⟨.sl 105 TColumn, 1, 24⟩),
  (105, ⟨.st [(0, 3, "Kind"), (1, 4, "Empty")] TColumn, 2, 16⟩),
  (26, ⟨.sl 68 (Ty.sl TValue), 1, 24⟩),
  (68, ⟨.sl 101 TValue, 1, 24⟩),
  (101, ⟨.st [(0, 3, "Kind"), (1, 3, "N"), (2, 9, "S")] TValue, 3, 32⟩),
  (30, ⟨.sl 65 TStep, 1, 24⟩),
  (65, ⟨.st [(0, 3, "Kind"), (1, 3, "A"), (2, 3, "B"), (3, 3, "N"), (4, 63, "E"), (5, 39, "List")] TStep, 6, 80⟩),
  (63, ⟨.sl 107 TPart, 1, 24⟩),
  (107, ⟨.st [(0, 3, "Kind"), (1, 3, "N"), (2, 101, "V")] TPart, 5, 48⟩),
  (0, ⟨.other, 1, 0⟩),
  (80, ⟨.other, 1, 0⟩),
  (79, ⟨.sl 59 (Ty.sl TColumn), 1, 24⟩),
  (43, ⟨.other, 1, 0⟩),
  (95, ⟨.other, 1, 0⟩),
  (94, ⟨.sl 136 TMade, 1, 24⟩),
  (136, ⟨.st [(0, 59, "columns"), (1, 3, "most")] TMade, 2, 32⟩),
  (74, ⟨.sl 4 Ty.bool, 1, 24⟩),
  (112, ⟨.other, 1, 0⟩),
  (119, ⟨.other, 1, 8⟩),
  (137, ⟨.other, 1, 0⟩),
  (5, ⟨.val (Ty.int .u8), 1, 1⟩),
  (142, ⟨.sl 5 (Ty.int .u8), 1, 24⟩),
  (158, ⟨.mp .i64 3 (Ty.int .i64), 1, 8⟩),
  (183, ⟨.other, 1, 0⟩),
  (202, ⟨.sl 63 (Ty.sl TPart), 1, 24⟩),
  (187, ⟨.other, 1, 8⟩),
  (150, ⟨.other, 1, 0⟩),
  (161, ⟨.other, 1, 8⟩)]
def cmps : List TypeId := [4, 101]
theorem tab_check : allOk P tab tab = true := by kernel_rfl
theorem cmp_check : cmpOk P tab cmps = true := by kernel_rfl
theorem mixed : P.follows .mixedOrders = true := by kernel_rfl
@[reducible] def cx (l : Cons) (n : Nat) (inl : List (Nat × Inl)) (off : Nat) (deep : Bool) : Ctx := ⟨tab, fun t => memN t cmps, l, n, inl, off, deep⟩
theorem conR (C : Ctx) {f : FuncId} {fn : Func} {con : Con} (hf : P.funcs[f]? = some fn) (hC : ConsOk P C) (hcon : ∀ args hp K, con.run args hp K → (Nat.ble args.length fn.ntmps && Nat.ble args.length ghost0) = true ∧ ∃ (ann : Nat → List Dir) (L : Loops) (k : RK), (∀ p ∈ loopsOf (bodyOf fn), LoopOk C L ann p.1 p.2) ∧ vcT C L ann fn args hp k K)
    (hT : TabOk P C := by exact tab_ok tab_check cmp_check) (hq : ((fn.name == "runtime.NumGoroutine") || fn.body.isNone) = false := by kernel_rfl) (hN : C.n = fn.ntmps := by rfl) : Con1 P f con := conR' [] hT mixed hf hq hC hN hcon
theorem conRc (ds : List (Nat × Bool)) (C : Ctx) {f : FuncId} {fn : Func} {con : Con} (hf : P.funcs[f]? = some fn) (hC : ConsOk P C) (hcon : ∀ args hp K, con.run args hp K → (Nat.ble args.length fn.ntmps && Nat.ble args.length ghost0) = true ∧ ∃ (ann : Nat → List Dir) (L : Loops) (k : RK), (∀ p ∈ loopsOf (bodyOf (cutF ds fn)), LoopOk C L ann p.1 p.2) ∧ vcT C L ann (cutF ds fn) args hp k K)
    (hT : TabOk P C := by exact tab_ok tab_check cmp_check) (hq : ((fn.name == "runtime.NumGoroutine") || fn.body.isNone) = false := by kernel_rfl) (hN : C.n = fn.ntmps := by rfl) : Con1 P f con := conR' ds hT mixed hf hq hC hN hcon
theorem inlR (C : Ctx) {f : FuncId} {fn : Func} (hf : P.funcs[f]? = some fn) (hC : ConsOk P C) {ann : Nat → List Dir} (hT : TabOk P C := by exact tab_ok tab_check cmp_check) (hq : ((fn.name == "runtime.NumGoroutine") || fn.body.isNone) = false := by kernel_rfl) (hN : C.n = fn.ntmps := by rfl)
    (hl : loopsOf (bodyOf fn) = [] := by kernel_rfl) : Inl1 P f (inlT C ann (bodyOf fn) fn.results.toList) := inlR' hT mixed hf hq hC hN hl
@[reducible] def nT (xs : List TTable.D) (i : Int) : TTable.D := nth (t := TTable) xs i
@[reducible] def nS (xs : List TStep.D) (i : Int) : TStep.D := nth (t := TStep) xs i
@[reducible] def nC (xs : List TColumn.D) (i : Int) : TColumn.D := nth (t := TColumn) xs i
@[reducible] def nI (xs : List TInt.D) (i : Int) : TInt.D := nth (t := TInt) xs i
@[reducible] def nP (xs : List TPart.D) (i : Int) : TPart.D := nth (t := TPart) xs i
@[reducible] def nM (xs : List TMade.D) (i : Int) : TMade.D := nth (t := TMade) xs i
@[reducible] def nG (xs : List TGuard.D) (i : Int) : TGuard.D := nth (t := TGuard) xs i
@[reducible] def nV (xs : List TValue.D) (i : Int) : TValue.D := nth (t := TValue) xs i
abbrev Z0 : Int := 0
abbrev Z1 : Int := 1
abbrev Z2 : Int := 2
abbrev Z3 : Int := 3
abbrev Z4 : Int := 4
abbrev Z5 : Int := 5
abbrev Z6 : Int := 6
@[reducible] def dI (n : Int) : AV := .data TInt n
@[reducible] def dB (b : Bool) : AV := .data Ty.bool b
abbrev KA : Type := AV → Hp → Prop
abbrev KX : Type := X → St → Prop
end Go.AE

