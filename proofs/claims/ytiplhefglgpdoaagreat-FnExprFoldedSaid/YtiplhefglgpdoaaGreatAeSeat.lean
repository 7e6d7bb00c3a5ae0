/- The seat's facts for the evaluator. -/
import Derived.Test.YtiplhefglgpdoaaGreatChecked
import Derived.Test.YtiplhefglgpdoaaGreatAeMQ
import Derived.Test.YtiplhefglgpdoaaGreatAeY
import Derived.KernelRfl
namespace Go.AE
open Go Go.RowKit
noncomputable abbrev P : Program := Go.Proofs.Tryz.prog
def tab : Tab := [(4, ⟨.val Ty.bool, 1, 1⟩),
  (22, ⟨.sl 5 (Ty.int .u8), 1, 24⟩),
  (5, ⟨.val (Ty.int .u8), 1, 1⟩),
  (3, ⟨.val (Ty.int .i64), 1, 8⟩),
  (26, ⟨.other, 1, 0⟩),
  (23, ⟨.sl 58 TColumn, 1, 24⟩),
  (58, ⟨.st [(0, 3, "Kind"), (1, 4, "Empty")] TColumn, 2, 16⟩),
  (24, ⟨.sl 33 TValue, 1, 24⟩),
  (33, ⟨.st [(0, 3, "Kind"), (1, 3, "N"), (2, 9, "S")] TValue, 3, 32⟩),
  (9, ⟨.val Ty.str, 1, 16⟩),
  (25, ⟨.sl 72 TPart, 1, 24⟩),
  (72, ⟨.st [(0, 3, "Kind"), (1, 3, "N"), (2, 33, "V")] TPart, 5, 48⟩),
  (64, ⟨.ptr 117, 1, 8⟩),
  (117, ⟨.st [(0, 22, "b"), (1, 3, "p")] (Ty.pair (Ty.sl (Ty.int .u8)) (Ty.pair (Ty.int .i64) Ty.unit)), 2, 32⟩),
  (47, ⟨.sl 3 (Ty.int .i64), 1, 24⟩),
  (0, ⟨.other, 1, 0⟩),
  (77, ⟨.other, 1, 0⟩),
  (123, ⟨.other, 1, 0⟩),
  (129, ⟨.other, 1, 8⟩),
  (140, ⟨.val (Ty.int .u64), 1, 8⟩),
  (179, ⟨.val (Ty.int .u32), 1, 4⟩),
  (185, ⟨.sl 9 Ty.str, 1, 24⟩),
  (181, ⟨.val (Ty.int .u64), 1, 8⟩)]
def cmps : List TypeId := [33, 72]
theorem tab_check : allOk P tab tab = true := by kernel_rfl
theorem cmp_check : cmpOk P tab cmps = true := by kernel_rfl
theorem mixed : P.follows .mixedOrders = true := by kernel_rfl
@[reducible] def cx (l : Cons) (n : Nat) (inl : List (Nat × Inl)) (off : Nat) (deep : Bool) : Ctx := ⟨tab, fun t => memN t cmps, l, n, inl, off, deep⟩
theorem conR (C : Ctx) {f : FuncId} {fn : Func} {con : Con} (hf : P.funcs[f]? = some fn) (hC : ConsOk P C) (hcon : ∀ args hp K, con.run args hp K → (Nat.ble args.length fn.ntmps && Nat.ble args.length ghost0) = true ∧ ∃ (ann : Nat → List Dir) (L : Loops) (k : RK), (∀ p ∈ loopsOf (bodyOf fn), LoopOk C L ann p.1 p.2) ∧ vcT C L ann fn args hp k K)
    (hT : TabOk P C := by exact tab_ok tab_check cmp_check) (hq : ((fn.name == "runtime.NumGoroutine") || fn.body.isNone) = false := by kernel_rfl) (hN : C.n = fn.ntmps := by rfl) : Con1 P f con := conR' [] hT mixed hf hq hC hN hcon
theorem conRc (ds : List (Nat × Bool)) (C : Ctx) {f : FuncId} {fn : Func} {con : Con} (hf : P.funcs[f]? = some fn) (hC : ConsOk P C) (hcon : ∀ args hp K, con.run args hp K → (Nat.ble args.length fn.ntmps && Nat.ble args.length ghost0) = true ∧ ∃ (ann : Nat → List Dir) (L : Loops) (k : RK), (∀ p ∈ loopsOf (bodyOf (cutF ds fn)), LoopOk C L ann p.1 p.2) ∧ vcT C L ann (cutF ds fn) args hp k K)
    (hT : TabOk P C := by exact tab_ok tab_check cmp_check) (hq : ((fn.name == "runtime.NumGoroutine") || fn.body.isNone) = false := by kernel_rfl) (hN : C.n = fn.ntmps := by rfl) : Con1 P f con := conR' ds hT mixed hf hq hC hN hcon
theorem inlR (C : Ctx) {f : FuncId} {fn : Func} (hf : P.funcs[f]? = some fn) (hC : ConsOk P C) {ann : Nat → List Dir} (hT : TabOk P C := by exact tab_ok tab_check cmp_check) (hq : ((fn.name == "runtime.NumGoroutine") || fn.body.isNone) = false := by kernel_rfl) (hN : C.n = fn.ntmps := by rfl)
    (hl : loopsOf (bodyOf fn) = [] := by kernel_rfl) : Inl1 P f (inlT C ann (bodyOf fn) fn.results.toList) := inlR' hT mixed hf hq hC hN hl
@[reducible] def nT (xs : List TTable.D) (i : Int) : TTable.D := nth (t := TTable) xs i
@[reducible] def nS (xs : List TStep.D) (i : Int) : TStep.D := nth (t := TStep) xs i
@[reducible] def nC (xs : List TColumn.D) (i : Int) : TColumn.D := nth (t := TColumn) xs i
@[reducible] def nI (xs : List TInt.D) (i : Int) : TInt.D := nth (t := TInt) xs i
@[reducible] def nP (xs : List TPart.D) (i : Int) : TPart.D := nth (t := TPart) xs i
@[reducible] def nM (xs : List TMade.D) (i : Int) : TMade.D := nth (t := TMade) xs i
@[reducible] def nG (xs : List TGuard.D) (i : Int) : TGuard.D := nth (t := TGuard) xs i
@[reducible] def nV (xs : List TValue.D) (i : Int) : TValue.D := nth (t := TValue) xs i
abbrev Z0 : Int := 0
abbrev Z1 : Int := 1
abbrev Z2 : Int := 2
abbrev Z3 : Int := 3
abbrev Z4 : Int := 4
abbrev Z5 : Int := 5
abbrev Z6 : Int := 6
@[reducible] def dI (n : Int) : AV := .data TInt n
@[reducible] def dB (b : Bool) : AV := .data Ty.bool b
abbrev KA : Type := AV → Hp → Prop
abbrev KX : Type := X → St → Prop
end Go.AE

