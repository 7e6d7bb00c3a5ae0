/- Plans with guards: plain Lean. -/
import Derived.Test.YtiplhefglgpdoaaGreatAeMP
namespace Go.AE
open Go Go.RowKit
set_option linter.unusedVariables false
namespace M
def Same (st st' : PlanSt) (to : List Int) (k : Int) : Prop := (st.1.length : Int) = k ∧ (st.2.length : Int) = k ∧ st'.1.length = st'.2.length ∧
 ∀ j : Int, 0 ≤ j → j < k → (0 ≤ nth (t := .int .i64) to j ∧ nth (t := .int .i64) to j < (st'.1.length : Int)) ∧ nth (t := .sl TColumn) st'.1 (nth (t := .int .i64) to j) = nth (t := .sl TColumn) st.1 j ∧ nth (t := .int .i64) st'.2 (nth (t := .int .i64) to j) = nth (t := .int .i64) st.2 j
theorem take_snoc {t : Ty} {xs : List t.D} {k : Nat} (h : k < xs.length) : xs.take (k + 1) = xs.take k ++ [nth (t := t) xs (k : Int)] := by
 rw [List.take_succ_eq_append_getElem h, nth_eq (t := t) (by omega) (by omega)]
 rfl
end M
end Go.AE
namespace Go.AE
open Go Go.RowKit
end Go.AE
