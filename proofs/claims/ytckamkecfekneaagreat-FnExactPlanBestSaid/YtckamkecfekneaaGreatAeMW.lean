/- The best plan: plain Lean. -/
import Derived.Test.YtckamkecfekneaaGreatAeMU
namespace Go.AE
open Go Go.RowKit
set_option linter.unusedVariables false
def M.betterTo (tables : List TTable.D) (plan : List TStep.D) (rule at_ : Int) : Option (List TStep.D) := cond (turned tables plan at_ rule).2 (some (tidy (turned tables plan at_ rule).1)) none
def M.betterAt (tables : List TTable.D) (plan : List TStep.D) (rule : Int) : Option (List TStep.D) := firstO (betterTo tables plan rule) (rangeI 0 (plan.length : Int))
def M.betterO (tables : List TTable.D) (plan : List TStep.D) : Option (List TStep.D) := firstO (betterAt tables plan) (rangeI 1 8)
def M.better (tables : List TTable.D) (plan : List TStep.D) : List TStep.D × Bool := match betterO tables plan with
 | some p => (p, true)
 | none => (plan, false)
def M.bestRun (tables : List TTable.D) : Nat → List TStep.D → List TStep.D
 | 0, p => p
 | n + 1, p => match betterO tables p with
  | some q => bestRun tables n q
  | none => p
def M.planBest (tables : List TTable.D) (plan : List TStep.D) : List TStep.D := cond (planOk tables plan) (bestRun tables 12 (tidy plan)) []
end Go.AE
