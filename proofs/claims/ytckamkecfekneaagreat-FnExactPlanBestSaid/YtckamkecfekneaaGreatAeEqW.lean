/- The best plan: what holds of it. -/
import Derived.Test.YtckamkecfekneaaGreatAeEqT
import Derived.Test.YtckamkecfekneaaGreatAeMV
import Derived.Test.YtckamkecfekneaaGreatAeMW
namespace Go.AE
open Go Go.RowKit
set_option linter.unusedVariables false
namespace M
def Good (tables : List TTable.D) (plan : List TStep.D) : Prop := planOk tables plan = true ∧ Sm (.sl TStep) plan
theorem turned_good {tables : List TTable.D} {plan : List TStep.D} (h : Good tables plan) {at_ : Int} (h0 : 0 ≤ at_) (h1 : at_ < (plan.length : Int)) (rule : Int) : Good tables (turned tables plan at_ rule).1 := by
 refine ⟨?_, turned_sm h.1 h.2 h0 h1 rule⟩
 unfold turned
 cases decide (((newSteps plan at_ rule).length : Int) = (0 : Int))
 ·cases hq : planOk tables (putSteps plan at_ (newSteps plan at_ rule))
  ·exact h.1
  ·exact hq
 ·exact h.1
theorem tidy_good {tables : List TTable.D} {plan : List TStep.D} (h : Good tables plan) : Good tables (tidy plan) := ⟨tidy_ok h.1, tidy_sm h.2⟩
theorem first_mem {α β : Type} {p : α → Option β} {r : β} : ∀ {xs : List α}, firstO p xs = some r → ∃ x ∈ xs, p x = some r
 | [], h => by cases h
 | x :: xs, h => by
  unfold firstO at h
  cases hp : p x with
  | none =>
   rw [hp] at h
   obtain ⟨y, hy, e⟩ := first_mem h
   exact ⟨y, List.mem_cons_of_mem _ hy, e⟩
  | some s =>
   rw [hp] at h
   cases h
   exact ⟨x, List.mem_cons_self, hp⟩
theorem better_good {tables : List TTable.D} {plan q : List TStep.D} (h : Good tables plan) (hb : betterO tables plan = some q) : Good tables q := by
 obtain ⟨rule, _, h1⟩ := first_mem hb
 obtain ⟨at_, hm, h2⟩ := first_mem h1
 obtain ⟨a0, a1⟩ := mem_rangeI.1 hm
 unfold betterTo at h2
 cases ht : (turned tables plan at_ rule).2 with
 | false => rw [ht] at h2; cases h2
 | true =>
  rw [ht] at h2
  cases h2
  exact tidy_good (turned_good h a0 a1 rule)
theorem best_good {tables : List TTable.D} : ∀ (n : Nat) {plan : List TStep.D}, Good tables plan → Good tables (bestRun tables n plan)
 | 0, _, h => h
 | n + 1, plan, h => by
  unfold bestRun
  cases hb : betterO tables plan with
  | none => exact h
  | some q => exact best_good n (better_good h hb)
theorem planBest_sm {tables : List TTable.D} {plan : List TStep.D} (h : Sm (.sl TStep) plan) : Sm (.sl TStep) (planBest tables plan) := by
 unfold planBest
 cases hp : planOk tables plan
 ·exact ⟨Nat.zero_le _, fun _ h => by cases h⟩
 ·exact (best_good 12 (tidy_good ⟨hp, h⟩)).2
theorem planTurned_eq {tables : List TTable.D} {plan : List TStep.D} (h : Good tables plan) {at_ rule : Int} (a0 : 0 ≤ at_) (a1 : at_ < (plan.length : Int)) (r0 : 1 ≤ rule) (r1 : rule ≤ 7) : planTurned tables plan at_ rule = turned tables plan at_ rule := by
 have h6 := plan_six h.1
 unfold planTurned inR
 rw [h.1, wrap64_id' (n := (plan.length : Int) - 1) (by omega) (by omega), decide_eq_true a0, decide_eq_true (show at_ ≤ (plan.length : Int) - 1 by omega), decide_eq_true r0, decide_eq_true r1]
 rfl
theorem first_range {β : Type} (p : Int → Option β) (a n : Int) (h : a < n) : firstO p (rangeI a n) = match p a with | some r => some r | none => firstO p (rangeI (a + 1) n) := by
 rw [rangeI_cons h]
 rfl
theorem first_none {β : Type} (p : Int → Option β) (a n : Int) (h : n ≤ a) : firstO p (rangeI a n) = none := by
 rw [rangeI_nil h]
 rfl
end M
end Go.AE
