/- Plans with guards: plain Lean. -/
import Derived.Test.YtckamkecfekneaaGreatAeMP
namespace Go.AE
open Go Go.RowKit
set_option linter.unusedVariables false
namespace M
def Same (st st' : PlanSt) (to : List Int) (k : Int) : Prop := (st.1.length : Int) = k ∧ (st.2.length : Int) = k ∧ st'.1.length = st'.2.length ∧
 ∀ j : Int, 0 ≤ j → j < k → (0 ≤ nth (t := .int .i64) to j ∧ nth (t := .int .i64) to j < (st'.1.length : Int)) ∧ nth (t := .sl TColumn) st'.1 (nth (t := .int .i64) to j) = nth (t := .sl TColumn) st.1 j ∧ nth (t := .int .i64) st'.2 (nth (t := .int .i64) to j) = nth (t := .int .i64) st.2 j
theorem inR_iff {n N : Int} : inR n 0 (N - 1) = true ↔ 0 ≤ n ∧ n < N := by
 unfold inR
 simp
 omega
theorem planStep_some {tables : List TTable.D} {st st' : PlanSt} {s : TStep.D} (h : planStep tables st s = some st') :
  ∃ c, stepCols tables st.1 s = some c ∧ decide ((300 : Int) < stepMost st.2 s) = false ∧ st' = (st.1 ++ [c], st.2 ++ [stepMost st.2 s]) := by
 unfold planStep at h
 cases hc : stepCols tables st.1 s with
 | none => rw [hc] at h; cases h
 | some c =>
  rw [hc] at h
  simp only at h
  cases hd : decide ((300 : Int) < stepMost st.2 s) with
  | true => rw [hd] at h; cases h
  | false =>
   rw [hd] at h
   cases h
   exact ⟨c, rfl, rfl, rfl⟩
theorem take_snoc {t : Ty} {xs : List t.D} {k : Nat} (h : k < xs.length) : xs.take (k + 1) = xs.take k ++ [nth (t := t) xs (k : Int)] := by
 rw [List.take_succ_eq_append_getElem h, nth_eq (t := t) (by omega) (by omega)]
 rfl
end M
end Go.AE
namespace Go.AE
open Go Go.RowKit
theorem M.plan_six {tables : List TTable.D} {plan : List TStep.D} (h : planOk tables plan = true) : plan.length ≤ 6 := by
 unfold planOk at h
 obtain ⟨_, h⟩ := Bool.and_eq_true_iff.1 h
 obtain ⟨_, h⟩ := Bool.and_eq_true_iff.1 h
 unfold inR at h
 simp at h
 omega
end Go.AE
