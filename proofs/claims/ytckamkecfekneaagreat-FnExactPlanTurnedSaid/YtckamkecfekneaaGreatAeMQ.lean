/- Plans with guards: plain Lean. -/
import Derived.Test.YtckamkecfekneaaGreatAeMP
namespace Go.AE
open Go Go.RowKit
set_option linter.unusedVariables false
namespace M
theorem nth_left {t : Ty} {xs ys : List t.D} {i : Int} (h0 : 0 ≤ i) (h1 : i < (xs.length : Int)) : nth (t := t) (xs ++ ys) i = nth (t := t) xs i := by
 unfold nth
 rw [List.getD_eq_getElem?_getD, List.getD_eq_getElem?_getD, List.getElem?_append_left (by omega)]
theorem nth_last {t : Ty} {xs : List t.D} {x : t.D} {i : Int} (h : i = (xs.length : Int)) : nth (t := t) (xs ++ [x]) i = x := by
 subst h
 unfold nth
 rw [List.getD_eq_getElem?_getD]
 simp
def Same (st st' : PlanSt) (to : List Int) (k : Int) : Prop := (st.1.length : Int) = k ∧ (st.2.length : Int) = k ∧ st'.1.length = st'.2.length ∧
 ∀ j : Int, 0 ≤ j → j < k → (0 ≤ nth (t := .int .i64) to j ∧ nth (t := .int .i64) to j < (st'.1.length : Int)) ∧ nth (t := .sl TColumn) st'.1 (nth (t := .int .i64) to j) = nth (t := .sl TColumn) st.1 j ∧ nth (t := .int .i64) st'.2 (nth (t := .int .i64) to j) = nth (t := .int .i64) st.2 j
theorem planStep_some {tables : List TTable.D} {st st' : PlanSt} {s : TStep.D} (h : planStep tables st s = some st') :
  ∃ c, stepCols tables st.1 s = some c ∧ decide ((300 : Int) < stepMost st.2 s) = false ∧ st' = (st.1 ++ [c], st.2 ++ [stepMost st.2 s]) := by
 unfold planStep at h
 cases hc : stepCols tables st.1 s with
 | none => rw [hc] at h; cases h
 | some c =>
  rw [hc] at h
  simp only at h
  cases hd : decide ((300 : Int) < stepMost st.2 s) with
  | true => rw [hd] at h; cases h
  | false =>
   rw [hd] at h
   cases h
   exact ⟨c, rfl, rfl, rfl⟩
end M
end Go.AE
namespace Go.AE
open Go Go.RowKit
theorem M.plan_six {tables : List TTable.D} {plan : List TStep.D} (h : planOk tables plan = true) : plan.length ≤ 6 := by
 unfold planOk at h
 obtain ⟨_, h⟩ := Bool.and_eq_true_iff.1 h
 obtain ⟨_, h⟩ := Bool.and_eq_true_iff.1 h
 unfold inR at h
 simp at h
 omega
end Go.AE
