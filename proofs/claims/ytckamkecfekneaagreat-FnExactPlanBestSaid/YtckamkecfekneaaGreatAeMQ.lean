/- Plans with guards: plain Lean. -/
import Derived.Test.YtckamkecfekneaaGreatAeMP
namespace Go.AE
open Go Go.RowKit
set_option linter.unusedVariables false
namespace M
theorem foldO_snoc {σ α : Type} (g : σ → α → Option σ) : ∀ (xs : List α) (x : α) (s : σ), foldO g (xs ++ [x]) s = match foldO g xs s with
  | some s' => g s' x
  | none => none
 | [], x, s => by
  show (match g s x with | some s' => some s' | none => none) = _
  show _ = g s x
  cases g s x <;> rfl
 | y :: xs, x, s => by
  show (match g s y with | some s' => foldO g (xs ++ [x]) s' | none => none) = match (match g s y with | some s' => foldO g xs s' | none => none) with | some s' => g s' x | none => none
  cases g s y with
  | none => rfl
  | some s' => exact foldO_snoc g xs x s'
theorem foldO_take {σ α : Type} (g : σ → α → Option σ) : ∀ (xs : List α) (k : Nat) (s r : σ), foldO g xs s = some r → ∃ s', foldO g (xs.take k) s = some s'
 | [], k, s, r, h => ⟨s, by simp [foldO]⟩
 | x :: xs, 0, s, r, h => ⟨s, rfl⟩
 | x :: xs, k + 1, s, r, h => by
  unfold foldO at h
  cases hg : g s x with
  | none => rw [hg] at h; cases h
  | some s1 =>
   rw [hg] at h
   obtain ⟨s', h'⟩ := foldO_take g xs k s1 r h
   refine ⟨s', ?_⟩
   rw [List.take_succ_cons]
   unfold foldO
   rw [hg]
   exact h'
theorem nth_left {t : Ty} {xs ys : List t.D} {i : Int} (h0 : 0 ≤ i) (h1 : i < (xs.length : Int)) : nth (t := t) (xs ++ ys) i = nth (t := t) xs i := by
 unfold nth
 rw [List.getD_eq_getElem?_getD, List.getD_eq_getElem?_getD, List.getElem?_append_left (by omega)]
theorem nth_last {t : Ty} {xs : List t.D} {x : t.D} {i : Int} (h : i = (xs.length : Int)) : nth (t := t) (xs ++ [x]) i = x := by
 subst h
 unfold nth
 rw [List.getD_eq_getElem?_getD]
 simp
theorem ren_fields (to : List Int) (s : TStep.D) : fieldsOk (ren to s) = fieldsOk s := by
 unfold fieldsOk ren
 simp only
 cases h1 : decide (s.1 = (1 : Int)) <;> cases h2 : two s.1 <;> simp
def Same (st st' : PlanSt) (to : List Int) (k : Int) : Prop := (st.1.length : Int) = k ∧ (st.2.length : Int) = k ∧ st'.1.length = st'.2.length ∧
 ∀ j : Int, 0 ≤ j → j < k → (0 ≤ nth (t := .int .i64) to j ∧ nth (t := .int .i64) to j < (st'.1.length : Int)) ∧ nth (t := .sl TColumn) st'.1 (nth (t := .int .i64) to j) = nth (t := .sl TColumn) st.1 j ∧ nth (t := .int .i64) st'.2 (nth (t := .int .i64) to j) = nth (t := .int .i64) st.2 j
theorem inR_iff {n N : Int} : inR n 0 (N - 1) = true ↔ 0 ≤ n ∧ n < N := by
 unfold inR
 simp
 omega
theorem fields_b {s : TStep.D} (h : fieldsOk s = true) (h2 : two s.1 = false) : s.2.2.1 = (0 : Int) := by
 unfold fieldsOk at h
 rw [h2] at h
 have h := (Bool.and_eq_true_iff.1 (Bool.and_eq_true_iff.1 h).2).1
 simpa using h
theorem planStep_some {tables : List TTable.D} {st st' : PlanSt} {s : TStep.D} (h : planStep tables st s = some st') :
  ∃ c, stepCols tables st.1 s = some c ∧ decide ((300 : Int) < stepMost st.2 s) = false ∧ st' = (st.1 ++ [c], st.2 ++ [stepMost st.2 s]) := by
 unfold planStep at h
 cases hc : stepCols tables st.1 s with
 | none => rw [hc] at h; cases h
 | some c =>
  rw [hc] at h
  simp only at h
  cases hd : decide ((300 : Int) < stepMost st.2 s) with
  | true => rw [hd] at h; cases h
  | false =>
   rw [hd] at h
   cases h
   exact ⟨c, rfl, rfl, rfl⟩
theorem planStep_put {tables : List TTable.D} {st : PlanSt} {s : TStep.D} {c : List TColumn.D} {m : Int} (h1 : stepCols tables st.1 s = some c) (h2 : stepMost st.2 s = m) (h3 : decide ((300 : Int) < m) = false) : planStep tables st s = some (st.1 ++ [c], st.2 ++ [m]) := by
 unfold planStep
 rw [h1]
 simp only
 rw [h2, h3]
 rfl
theorem take_snoc {t : Ty} {xs : List t.D} {k : Nat} (h : k < xs.length) : xs.take (k + 1) = xs.take k ++ [nth (t := t) xs (k : Int)] := by
 rw [List.take_succ_eq_append_getElem h, nth_eq (t := t) (by omega) (by omega)]
 rfl
end M
end Go.AE
namespace Go.AE
open Go Go.RowKit
theorem M.plan_six {tables : List TTable.D} {plan : List TStep.D} (h : planOk tables plan = true) : plan.length ≤ 6 := by
 unfold planOk at h
 obtain ⟨_, h⟩ := Bool.and_eq_true_iff.1 h
 obtain ⟨_, h⟩ := Bool.and_eq_true_iff.1 h
 unfold inR at h
 simp at h
 omega
end Go.AE
