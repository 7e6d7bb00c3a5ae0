/- Rows of plans: plain Lean. -/
import Derived.Test.YtckamkecfekneaaGreatAeMQ
namespace Go.AE
open Go Go.RowKit
set_option linter.unusedVariables false
def M.rowMany (rows : List (List TValue.D)) (row : List TValue.D) : Nat := rows.countP fun r => decide (r = row)
def M.onceStep (out : List (List TValue.D)) (r : List TValue.D) : List (List TValue.D) := cond (decide ((rowMany out r : Int) = (0 : Int))) (out ++ [r]) out
def M.rowsOnce (rows : List (List TValue.D)) : List (List TValue.D) := rows.foldl onceStep []
def M.joined (e : List TPart.D) (r : List TValue.D) (rows : List (List TValue.D)) : List (List TValue.D) := (rows.map fun q => r ++ q).filter fun x => holds x e
def M.rowStep (tables : List TTable.D) (ahead : List (List (List TValue.D))) (s : TStep.D) : List (List TValue.D) :=
 cond (decide (s.1 = (1 : Int))) (nth (t := TTable) tables s.2.2.2.1).2.1
 (cond (decide (s.1 = (2 : Int))) (List.filter (fun r => holds r s.2.2.2.2.1) (nth (t := .sl (.sl TValue)) ahead s.2.1))
 (cond (decide (s.1 = (3 : Int))) (List.map (fun r => taken r s.2.2.2.2.2.1) (nth (t := .sl (.sl TValue)) ahead s.2.1))
 (cond (decide (s.1 = (4 : Int))) (List.flatMap (fun r => joined s.2.2.2.2.1 r (nth (t := .sl (.sl TValue)) ahead s.2.2.1)) (nth (t := .sl (.sl TValue)) ahead s.2.1))
 (cond (decide (s.1 = (5 : Int))) (nth (t := .sl (.sl TValue)) ahead s.2.1 ++ nth (t := .sl (.sl TValue)) ahead s.2.2.1 : List (List TValue.D))
 (cond (decide (s.1 = (6 : Int))) (rowsOnce (nth (t := .sl (.sl TValue)) ahead s.2.1)) [])))))
def M.rowsFew (R : List (List TValue.D)) : Prop := R.length ≤ 300 ∧ ∀ r ∈ R, r.length ≤ 4
def M.rowSafe (tables : List TTable.D) (ahead : List (List (List TValue.D))) (s : TStep.D) : Prop :=
 (s.1 = (1 : Int) → 0 ≤ s.2.2.2.1 ∧ s.2.2.2.1 < (tables.length : Int)) ∧ stepIn (ahead.length : Int) s ∧
 (¬ s.1 = (1 : Int) → rowsFew (nth (t := .sl (.sl TValue)) ahead s.2.1) ∧ rowsFew (nth (t := .sl (.sl TValue)) ahead s.2.2.1)) ∧
 (s.1 = (2 : Int) → ∀ r ∈ (nth (t := .sl (.sl TValue)) ahead s.2.1 : List (List TValue.D)), exprSafe r.length s.2.2.2.2.1) ∧
 (s.1 = (3 : Int) → ∀ r ∈ (nth (t := .sl (.sl TValue)) ahead s.2.1 : List (List TValue.D)), inRow r s.2.2.2.2.2.1) ∧
 (s.1 = (4 : Int) → ∀ r ∈ (nth (t := .sl (.sl TValue)) ahead s.2.1 : List (List TValue.D)), ∀ q ∈ (nth (t := .sl (.sl TValue)) ahead s.2.2.1 : List (List TValue.D)), exprSafe (r ++ q : List TValue.D).length s.2.2.2.2.1)
def M.rowsPut (tables : List TTable.D) (all : List (List (List TValue.D))) (s : TStep.D) : List (List (List TValue.D)) := all ++ [rowStep tables all s]
def M.rowsAll (tables : List TTable.D) (plan : List TStep.D) : List (List (List TValue.D)) := plan.foldl (rowsPut tables) []
def M.planRows (tables : List TTable.D) (plan : List TStep.D) : List (List TValue.D) := cond (planOk tables plan) (nth (t := .sl (.sl TValue)) (rowsAll tables plan) ((plan.length : Int) - 1)) []
namespace M
theorem once_len (out : List (List TValue.D)) (r : List TValue.D) : (onceStep out r).length ≤ out.length + 1 ∧ ∀ x ∈ onceStep out r, x ∈ out ∨ x = r := by
 unfold onceStep
 cases decide ((rowMany out r : Int) = (0 : Int)) with
 | true =>
  refine ⟨by simp, fun x hx => ?_⟩
  rcases List.mem_append.1 hx with h | h
  ·exact .inl h
  ·exact .inr (List.mem_singleton.1 h)
 | false => exact ⟨by show out.length ≤ out.length + 1; omega, fun x hx => .inl hx⟩
theorem once_all (rows : List (List TValue.D)) : (rowsOnce rows).length ≤ rows.length ∧ ∀ x ∈ rowsOnce rows, x ∈ rows := by
 have key : ∀ (l : List (List TValue.D)) (out : List (List TValue.D)), (l.foldl onceStep out).length ≤ out.length + l.length ∧ ∀ x ∈ l.foldl onceStep out, x ∈ out ∨ x ∈ l := by
  intro l
  induction l with
  | nil => intro out; exact ⟨by simp, fun x hx => .inl hx⟩
  | cons y l ih =>
   intro out
   obtain ⟨h1, h2⟩ := ih (onceStep out y)
   obtain ⟨h3, h4⟩ := once_len out y
   refine ⟨by rw [List.foldl_cons, List.length_cons]; omega, fun x hx => ?_⟩
   rcases h2 x hx with h | h
   ·rcases h4 x h with h | h
    ·exact .inl h
    ·exact .inr (by simp [h])
   ·exact .inr (by simp [h])
 have := key rows []
 refine ⟨by have := this.1; unfold rowsOnce; simpa using this, fun x hx => ?_⟩
 rcases this.2 x hx with h | h
 ·cases h
 ·exact h
theorem joined_len (e : List TPart.D) (r : List TValue.D) (rows : List (List TValue.D)) : (joined e r rows).length ≤ rows.length := by
 unfold joined
 refine Nat.le_trans (List.length_filter_le _ _) ?_
 rw [List.length_map]
 exact Nat.le_refl _
theorem flat_len {α β : Type} (f : α → List β) (n : Nat) : ∀ (xs : List α), (∀ x ∈ xs, (f x).length ≤ n) → (xs.flatMap f).length ≤ xs.length * n
 | [], _ => by simp
 | x :: xs, h => by
  have h1 := h x (by simp)
  have h2 := flat_len f n xs (fun y hy => h y (by simp [hy]))
  rw [List.flatMap_cons, List.length_append, List.length_cons, Nat.succ_mul]
  omega
def Rows (st : PlanSt) (all : List (List (List TValue.D))) : Prop := all.length = st.1.length ∧ st.2.length = st.1.length ∧ ∀ j : Int, 0 ≤ j → j < (all.length : Int) →
 ((nth (t := .sl (.sl TValue)) all j : List (List TValue.D)).length : Int) ≤ nth (t := .int .i64) st.2 j ∧ nth (t := .int .i64) st.2 j ≤ 300 ∧ (nth (t := .sl TColumn) st.1 j : List TColumn.D).length ≤ 4 ∧
 Sm (.sl (.sl TValue)) (nth (t := .sl (.sl TValue)) all j) ∧ ∀ r ∈ (nth (t := .sl (.sl TValue)) all j : List (List TValue.D)), r.length = (nth (t := .sl TColumn) st.1 j : List TColumn.D).length
theorem rows_put {st : PlanSt} {all : List (List (List TValue.D))} (h : Rows st all) {R : List (List TValue.D)} {c : List TColumn.D} {m : Int} (h1 : (R.length : Int) ≤ m) (h2 : m ≤ 300) (h3 : c.length ≤ 4) (h4 : Sm (.sl (.sl TValue)) R) (h5 : ∀ r ∈ R, r.length = c.length) :
  Rows (st.1 ++ [c], st.2 ++ [m]) (all ++ [R]) := by
 obtain ⟨l1, l2, h⟩ := h
 refine ⟨by simp [l1], by simp [l2], fun j j0 j1 => ?_⟩
 by_cases hj : j = (all.length : Int)
 ·rw [nth_last (t := .sl (.sl TValue)) hj, nth_last (t := .int .i64) (by rw [hj, l1, l2]), nth_last (t := .sl TColumn) (by rw [hj, l1])]
  exact ⟨h1, h2, h3, h4, h5⟩
 ·have hlt : j < (all.length : Int) := by simp at j1; omega
  rw [nth_left (t := .sl (.sl TValue)) j0 hlt, nth_left (t := .int .i64) j0 (by rw [l2, ← l1]; exact hlt), nth_left (t := .sl TColumn) j0 (by rw [← l1]; exact hlt)]
  exact h j j0 hlt
end M
end Go.AE
