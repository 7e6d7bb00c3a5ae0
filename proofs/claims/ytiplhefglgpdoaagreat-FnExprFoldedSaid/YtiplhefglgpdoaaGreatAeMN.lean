/- Guards, copies and plans: plain Lean. -/
import Derived.Test.YtiplhefglgpdoaaGreatAeMark
namespace Go.AE
open Go Go.RowKit
set_option linter.unusedVariables false
def M.holds (row : List TValue.D) (e : List TPart.D) : Bool := Ty.beq TValue (M.exprValue row e) (M.valueOf 1)
def M.seenStep (v : List TTable.D) (g : TGuard.D) : List TTable.D :=
 v.set g.1.toNat ((nth (t := TTable) v g.1).1, List.filter (fun r => M.holds r g.2.1) (nth (t := TTable) v g.1).2.1, ())
namespace M
theorem cut_all {α : Type} (xs : List α) : cutList xs (some ((0 : Int), (xs.length : Int))) = xs := by
 unfold cutList
 simp
theorem take_all {α : Type} (xs : List α) : xs.take ((xs.length : Int)).toNat = xs := by simp
theorem each_fold {α σ ρ : Type} {f : α → σ → Option (Sum σ ρ)} (g : σ → α → σ) (I : σ → Prop) {xs : List α} {s : σ} (h0 : I s)
  (h : ∀ x ∈ xs, ∀ s, I s → f x s = some (.inl (g s x)) ∧ I (g s x)) : eachD f xs s = some (.inl (xs.foldl g s)) ∧ I (xs.foldl g s) := by
 induction xs generalizing s with
 | nil => exact ⟨rfl, h0⟩
 | cons x xs ih =>
  obtain ⟨h1, h2⟩ := h x (by simp) s h0
  rw [eachD_cons, h1, thenD_inl]
  exact ih h2 (fun y hy => h y (by simp [hy]))
theorem clone2_eq {t : Ty} {xs : List t.D} : cond (decide ((xs.length : Int) = (0 : Int))) (some ([] : List t.D)) (some (xs.take (xs.length : Int).toNat)) = some xs := by
 rw [take_all]
 cases xs with
 | nil => rfl
 | cons x xs => rw [decide_eq_false (by simp; omega)]; rfl
def Fewer (tables v : List TTable.D) : Prop := v.length = tables.length ∧ ∀ i : Int, 0 ≤ i → i < (tables.length : Int) → (nth (t := TTable) v i).1 = (nth (t := TTable) tables i).1 ∧
 (nth (t := TTable) v i).2.1.length ≤ (nth (t := TTable) tables i).2.1.length ∧ ∀ r ∈ (nth (t := TTable) v i).2.1, r ∈ (nth (t := TTable) tables i).2.1
theorem Fewer.refl (tables : List TTable.D) : Fewer tables tables := ⟨rfl, fun _ _ _ => ⟨rfl, Nat.le_refl _, fun _ h => h⟩⟩
theorem nth_set_ne {t : Ty} {a : List t.D} {i j : Int} {z : t.D} (h0 : 0 ≤ i) (h1 : 0 ≤ j) (hne : i ≠ j) : nth (t := t) (a.set i.toNat z) j = nth a j := by
 have : i.toNat ≠ j.toNat := by omega
 unfold nth
 rw [List.getD_eq_getElem?_getD, List.getD_eq_getElem?_getD, List.getElem?_set_ne this]
theorem Fewer.step {tables v : List TTable.D} (h : Fewer tables v) {g : TGuard.D} (h0 : 0 ≤ g.1) (h1 : g.1 < (tables.length : Int)) : Fewer tables (seenStep v g) := by
 refine ⟨by unfold seenStep; simp [h.1], fun i i0 i1 => ?_⟩
 have hl : g.1 < (v.length : Int) := by rw [h.1]; exact h1
 by_cases e : g.1 = i
 ·subst e
  obtain ⟨q1, q2, q3⟩ := h.2 _ i0 i1
  unfold seenStep
  rw [nth_set i0 hl]
  exact ⟨q1, Nat.le_trans (List.length_filter_le _ _) q2, fun r hr => q3 r (List.mem_filter.1 hr).1⟩
 ·unfold seenStep
  rw [nth_set_ne h0 i0 e]
  exact h.2 i i0 i1
theorem row_len {tables : List TTable.D} (h : tablesOk tables = true) {i : Int} (h0 : 0 ≤ i) (h1 : i < (tables.length : Int)) {r : List TValue.D} (hr : r ∈ (nth (t := TTable) tables i).2.1) : r.length = (nth (t := TTable) tables i).1.length := by
 have hm := nth_mem' (t := TTable) h0 h1
 unfold tablesOk at h
 obtain ⟨_, h2⟩ := Bool.and_eq_true_iff.1 h
 have h3 := List.all_eq_true.1 h2 _ hm
 unfold tableOk at h3
 obtain ⟨_, h4⟩ := Bool.and_eq_true_iff.1 h3
 unfold rowsOk at h4
 obtain ⟨_, h5⟩ := Bool.and_eq_true_iff.1 h4
 have h6 := List.all_eq_true.1 h5 r hr
 unfold rowFits at h6
 simp only [Bool.and_eq_true, decide_eq_true_eq] at h6
 omega
end M
end Go.AE
