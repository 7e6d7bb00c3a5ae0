/- Plans: plain Lean. -/
import Derived.Test.YtiplhefglgpdoaaGreatAeMN
namespace Go.AE
open Go Go.RowKit
set_option linter.unusedVariables false
@[reducible] def TMade : Ty := .pair (.sl TColumn) (.pair (.int .i64) .unit)
def M.two (k : Int) : Bool := decide (k = 4) || decide (k = 5)
def M.fieldsOk (s : TStep.D) : Bool := (!decide (s.1 = (1 : Int)) || decide (s.2.1 = (0 : Int))) && ((two s.1 || decide (s.2.2.1 = (0 : Int))) && ((decide (s.1 = (1 : Int)) || decide (s.2.2.2.1 = (0 : Int))) &&
 ((decide (s.1 = (2 : Int)) || decide (s.1 = (4 : Int)) || decide ((s.2.2.2.2.1.length : Int) = (0 : Int))) && (decide (s.1 = (3 : Int)) || decide ((s.2.2.2.2.2.1.length : Int) = (0 : Int))))))
@[reducible] def PlanSt : Type := List (List TColumn.D) × List Int
def M.ren (to : List Int) (s : TStep.D) : TStep.D := (s.1, cond (decide (s.1 = (1 : Int))) s.2.1 (nth (t := .int .i64) to s.2.1), cond (two s.1) (nth (t := .int .i64) to s.2.2.1) s.2.2.1, s.2.2.2)
namespace M
theorem each_idx {σ ρ : Type} {f : Int → σ → Option (Sum σ ρ)} (g : σ → Int → σ) (I : Int → σ → Prop) (N : Nat) {s : σ} (h0 : I 0 s)
  (h : ∀ (i : Int) (s : σ), 0 ≤ i → i < (N : Int) → I i s → f i s = some (.inl (g s i)) ∧ I (i + 1) (g s i)) :
  eachD f (rangeI 0 (N : Int)) s = some (.inl ((rangeI 0 (N : Int)).foldl g s)) ∧ I (N : Int) ((rangeI 0 (N : Int)).foldl g s) := by
 have key : ∀ (n : Nat) (i : Int) (s : σ), (N : Int) - i = n → 0 ≤ i → I i s → eachD f (rangeI i (N : Int)) s = some (.inl ((rangeI i (N : Int)).foldl g s)) ∧ I (N : Int) ((rangeI i (N : Int)).foldl g s) := by
  intro n
  induction n with
  | zero =>
   intro i s hn h0 hI
   rw [rangeI_nil (by omega)]
   have : i = (N : Int) := by omega
   subst this
   exact ⟨rfl, hI⟩
  | succ n ih =>
   intro i s hn h0 hI
   obtain ⟨h1, h2⟩ := h i s h0 (by omega) hI
   rw [rangeI_cons (by omega), eachD_cons, h1, thenD_inl]
   exact ih (i + 1) _ (by omega) (by omega) h2
 exact key N 0 s (by omega) (by omega) h0
theorem cond_some_eq {α : Type} {b : Bool} {x : Option α} {y : α} (h : cond b x none = some y) : b = true ∧ x = some y := by
 cases b with
 | true => exact ⟨rfl, h⟩
 | false => cases h
end M
end Go.AE
