/- Plans turned: plain Lean. -/
import Derived.Test.YtckamkecfekneaaGreatAeMQ
namespace Go.AE
open Go Go.RowKit
set_option linter.unusedVariables false
def M.andP : TPart.D := ((5 : Int), ((0 : Int), (((0 : Int), ((0 : Int), ((⟨#[]⟩ : ByteArray), ()))), ())))
def M.bothE (a b : List TPart.D) : List TPart.D := a ++ b ++ [andP]
def M.movedP (to : List Int) (p : TPart.D) : TPart.D := cond (decide (p.1 = (2 : Int))) (p.1, ((nth (t := .int .i64) to p.2.1), p.2.2)) p
def M.moved (e : List TPart.D) (to : List Int) : List TPart.D := e.map (movedP to)
def M.exprMoved (columns : List TColumn.D) (e : List TPart.D) (to : List Int) : List TPart.D :=
 cond (decide (exprKind columns e < 0)) [] (cond (!decide ((to.length : Int) = (columns.length : Int))) [] (cond (to.any fun z => !(inR z 0 3)) [] (moved e to)))
def M.colsIn (e : List TPart.D) (n : Nat) : Prop := ∀ p ∈ e, p.1 = (2 : Int) → 0 ≤ p.2.1 ∧ p.2.1 < (n : Int)
def M.mkS (k a b : Int) (e : List TPart.D) (l : List Int) : TStep.D := (k, (a, (b, ((0 : Int), (e, (l, ()))))))
def M.newOf (s j : TStep.D) (at_ rule : Int) : List TStep.D :=
 cond (decide (rule = (1 : Int))) (cond (decide (s.1 = (2 : Int)) && decide (j.1 = (2 : Int))) [mkS 2 j.2.1 0 (bothE j.2.2.2.2.1 s.2.2.2.2.1) []] [])
 (cond (decide (rule = (2 : Int))) (cond (decide (s.1 = (2 : Int)) && decide (j.1 = (4 : Int))) [mkS 4 j.2.1 j.2.2.1 (bothE j.2.2.2.2.1 s.2.2.2.2.1) []] [])
 (cond (decide (rule = (3 : Int))) (cond (decide (s.1 = (2 : Int)) && decide (j.1 = (3 : Int))) [mkS 2 j.2.1 0 (moved s.2.2.2.2.1 j.2.2.2.2.2.1) [], mkS 3 at_ 0 [] j.2.2.2.2.2.1] [])
 (cond (decide (rule = (4 : Int))) (cond (decide (s.1 = (2 : Int)) && decide (j.1 = (6 : Int))) [mkS 2 j.2.1 0 s.2.2.2.2.1 [], mkS 6 at_ 0 [] []] [])
 (cond (decide (rule = (5 : Int))) (cond (decide (s.1 = (2 : Int)) && decide (j.1 = (5 : Int))) [mkS 2 j.2.1 0 s.2.2.2.2.1 [], mkS 2 j.2.2.1 0 s.2.2.2.2.1 [], mkS 5 at_ (wrap64 (at_ + (1 : Int))) [] []] [])
 (cond (decide (rule = (6 : Int))) (cond (decide (s.1 = (3 : Int)) && decide (j.1 = (3 : Int))) [mkS 3 j.2.1 0 [] (s.2.2.2.2.2.1.map fun z => nth (t := .int .i64) j.2.2.2.2.2.1 z)] [])
 (cond (decide (rule = (7 : Int))) (cond (decide (s.1 = (6 : Int)) && decide (j.1 = (6 : Int))) [mkS 6 j.2.1 0 [] []] []) []))))))
def M.newSteps (plan : List TStep.D) (at_ rule : Int) : List TStep.D := newOf (nth (t := TStep) plan at_) (nth (t := TStep) plan (nth (t := TStep) plan at_).2.1) at_ rule
def M.safeOf (n : Nat) (s j : TStep.D) : Prop := (¬ s.1 = (1 : Int) → 0 ≤ s.2.1 ∧ s.2.1 < (n : Int)) ∧ (s.1 = (2 : Int) → j.1 = (3 : Int) → colsIn s.2.2.2.2.1 j.2.2.2.2.2.1.length) ∧
 (s.1 = (3 : Int) → j.1 = (3 : Int) → ∀ z ∈ s.2.2.2.2.2.1, 0 ≤ z ∧ z < (j.2.2.2.2.2.1.length : Int))
def M.turnSafe (plan : List TStep.D) (at_ : Int) : Prop := (0 ≤ at_ ∧ at_ < (plan.length : Int)) ∧ safeOf plan.length (nth (t := TStep) plan at_) (nth (t := TStep) plan (nth (t := TStep) plan at_).2.1)
def M.colsOf (columns : List (List TColumn.D)) (s j : TStep.D) : Prop := s.1 = (2 : Int) → j.1 = (3 : Int) → s.2.1 < (columns.length : Int) ∧ exprMoved (nth (t := .sl TColumn) columns s.2.1) s.2.2.2.2.1 j.2.2.2.2.2.1 = moved s.2.2.2.2.1 j.2.2.2.2.2.1
def M.turnCols (columns : List (List TColumn.D)) (plan : List TStep.D) (at_ : Int) : Prop := colsOf columns (nth (t := TStep) plan at_) (nth (t := TStep) plan (nth (t := TStep) plan at_).2.1)
def M.shift (at_ more : Int) (s : TStep.D) : TStep.D :=
 (s.1, cond (!decide (s.1 = (1 : Int)) && decide (at_ ≤ s.2.1)) (wrap64 (s.2.1 + more)) s.2.1, cond (two s.1 && decide (at_ ≤ s.2.2.1)) (wrap64 (s.2.2.1 + more)) s.2.2.1, s.2.2.2)
def M.putSteps (plan : List TStep.D) (at_ : Int) (steps : List TStep.D) : List TStep.D := plan.take at_.toNat ++ steps ++ (plan.drop (at_.toNat + 1)).map (shift at_ (wrap64 ((steps.length : Int) - 1)))
def M.turned (tables : List TTable.D) (plan : List TStep.D) (at_ rule : Int) : List TStep.D × Bool :=
 cond (decide (((newSteps plan at_ rule).length : Int) = (0 : Int))) (plan, false) (cond (planOk tables (putSteps plan at_ (newSteps plan at_ rule))) (putSteps plan at_ (newSteps plan at_ rule), true) (plan, false))
def M.planTurned (tables : List TTable.D) (plan : List TStep.D) (at_ rule : Int) : List TStep.D × Bool :=
 cond (planOk tables plan && (inR at_ 0 (wrap64 ((plan.length : Int) - (1 : Int))) && inR rule 1 7)) (turned tables plan at_ rule) ([], false)
namespace M
theorem foldO_ext {tables : List TTable.D} : ∀ (xs : List TStep.D) (st st' : PlanSt), foldO (planStep tables) xs st = some st' → st'.1.length = st.1.length + xs.length ∧ ∀ j : Int, 0 ≤ j → j < (st.1.length : Int) → nth (t := .sl TColumn) st'.1 j = nth (t := .sl TColumn) st.1 j
 | [], st, st', h => by cases h; exact ⟨by simp, fun _ _ _ => rfl⟩
 | x :: xs, st, st', h => by
  unfold foldO at h
  cases hp : planStep tables st x with
  | none => rw [hp] at h; cases h
  | some st1 =>
   rw [hp] at h
   obtain ⟨c, _, _, rfl⟩ := planStep_some hp
   obtain ⟨h1, h2⟩ := foldO_ext xs _ st' h
   refine ⟨by rw [h1]; simp; omega, fun j j0 j1 => ?_⟩
   rw [h2 j j0 (by simp; omega)]
   exact nth_left j0 j1
theorem foldO_at {tables : List TTable.D} : ∀ (xs : List TStep.D) (st st' : PlanSt), foldO (planStep tables) xs st = some st' → ∀ i : Int, 0 ≤ i → i < (xs.length : Int) →
  ∃ a : List (List TColumn.D), stepCols tables a (nth (t := TStep) xs i) = some (nth (t := .sl TColumn) st'.1 ((st.1.length : Int) + i)) ∧ (a.length : Int) = (st.1.length : Int) + i ∧ ∀ j : Int, 0 ≤ j → j < (a.length : Int) → nth (t := .sl TColumn) a j = nth (t := .sl TColumn) st'.1 j
 | [], st, st', h, i, h0, h1 => by simp at h1; omega
 | x :: xs, st, st', h, i, h0, h1 => by
  unfold foldO at h
  cases hp : planStep tables st x with
  | none => rw [hp] at h; cases h
  | some st1 =>
   rw [hp] at h
   obtain ⟨c, hc, _, rfl⟩ := planStep_some hp
   obtain ⟨e1, e2⟩ := foldO_ext xs _ st' h
   by_cases hi : i = 0
   ·subst hi
    rw [nth_zero, Int.add_zero]
    refine ⟨st.1, ?_, rfl, fun j j0 j1 => ?_⟩
    ·rw [e2 _ (by omega) (by simp; omega), nth_last rfl]
     exact hc
    ·rw [e2 j j0 (by simp; omega)]
     exact (nth_left j0 j1).symm
   ·obtain ⟨a, a1, a2, a3⟩ := foldO_at xs _ st' h (i - 1) (by omega) (by simp at h1; omega)
    refine ⟨a, ?_, by rw [a2]; simp; omega, a3⟩
    have e : i = (i - 1) + 1 := by omega
    rw [e, nth_succ _ _ (by omega)]
    have e3 : (((st.1 ++ [c] : List (List TColumn.D)).length : Nat) : Int) + (i - 1) = (st.1.length : Int) + (i - 1 + 1) := by simp; omega
    rw [← e3]
    exact a1
theorem four_nth {ahead : List (List TColumn.D)} (ha : ∀ x ∈ ahead, x.length ≤ 4) (i : Int) : (nth (t := .sl TColumn) ahead i : List TColumn.D).length ≤ 4 := by
 unfold nth
 rw [List.getD_eq_getElem?_getD]
 cases he : ahead[i.toNat]? with
 | none => exact Nat.zero_le _
 | some x => exact ha x (List.mem_of_getElem? he)
theorem table_four {tables : List TTable.D} (ht : tablesOk tables = true) (i : Int) : (nth (t := TTable) tables i).1.length ≤ 4 := by
 unfold nth
 rw [List.getD_eq_getElem?_getD]
 cases he : tables[i.toNat]? with
 | none => exact Nat.zero_le _
 | some x =>
  unfold tablesOk at ht
  have := List.all_eq_true.1 (Bool.and_eq_true_iff.1 ht).2 x (List.mem_of_getElem? he)
  unfold tableOk rowsOk columnsOk at this
  simp only [Bool.and_eq_true, decide_eq_true_eq] at this
  exact this.2.1.1
theorem stepCols_four {tables : List TTable.D} {ahead : List (List TColumn.D)} {s : TStep.D} {c : List TColumn.D} (ht : tablesOk tables = true) (ha : ∀ x ∈ ahead, x.length ≤ 4) (h : stepCols tables ahead s = some c) : c.length ≤ 4 := by
 have hn := four_nth ha
 unfold stepCols at h
 obtain ⟨_, h⟩ := cond_some_eq h
 cases h1 : decide (s.1 = (1 : Int)) with
 | true =>
  rw [h1, cond_true] at h
  obtain ⟨_, h⟩ := cond_some_eq h
  cases h
  exact table_four ht _
 | false =>
  rw [h1, cond_false] at h
  obtain ⟨_, h⟩ := cond_some_eq h
  cases h2 : decide (s.1 = (2 : Int)) with
  | true =>
   rw [h2, cond_true] at h
   obtain ⟨_, h⟩ := cond_some_eq h
   cases h
   exact hn _
  | false =>
   rw [h2, cond_false] at h
   cases h3 : decide (s.1 = (3 : Int)) with
   | true =>
    rw [h3, cond_true] at h
    obtain ⟨hb, h⟩ := cond_some_eq h
    cases h
    have := of_decide_eq_true (Bool.and_eq_true_iff.1 hb).2
    rw [List.length_map]
    omega
   | false =>
    rw [h3, cond_false] at h
    cases h4 : decide (s.1 = (4 : Int)) with
    | true =>
     rw [h4, cond_true] at h
     obtain ⟨hb, h⟩ := cond_some_eq h
     cases h
     have := of_decide_eq_true (Bool.and_eq_true_iff.1 hb).1
     omega
    | false =>
     rw [h4, cond_false] at h
     cases h5 : decide (s.1 = (5 : Int)) with
     | true =>
      rw [h5, cond_true] at h
      unfold both at h
      obtain ⟨_, h⟩ := cond_some_eq h
      rw [bothRun_len h]
      exact hn _
     | false =>
      rw [h5, cond_false] at h
      obtain ⟨_, h⟩ := cond_some_eq h
      cases h
      exact hn _
theorem foldO_four {tables : List TTable.D} (ht : tablesOk tables = true) : ∀ (xs : List TStep.D) (st st' : PlanSt), (∀ x ∈ st.1, x.length ≤ 4) → foldO (planStep tables) xs st = some st' → ∀ x ∈ st'.1, x.length ≤ 4
 | [], st, st', ha, h => by cases h; exact ha
 | x :: xs, st, st', ha, h => by
  unfold foldO at h
  cases hp : planStep tables st x with
  | none => rw [hp] at h; cases h
  | some st1 =>
   rw [hp] at h
   obtain ⟨c, hc, _, rfl⟩ := planStep_some hp
   refine foldO_four ht xs _ st' (fun y hy => ?_) h
   rcases List.mem_append.1 hy with hy | hy
   ·exact ha y hy
   ·rw [List.mem_singleton.1 hy]
    exact stepCols_four ht ha hc
theorem cols_where {tables : List TTable.D} {ahead : List (List TColumn.D)} {s : TStep.D} {c : List TColumn.D} (h : stepCols tables ahead s = some c) (h2 : s.1 = (2 : Int)) : exprKind (nth (t := .sl TColumn) ahead s.2.1) s.2.2.2.2.1 = 3 := by
 unfold stepCols at h
 obtain ⟨_, h⟩ := cond_some_eq h
 rw [decide_eq_false (show ¬ s.1 = (1 : Int) by rw [h2]; decide), cond_false] at h
 obtain ⟨_, h⟩ := cond_some_eq h
 rw [decide_eq_true h2, cond_true] at h
 obtain ⟨hb, _⟩ := cond_some_eq h
 exact of_decide_eq_true hb
theorem cols_take {tables : List TTable.D} {ahead : List (List TColumn.D)} {s : TStep.D} {c : List TColumn.D} (h : stepCols tables ahead s = some c) (h2 : s.1 = (3 : Int)) :
  (∀ n ∈ s.2.2.2.2.2.1, inR n 0 (((nth (t := .sl TColumn) ahead s.2.1).length : Int) - 1) = true) ∧ c.length = s.2.2.2.2.2.1.length := by
 unfold stepCols at h
 obtain ⟨_, h⟩ := cond_some_eq h
 rw [decide_eq_false (show ¬ s.1 = (1 : Int) by rw [h2]; decide), cond_false] at h
 obtain ⟨_, h⟩ := cond_some_eq h
 rw [decide_eq_false (show ¬ s.1 = (2 : Int) by rw [h2]; decide), cond_false] at h
 rw [decide_eq_true h2, cond_true] at h
 obtain ⟨hb, h⟩ := cond_some_eq h
 cases h
 exact ⟨fun n hn => List.all_eq_true.1 (Bool.and_eq_true_iff.1 hb).1 n hn, by rw [List.length_map]⟩
theorem cols_join {tables : List TTable.D} {ahead : List (List TColumn.D)} {s : TStep.D} {c : List TColumn.D} (h : stepCols tables ahead s = some c) (h2 : s.1 = (4 : Int)) : ∃ q, exprKind q s.2.2.2.2.1 = 3 := by
 unfold stepCols at h
 obtain ⟨_, h⟩ := cond_some_eq h
 rw [decide_eq_false (show ¬ s.1 = (1 : Int) by rw [h2]; decide), cond_false] at h
 obtain ⟨_, h⟩ := cond_some_eq h
 rw [decide_eq_false (show ¬ s.1 = (2 : Int) by rw [h2]; decide), cond_false] at h
 rw [decide_eq_false (show ¬ s.1 = (3 : Int) by rw [h2]; decide), cond_false] at h
 rw [decide_eq_true h2, cond_true] at h
 obtain ⟨hb, h⟩ := cond_some_eq h
 exact ⟨_, of_decide_eq_true (Bool.and_eq_true_iff.1 hb).2⟩
theorem kind_len {q : List TColumn.D} {e : List TPart.D} (h : exprKind q e = 3) : e.length ≤ 12 := by
 unfold exprKind at h
 cases hc : (columnsOk q && decide (e.length ≤ 12)) with
 | false => rw [hc] at h; simp at h
 | true => exact of_decide_eq_true (Bool.and_eq_true_iff.1 hc).2
theorem depth_cols {w : Nat} : ∀ (e : List TPart.D) (d : Nat), depthOk w e d → colsIn e w
 | [], d, h => fun p hp => by cases hp
 | q :: e, d, h => fun p hp => by
  obtain ⟨_, _, h3, h4⟩ := h
  rcases List.mem_cons.1 hp with rfl | hp
  ·exact h3
  ·exact depth_cols e _ h4 p hp
theorem shift_sm {a m : Int} {s : TStep.D} (h : Sm TStep s) : Sm TStep (shift a m s) := ⟨trivial, trivial, trivial, h.2.2.2⟩
theorem put_sm {plan : List TStep.D} {at_ : Int} {n : List TStep.D} (hp : Sm (.sl TStep) plan) (h6 : plan.length ≤ 6) (hn : Sm (.sl TStep) n) (h3 : n.length ≤ 3) : Sm (.sl TStep) (putSteps plan at_ n) := by
 refine ⟨?_, fun x hx => ?_⟩
 ·show (putSteps plan at_ n).length ≤ 1048576
  unfold putSteps
  have := List.length_take_le at_.toNat plan
  simp only [List.length_append, List.length_map, List.length_drop]
  have h7 : (plan.take at_.toNat).length ≤ 6 := Nat.le_trans (List.length_take_le' _ _) h6
  omega
 ·unfold putSteps at hx
  rcases List.mem_append.1 hx with hx | hx
  ·rcases List.mem_append.1 hx with hx | hx
   ·exact hp.2 x (List.mem_of_mem_take hx)
   ·exact hn.2 x hx
  ·obtain ⟨y, hy, rfl⟩ := List.mem_map.1 hx
   exact shift_sm (hp.2 y (List.mem_of_mem_drop hy))
theorem pick_len {α : Type} {b : Bool} {xs ys : List α} {n : Nat} (h1 : xs.length ≤ n) (h2 : ys.length ≤ n) : (cond b xs ys).length ≤ n := by cases b <;> assumption
theorem new_len (s j : TStep.D) (at_ rule : Int) : (newOf s j at_ rule).length ≤ 3 := by
 unfold newOf
 repeat' (refine pick_len ?_ ?_)
 all_goals simp
end M
end Go.AE
