/- Plans: what the code computes is what is said. -/
import Derived.Test.YtckamkecfekneaaGreatAeF
import Derived.Test.YtckamkecfekneaaGreatAeMP
import Derived.Test.YtckamkecfekneaaGreatAeEqI
namespace Go.AE
open Go Go.RowKit
set_option linter.unusedVariables false
set_option linter.unusedSimpArgs false
theorem nth_map_ {t u : Ty} (f : t.D → u.D) (hf : f t.zero = u.zero) (xs : List t.D) (i : Int) : nth (t := u) (xs.map f) i = f (nth (t := t) xs i) := by
 unfold nth
 rw [List.getD_eq_getElem?_getD, List.getD_eq_getElem?_getD, List.getElem?_map]
 cases xs[i.toNat]? with
 | none => exact hf.symm
 | some x => rfl
theorem each_all_map {α β : Type} {f : α → List β → Option (Sum (List β) Unit)} (p : α → Bool) (g : α → β) {xs : List α} (h : ∀ x ∈ xs, ∀ s : List β, s.length < xs.length → f x s = some (cond (p x) (.inl (s ++ [g x])) (.inr ()))) :
  eachD f xs [] = some (cond (xs.all p) (.inl (xs.map g)) (.inr ())) := by
 have key : ∀ (ys zs : List α) (s : List β), xs = zs ++ ys → s.length = zs.length → eachD f ys s = some (cond (ys.all p) (.inl (s ++ ys.map g)) (.inr ())) := by
  intro ys
  induction ys with
  | nil => intro zs s _ _; simp [eachD]
  | cons y ys ih =>
   intro zs s e hs
   rw [eachD_cons, h y (by rw [e]; simp) s (by rw [e, hs]; simp)]
   rw [List.all_cons]
   cases hp : p y with
   | true =>
    rw [cond_true, thenD_inl, ih (zs ++ [y]) (s ++ [g y]) (by rw [e]; simp) (by simp [hs])]
    simp
   | false => rfl
 have := key xs [] [] rfl rfl
 simpa using this
theorem spec_both_run {tables : List TTable.D} {ahead : List (List TColumn.D)} {s : TStep.D} (b0 : 0 ≤ s.2.2.1) (b1 : s.2.2.1 < (ahead.length : Int)) (hb : (nth (t := .sl TColumn) ahead s.2.2.1 : List TColumn.D).length ≤ 1048576) :
  ∀ (n : Nat) (i : Int) (v : List TColumn.D), (v.length : Int) - i = n → 0 ≤ i → v.length = (nth (t := .sl TColumn) ahead s.2.2.1 : List TColumn.D).length →
   whileD (F.spec_l6Columns_l3 tables ahead s) (i, v) = some (match M.bothRun (nth (t := .sl TColumn) ahead s.2.2.1) n i v with | some r => .inl r | none => .inr ())
 | 0, i, v, hn, h0, hl => by
  rw [whileD_step]
  unfold F.spec_l6Columns_l3
  simp only
  rw [decide_eq_false (by omega), cond_false]
  rfl
 | n + 1, i, v, hn, h0, hl => by
  have h1 : i < (v.length : Int) := by omega
  have h2 : i < ((nth (t := .sl TColumn) ahead s.2.2.1 : List TColumn.D).length : Int) := by omega
  rw [whileD_step]
  unfold F.spec_l6Columns_l3 M.bothRun M.bothStep
  simp only
  rw [decide_eq_true h1, cond_true, guardD_pos h0, guardD_pos h1, guardD_pos b0, guardD_pos b1, guardD_pos h2, wrap64_id' (n := i + 1) (by omega) (by omega)]
  cases hk : decide ((nth (t := TColumn) v i).1 = (nth (t := TColumn) (nth (t := .sl TColumn) ahead s.2.2.1) i).1) with
  | false => rfl
  | true =>
   cases he : (nth (t := TColumn) v i).2.1 with
   | false =>
    simp only [Bool.not_true, cond_false, cond_true, letD_eq, thenD_inl, show ((false : Bool) == false) = true from rfl]
    exact spec_both_run (tables := tables) b0 b1 hb n (i + 1) _ (by simp; omega) (by omega) (by simpa using hl)
   | true =>
    simp only [Bool.not_true, cond_false, cond_true, letD_eq, thenD_inl, show ((true : Bool) == false) = false from rfl]
    exact spec_both_run (tables := tables) b0 b1 hb n (i + 1) _ (by simp; omega) (by omega) (by simpa using hl)
theorem impl_both_run {s : TStep.D} {tables : List TTable.D} {ahead : List TMade.D} {c : Int} {N : Nat} (hc : (N : Int) ≤ c) :
  ∀ (n : Nat) (i : Int) (v : List TColumn.D), (N : Int) - i = n → 0 ≤ i →
   eachD (F.impl_Step_make_l3 s tables ahead c) (rangeI i (N : Int)) v = some (match M.bothRun (nth (t := TMade) ahead s.2.2.1).1 n i v with | some r => .inl r | none => .inr ())
 | 0, i, v, hn, h0 => by
  rw [rangeI_nil (by omega)]
  rfl
 | n + 1, i, v, hn, h0 => by
  rw [rangeI_cons (by omega), eachD_cons]
  unfold F.impl_Step_make_l3 M.bothRun M.bothStep
  rw [guardD_pos (by omega), show decide ((nth (t := TColumn) (nth (t := TMade) ahead s.2.2.1).1 i).1 = (nth (t := TColumn) v i).1) = decide ((nth (t := TColumn) v i).1 = (nth (t := TColumn) (nth (t := TMade) ahead s.2.2.1).1 i).1) from decide_eq_decide.2 eq_comm]
  cases hk : decide ((nth (t := TColumn) v i).1 = (nth (t := TColumn) (nth (t := TMade) ahead s.2.2.1).1 i).1) with
  | false => rfl
  | true =>
   cases he : (nth (t := TColumn) v i).2.1 with
   | false =>
    simp only [Bool.not_true, cond_false, cond_true, letD_eq, thenD_inl, show ((false : Bool) == false) = true from rfl]
    exact impl_both_run (tables := tables) hc n (i + 1) _ (by omega) (by omega)
   | true =>
    simp only [Bool.not_true, cond_false, cond_true, letD_eq, thenD_inl, show ((true : Bool) == false) = false from rfl]
    exact impl_both_run (tables := tables) hc n (i + 1) _ (by omega) (by omega)
theorem spec_l6_is {tables : List TTable.D} {ahead : List (List TColumn.D)} {s : TStep.D} (ht : Sm (.sl TTable) tables) (ha : Sm (.sl (.sl TColumn)) ahead) (hs : Sm TStep s) :
  ∃ r, F.spec_l6Columns tables ahead s = some r ∧ cond r.2 (some r.1) none = M.stepCols tables ahead s := by
 have sa : Sm (.sl TColumn) (nth (t := .sl TColumn) ahead s.2.1) := sm_nth ha _
 have sb : Sm (.sl TColumn) (nth (t := .sl TColumn) ahead s.2.2.1) := sm_nth ha _
 have la := sa.1
 have lb := sb.1
 have hL : s.2.2.2.2.2.1.length ≤ 1048576 := hs.2.2.2.2.2.1.1
 unfold F.spec_l6Columns M.stepCols
 simp only [List.nil_append, wrap_pred _ ht.1, wrap_pred _ ha.1]
 cases M.fieldsOk s
 ·exact ⟨([], false), rfl, rfl⟩
 simp only [Bool.not_true, cond_true, cond_false]
 cases decide (s.1 = (1 : Int))
 case true =>
  simp only [cond_true]
  cases M.inR s.2.2.2.1 0 ((tables.length : Int) - 1)
  ·exact ⟨([], false), rfl, rfl⟩
  ·exact ⟨(_, true), rfl, rfl⟩
 simp only [cond_false]
 cases hA : M.inR s.2.1 0 ((ahead.length : Int) - 1)
 ·exact ⟨([], false), rfl, rfl⟩
 cases hB : M.inR s.2.2.1 0 ((ahead.length : Int) - 1)
 ·exact ⟨([], false), rfl, rfl⟩
 have b0 := M.inR_lo hB
 have b1 := Int.lt_of_le_sub_one (M.inR_hi' hB)
 simp only [Bool.not_true, cond_true, cond_false, Bool.and_true, show ((false : Bool) == false) = true from rfl]
 cases decide (s.1 = (2 : Int))
 case true =>
  simp only [cond_true]
  exact ⟨_, guardD_pos sa, rfl⟩
 simp only [cond_false]
 cases decide (s.1 = (3 : Int))
 case true =>
  simp only [cond_true]
  rw [each_all_map (fun n => M.inR n 0 (((nth (t := .sl TColumn) ahead s.2.1 : List TColumn.D).length : Int) - 1)) (fun n => nth (t := TColumn) (nth (t := .sl TColumn) ahead s.2.1) n) (fun x hx v hv => by
   unfold F.spec_l6Columns_l1
   simp only [List.nil_append, wrap_pred _ la]
   rw [guardD_pos (by unfold lim; simp; omega)]
   cases M.inR x 0 (((nth (t := .sl TColumn) ahead s.2.1 : List TColumn.D).length : Int) - 1) <;> rfl)]
  cases s.2.2.2.2.2.1.all fun n => M.inR n 0 (((nth (t := .sl TColumn) ahead s.2.1 : List TColumn.D).length : Int) - 1)
  ·exact ⟨([], false), rfl, rfl⟩
  ·refine ⟨_, rfl, ?_⟩
   simp only [List.length_map, Bool.true_and]
 simp only [cond_false]
 cases decide (s.1 = (4 : Int))
 case true =>
  simp only [cond_true]
  rw [guardD_pos (by unfold lim; omega)]
  by_cases hl : ((nth (t := .sl TColumn) ahead s.2.1 ++ nth (t := .sl TColumn) ahead s.2.2.1 : List TColumn.D).length : Int) ≤ 4
  ·rw [decide_eq_true hl]
   simp only [cond_true, Bool.true_and, show ((true : Bool) == true) = true from rfl]
   exact ⟨_, guardD_pos (M.col_sm (by omega)), rfl⟩
  ·rw [decide_eq_false hl]
   exact ⟨(_, false), rfl, rfl⟩
 simp only [cond_false]
 cases decide (s.1 = (5 : Int))
 case true =>
  simp only [cond_true]
  unfold M.both
  by_cases hl : (nth (t := .sl TColumn) ahead s.2.1 : List TColumn.D).length = (nth (t := .sl TColumn) ahead s.2.2.1 : List TColumn.D).length
  ·rw [decide_eq_true hl, decide_eq_true (by omega : ((nth (t := .sl TColumn) ahead s.2.1 : List TColumn.D).length : Int) = ((nth (t := .sl TColumn) ahead s.2.2.1 : List TColumn.D).length : Int))]
   simp only [Bool.not_true, cond_true, cond_false]
   rw [spec_both_run b0 b1 lb (nth (t := .sl TColumn) ahead s.2.1 : List TColumn.D).length 0 _ (by omega) (by omega) hl]
   cases M.bothRun (nth (t := .sl TColumn) ahead s.2.2.1) (nth (t := .sl TColumn) ahead s.2.1 : List TColumn.D).length 0 (nth (t := .sl TColumn) ahead s.2.1) with
   | none => exact ⟨([], false), rfl, rfl⟩
   | some r => exact ⟨(r, true), rfl, rfl⟩
  ·rw [decide_eq_false hl, decide_eq_false (by omega : ¬ ((nth (t := .sl TColumn) ahead s.2.1 : List TColumn.D).length : Int) = ((nth (t := .sl TColumn) ahead s.2.2.1 : List TColumn.D).length : Int))]
   exact ⟨([], false), rfl, rfl⟩
 simp only [cond_false]
 cases decide (s.1 = (6 : Int))
 ·exact ⟨([], false), rfl, rfl⟩
 ·exact ⟨(_, true), rfl, rfl⟩
theorem l6_is {tables : List TTable.D} {ahead : List (List TColumn.D)} {s : TStep.D} (ht : Sm (.sl TTable) tables) (ha : Sm (.sl (.sl TColumn)) ahead) (hs : Sm TStep s) :
  cond (M.l6Columns tables ahead s).2 (some (M.l6Columns tables ahead s).1) none = M.stepCols tables ahead s := by
 obtain ⟨r, h1, h2⟩ := spec_l6_is ht ha hs
 unfold M.l6Columns
 rw [h1]
 exact h2
theorem impl_make_is {s : TStep.D} {tables : List TTable.D} {ahead : List TMade.D} (hs : Sm TStep s) (ht : Sm (.sl TTable) tables) (ha : Sm (.sl TMade) ahead) :
  ∃ r, F.impl_Step_make s tables ahead = some r ∧ cond r.2 (some r.1) none = (M.stepCols tables (ahead.map fun m : TMade.D => (m.1 : List TColumn.D)) s).map fun c => ((c, M.stepMost (ahead.map fun m : TMade.D => (m.2.1 : Int)) s, ()) : TMade.D) := by
 have ea : ∀ i, (nth (t := .sl TColumn) (ahead.map fun m : TMade.D => (m.1 : List TColumn.D)) i : List TColumn.D) = (nth (t := TMade) ahead i).1 := fun i => nth_map_ (t := TMade) (u := .sl TColumn) (fun m => m.1) rfl ahead i
 have em : ∀ i, nth (t := .int .i64) (ahead.map fun m : TMade.D => (m.2.1 : Int)) i = (nth (t := TMade) ahead i).2.1 := fun i => nth_map_ (t := TMade) (u := .int .i64) (fun m => m.2.1) rfl ahead i
 have sa : Sm (.sl TColumn) (nth (t := TMade) ahead s.2.1).1 := (sm_nth ha _).1
 have sb : Sm (.sl TColumn) (nth (t := TMade) ahead s.2.2.1).1 := (sm_nth ha _).1
 have la := sa.1
 have lb := sb.1
 have hL : s.2.2.2.2.2.1.length ≤ 1048576 := hs.2.2.2.2.2.1.1
 unfold F.impl_Step_make M.stepCols M.stepMost
 simp only [ea, em, List.length_map, wrap_pred _ ht.1, wrap_pred _ ha.1]
 cases M.fieldsOk s
 ·exact ⟨(_, false), rfl, rfl⟩
 simp only [Bool.not_true, cond_true, cond_false, show ((false : Bool) == false) = true from rfl]
 cases hk : M.inR s.1 1 6
 ·have hk' : ∀ k : Int, 1 ≤ k → k ≤ 6 → decide (s.1 = k) = false := by
   intro k k1 k2
   unfold M.inR at hk
   apply decide_eq_false
   intro e
   rw [e] at hk
   simp [k1, k2] at hk
  simp only [Bool.not_false, cond_true, cond_false, hk' 1 (by decide) (by decide), hk' 2 (by decide) (by decide), hk' 3 (by decide) (by decide), hk' 4 (by decide) (by decide), hk' 5 (by decide) (by decide), hk' 6 (by decide) (by decide)]
  refine ⟨(_, false), rfl, ?_⟩
  cases (M.inR s.2.1 0 ((ahead.length : Int) - 1) && M.inR s.2.2.1 0 ((ahead.length : Int) - 1)) <;> rfl
 simp only [Bool.not_true, cond_false]
 cases h1 : decide (s.1 = (1 : Int))
 case true =>
  simp only [cond_true]
  cases M.inR s.2.2.2.1 0 ((tables.length : Int) - 1)
  ·exact ⟨(_, false), rfl, rfl⟩
  ·exact ⟨(_, true), rfl, rfl⟩
 simp only [cond_false]
 cases hA : M.inR s.2.1 0 ((ahead.length : Int) - 1)
 ·exact ⟨(_, false), rfl, rfl⟩
 cases hB : M.inR s.2.2.1 0 ((ahead.length : Int) - 1)
 ·exact ⟨(_, false), rfl, rfl⟩
 simp only [Bool.not_true, cond_true, cond_false, Bool.and_true, show ((false : Bool) == false) = true from rfl]
 by_cases h2 : s.1 = (2 : Int)
 ·simp only [h2, decide_true, cond_true, Int.reduceEq, decide_false, cond_false]
  refine ⟨_, rfl, ?_⟩
  cases decide (M.exprKind (nth (t := TMade) ahead s.2.1).1 s.2.2.2.2.1 = 3) <;> rfl
 by_cases h3 : s.1 = (3 : Int)
 ·simp only [h3, decide_true, cond_true, Int.reduceEq, decide_false, cond_false]
  rw [each_all_map (fun n => M.inR n 0 (((nth (t := TMade) ahead s.2.1).1.length : Int) - 1)) (fun n => nth (t := TColumn) (nth (t := TMade) ahead s.2.1).1 n) (fun x hx v hv => by
   unfold F.impl_Step_make_l1
   simp only [wrap_pred _ la]
   rw [guardD_pos (by unfold lim; simp; omega)]
   cases M.inR x 0 (((nth (t := TMade) ahead s.2.1).1.length : Int) - 1) <;> rfl)]
  cases s.2.2.2.2.2.1.all fun n => M.inR n 0 (((nth (t := TMade) ahead s.2.1).1.length : Int) - 1)
  ·exact ⟨(_, false), rfl, rfl⟩
  ·refine ⟨_, rfl, ?_⟩
   simp only [Bool.true_and]
   cases decide ((s.2.2.2.2.2.1.length : Int) ≤ 4) <;> rfl
 by_cases h4 : s.1 = (4 : Int)
 ·simp only [h4, decide_true, cond_true, Int.reduceEq, decide_false, cond_false, List.flatten_cons, List.flatten_nil, List.append_nil, letD_eq]
  rw [guardD_pos (show Sm (.sl (.sl TColumn)) [(nth (t := TMade) ahead s.2.1).1, (nth (t := TMade) ahead s.2.2.1).1] from ⟨by simp, fun x hx => by
   rcases List.mem_cons.1 hx with rfl | hx
   ·exact sa
   ·cases List.mem_singleton.1 hx
    exact sb⟩)]
  by_cases hl : (((nth (t := TMade) ahead s.2.1).1 ++ (nth (t := TMade) ahead s.2.2.1).1 : List TColumn.D).length : Int) ≤ 4
  ·rw [decide_eq_true hl]
   simp only [cond_true, Bool.true_and, show ((true : Bool) == true) = true from rfl]
   refine ⟨_, guardD_pos (M.col_sm (by omega)), ?_⟩
   cases decide (M.exprKind ((nth (t := TMade) ahead s.2.1).1 ++ (nth (t := TMade) ahead s.2.2.1).1 : List TColumn.D) s.2.2.2.2.1 = 3) <;> rfl
  ·rw [decide_eq_false hl]
   exact ⟨(_, false), rfl, rfl⟩
 by_cases h5 : s.1 = (5 : Int)
 ·simp only [h5, decide_true, cond_true, Int.reduceEq, decide_false, cond_false, letD_eq]
  unfold M.both
  by_cases hl : (nth (t := TMade) ahead s.2.1).1.length = (nth (t := TMade) ahead s.2.2.1).1.length
  ·rw [decide_eq_true hl, decide_eq_true (by omega : ((nth (t := TMade) ahead s.2.1).1.length : Int) = ((nth (t := TMade) ahead s.2.2.1).1.length : Int))]
   simp only [Bool.not_true, cond_true, cond_false]
   rw [impl_both_run (by omega) (nth (t := TMade) ahead s.2.1).1.length 0 _ (by omega) (by omega)]
   cases hr : M.bothRun (nth (t := TMade) ahead s.2.2.1).1 (nth (t := TMade) ahead s.2.1).1.length 0 (nth (t := TMade) ahead s.2.1).1 with
   | none => exact ⟨(_, false), rfl, rfl⟩
   | some r =>
    refine ⟨(_, true), rfl, ?_⟩
    have := M.bothRun_len hr
    rw [← this, M.cut_all]
    rfl
  ·rw [decide_eq_false hl, decide_eq_false (by omega : ¬ ((nth (t := TMade) ahead s.2.1).1.length : Int) = ((nth (t := TMade) ahead s.2.2.1).1.length : Int))]
   exact ⟨(_, false), rfl, rfl⟩
 have key : ∀ k : Int, M.inR k 1 6 = true → ¬ k = 1 → ¬ k = 2 → ¬ k = 3 → ¬ k = 4 → ¬ k = 5 → k = 6 := by
  intro k hk _ _ _ _ _
  unfold M.inR at hk
  simp at hk
  omega
 have h6 : s.1 = (6 : Int) := key s.1 hk (of_decide_eq_false h1) h2 h3 h4 h5
 simp only [h6, decide_true, cond_true, Int.reduceEq, decide_false, cond_false]
 exact ⟨(_, true), rfl, rfl⟩
theorem make_is {s : TStep.D} {tables : List TTable.D} {ahead : List TMade.D} (hs : Sm TStep s) (ht : Sm (.sl TTable) tables) (ha : Sm (.sl TMade) ahead) :
  cond (M.make s tables ahead).2 (some (M.make s tables ahead).1) none = (M.stepCols tables (ahead.map fun m : TMade.D => (m.1 : List TColumn.D)) s).map fun c => ((c, M.stepMost (ahead.map fun m : TMade.D => (m.2.1 : Int)) s, ()) : TMade.D) := by
 obtain ⟨r, h1, h2⟩ := impl_make_is hs ht ha
 unfold M.make
 rw [h1]
 exact h2
theorem impl_makes_is {tables : List TTable.D} {plan : List TStep.D} (ht : Sm (.sl TTable) tables) (hp : Sm (.sl TStep) plan) :
  ∃ r, F.impl_makes tables plan = some r ∧ r.2 = M.planOk tables plan ∧ Sm (.sl TMade) r.1 := by
 obtain ⟨o, h1, h2⟩ := M.each_rel (f := F.impl_makes_l0 tables plan) (M.planStep tables) (fun t : List TMade.D => ((t.map fun m : TMade.D => (m.1 : List TColumn.D), t.map fun m : TMade.D => (m.2.1 : Int)) : PlanSt))
  (fun n t => t.length = n ∧ ∀ m ∈ t, m.1.length ≤ 1048576) plan 0 [] ⟨rfl, fun x h => by cases h⟩ (fun x hx n t _ hn hI => by
  obtain ⟨hl, hm⟩ := hI
  have hpl := hp.1
  have hsm : Sm (.sl TMade) t := ⟨by omega, fun m h => ⟨M.col_sm (hm m h), trivial, trivial⟩⟩
  have hmk := make_is (hp.2 x hx) ht hsm
  have hx' : ∀ y ∈ (t.map fun m : TMade.D => (m.1 : List TColumn.D)), y.length ≤ 1048576 := by
   intro y hy
   obtain ⟨m, h, rfl⟩ := List.mem_map.1 hy
   exact hm m h
  unfold F.impl_makes_l0 M.planStep
  rw [guardD_pos hsm, letD_eq]
  cases hc : M.stepCols tables (t.map fun m : TMade.D => (m.1 : List TColumn.D)) x with
  | none =>
   rw [hc] at hmk
   cases hb : (M.make x tables t).2 with
   | false => exact ⟨.inr (), rfl, rfl⟩
   | true => rw [hb] at hmk; cases hmk
  | some c =>
   rw [hc] at hmk
   cases hb : (M.make x tables t).2 with
   | false => rw [hb] at hmk; cases hmk
   | true =>
    rw [hb, cond_true] at hmk
    have e : (M.make x tables t).1 = (c, M.stepMost (t.map fun m : TMade.D => (m.2.1 : Int)) x, ()) := Option.some.inj hmk
    rw [e]
    simp only [Bool.not_true, cond_true, show ((false : Bool) == false) = true from rfl]
    cases hd : decide ((300 : Int) < M.stepMost (t.map fun m : TMade.D => (m.2.1 : Int)) x) with
    | true => exact ⟨.inr (), rfl, rfl⟩
    | false =>
     simp only [cond_false]
     refine ⟨_, guardD_pos (by unfold lim; simp; omega), ?_, by simp [hl], fun m h => ?_⟩
     ·simp [hc, hd]
     ·rcases List.mem_append.1 h with h | h
      ·exact hm m h
      ·cases List.mem_singleton.1 h
       exact M.stepCols_sm ht hx' hc)
 unfold F.impl_makes M.planOk M.planAll M.planRun
 have h0 : Sm (.sl TMade) ([] : List TMade.D) := ⟨Nat.zero_le _, fun _ h => by cases h⟩
 have hpl := hp.1
 cases M.tablesOk tables
 ·exact ⟨_, rfl, by simp, h0⟩
 cases M.inR (plan.length : Int) 1 6
 ·exact ⟨_, rfl, by simp, h0⟩
 simp only [Bool.not_true, cond_true, cond_false, show ((false : Bool) == false) = true from rfl]
 rw [h1]
 match o with
 | .inl st =>
  simp only at h2
  refine ⟨_, rfl, ?_, ?_⟩
  ·have h3 := h2.1
   simp only [List.map_nil] at h3
   rw [h3]
   rfl
  ·obtain ⟨h4, h5⟩ := h2.2
   exact ⟨show st.length ≤ 1048576 by omega, fun m h => ⟨M.col_sm (h5 m h), trivial, trivial⟩⟩
 | .inr _ =>
  simp only [List.map_nil] at h2
  refine ⟨_, rfl, ?_, h0⟩
  rw [h2]
  rfl
theorem makes_ok {tables : List TTable.D} {plan : List TStep.D} (ht : Sm (.sl TTable) tables) (hp : Sm (.sl TStep) plan) : (M.makes tables plan).2 = M.planOk tables plan := by
 obtain ⟨r, h1, h2, _⟩ := impl_makes_is ht hp
 unfold M.makes
 rw [h1]
 exact h2
theorem makes_sm {tables : List TTable.D} {plan : List TStep.D} (ht : Sm (.sl TTable) tables) (hp : Sm (.sl TStep) plan) : Sm (.sl TMade) (M.makes tables plan).1 := by
 obtain ⟨r, h1, _, h2⟩ := impl_makes_is ht hp
 unfold M.makes
 rw [h1]
 exact h2
theorem M.concat_eq_ {t : Ty} {xss : List (List t.D)} (h : Sm (.sl (.sl t)) xss) {f : List t.D → Int → Option (Sum Int Unit)} {f2 : List t.D → List t.D → Option (Sum (List t.D) Unit)}
  (hf : ∀ z v, 0 ≤ v → v + (z.length : Int) ≤ 1099511627776 → f z v = some (.inl (v + (z.length : Int)))) (hf2 : ∀ z v, v.length + z.length ≤ 1099511627776 → f2 z v = some (.inl (v ++ z))) :
  thenD (eachD f xss (0 : Int)) (fun v : Int => guardD (0 ≤ v) (guardD (v ≤ 1099511627776) (letD ([] : List t.D) (fun r : List t.D => thenD (eachD f2 xss r) (fun v2 : List t.D => some v2) (fun _ : Unit => none))))) (fun _ : Unit => none) = some xss.flatten := by
 have hlen : xss.flatten.length ≤ 1099511627776 := by
  have h1 := M.concat_len (xss := xss) (n := 1048576) (fun x hx => (h.2 x hx).1)
  have h2 := h.1
  have : xss.length * 1048576 ≤ 1048576 * 1048576 := Nat.mul_le_mul_right _ h2
  omega
 have k1 : ∀ (ys : List (List t.D)) (v : Int), 0 ≤ v → v + (ys.flatten.length : Int) ≤ 1099511627776 → eachD f ys v = some (.inl (v + (ys.flatten.length : Int))) := by
  intro ys
  induction ys with
  | nil => intro v _ _; show some (Sum.inl v) = some (Sum.inl (v + 0)); rw [Int.add_zero]
  | cons y ys ih =>
   intro v h0 hb
   rw [List.flatten_cons, List.length_append] at hb
   rw [eachD_cons, hf y v h0 (by omega), thenD_inl, ih _ (by omega) (by omega), List.flatten_cons, List.length_append]
   congr 2
   omega
 have k2 : ∀ (ys : List (List t.D)) (v : List t.D), v.length + ys.flatten.length ≤ 1099511627776 → eachD f2 ys v = some (.inl (v ++ ys.flatten)) := by
  intro ys
  induction ys with
  | nil => intro v _; simp [eachD]
  | cons y ys ih =>
   intro v hb
   rw [List.flatten_cons, List.length_append] at hb
   rw [eachD_cons, hf2 y v (by omega), thenD_inl, ih _ (by rw [List.length_append]; omega), List.flatten_cons, List.append_assoc]
 rw [k1 xss 0 (by omega) (by omega), thenD_inl, guardD_pos (by omega), guardD_pos (by omega), letD_eq, k2 xss [] (by simpa using hlen)]
 simp
end Go.AE
