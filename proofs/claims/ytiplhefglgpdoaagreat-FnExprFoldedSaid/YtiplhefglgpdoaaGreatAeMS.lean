/- Sorting of numbers, each once: plain Lean. -/
import Derived.Test.YtiplhefglgpdoaaGreatAeMQ
namespace Go.AE
open Go Go.RowKit
set_option linter.unusedVariables false
def M.ins : List Int → Int → List Int → List Int
 | [], x, R => x :: R
 | y :: A, x, R => cond (decide (x < y)) (ins A x (y :: R)) (A.reverse ++ y :: x :: R)
def M.isortGo : List Int → List Int → List Int
 | A, [] => A.reverse
 | A, x :: R => isortGo (ins A x []).reverse R
def M.isort (xs : List Int) : List Int := isortGo [] xs
def M.cstep (acc : List Int) (x : Int) : List Int := cond (decide (acc.getLast? = some x)) acc (acc ++ [x])
def M.compact (xs : List Int) : List Int := xs.foldl cstep []
def M.exprCols (e : List TPart.D) : List Int := compact (isort ((e.filter fun p => decide (p.1 = (2 : Int))).map fun p => p.2.1))
def M.exprColumns (columns : List TColumn.D) (e : List TPart.D) : List Int :=
 cond (decide (0 ≤ exprKind columns e)) ((rangeI 0 (columns.length : Int)).filter fun k => e.any fun p => decide (p.1 = (2 : Int)) && decide (p.2.1 = k)) []
def M.exprFolded (columns : List TColumn.D) (e : List TPart.D) : List TPart.D :=
 cond (decide (exprKind columns e < 0)) [] (cond (decide (((e.filter fun p => decide (p.1 = (2 : Int))).length : Int) = 0)) (cond (!decide ((exprValue [] e).1 = (0 : Int))) [((1 : Int), ((0 : Int), (exprValue [] e, ())))] e) e)
namespace M
theorem ins_app : ∀ (A : List Int) (x : Int) (R : List Int), ins A x R = ins A x [] ++ R
 | [], _, _ => rfl
 | y :: A, x, R => by
  unfold ins
  cases decide (x < y) with
  | true => rw [cond_true, cond_true, ins_app A x (y :: R), ins_app A x [y]]; simp
  | false => rw [cond_false, cond_false]; simp
theorem ins_length : ∀ (A : List Int) (x : Int) (R : List Int), (ins A x R).length = A.length + 1 + R.length
 | [], _, _ => by simp [ins]; omega
 | y :: A, x, R => by
  unfold ins
  cases decide (x < y) with
  | true => rw [cond_true, ins_length A x (y :: R)]; simp; omega
  | false => rw [cond_false]; simp; omega
theorem ins_perm : ∀ (A : List Int) (x : Int) (R : List Int), (ins A x R).Perm (A.reverse ++ x :: R)
 | [], _, _ => .refl _
 | y :: A, x, R => by
  unfold ins
  cases decide (x < y) with
  | true =>
   rw [cond_true]
   refine (ins_perm A x (y :: R)).trans ?_
   simp only [List.reverse_cons, List.append_assoc, List.singleton_append]
   exact (List.Perm.swap y x R).append_left _
  | false => rw [cond_false]; simp
theorem isortGo_perm : ∀ (R A : List Int), (isortGo A R).Perm (A.reverse ++ R)
 | [], A => by simp [isortGo]
 | x :: R, A => by
  unfold isortGo
  refine (isortGo_perm R _).trans ?_
  rw [List.reverse_reverse]
  have := (ins_perm A x []).append_right R
  simpa using this
theorem isort_perm (xs : List Int) : (isort xs).Perm xs := by have := isortGo_perm xs []; simpa [isort] using this
theorem isort_length (xs : List Int) : (isort xs).length = xs.length := (isort_perm xs).length_eq
theorem isort_sm {B : Nat} {xs : List Int} (h : SmB B (.sl (.int .i64)) xs) : SmB B (.sl (.int .i64)) (isort xs) := ⟨by show (isort xs).length ≤ B; rw [isort_length]; exact h.1, fun _ _ => trivial⟩
theorem cstep_len (acc : List Int) (x : Int) : (cstep acc x).length ≤ acc.length + 1 ∧ acc.length ≤ (cstep acc x).length ∧ 0 < (cstep acc x).length ∧ (cstep acc x).getLast? = some x := by
 unfold cstep
 by_cases h : acc.getLast? = some x
 ·rw [decide_eq_true h, cond_true]
  refine ⟨by omega, Nat.le_refl _, ?_, h⟩
  cases acc with
  | nil => cases h
  | cons => simp
 ·rw [decide_eq_false h, cond_false]; simp
theorem cfold_len : ∀ (xs acc : List Int), (xs.foldl cstep acc).length ≤ acc.length + xs.length ∧ acc.length ≤ (xs.foldl cstep acc).length
 | [], acc => by simp
 | x :: xs, acc => by
  have h1 := cstep_len acc x
  have h2 := cfold_len xs (cstep acc x)
  simp only [List.foldl_cons, List.length_cons]
  omega
theorem compact_length (xs : List Int) : (compact xs).length ≤ xs.length := by have := (cfold_len xs []).1; simpa [compact] using this
theorem compact_sm {B : Nat} {xs : List Int} (h : SmB B (.sl (.int .i64)) xs) : SmB B (.sl (.int .i64)) (compact xs) := ⟨Nat.le_trans (compact_length xs) h.1, fun _ _ => trivial⟩
theorem compact_nil {xs : List Int} : (compact xs).length = 0 ↔ xs.length = 0 := by
 cases xs with
 | nil => simp [compact]
 | cons x xs =>
  have h1 := (cfold_len xs (cstep [] x)).2
  have h2 := (cstep_len [] x).2.2.1
  simp only [compact, List.foldl_cons, List.length_cons]
  omega
theorem compact_snoc (xs : List Int) (x : Int) : compact (xs ++ [x]) = cstep (compact xs) x := by unfold compact; rw [List.foldl_append]; rfl
theorem compact_last {xs : List Int} (h : xs ≠ []) : (compact xs).getLast? = xs.getLast? := by
 obtain ⟨l, x, rfl⟩ : ∃ l x, xs = l ++ [x] := ⟨xs.dropLast, xs.getLast h, (List.dropLast_concat_getLast h).symm⟩
 rw [compact_snoc, (cstep_len _ _).2.2.2]; simp
end M
end Go.AE
namespace Go.AE
open Go Go.RowKit
namespace M
theorem depth_colsI {w : Nat} : ∀ {e : List TPart.D} {d : Nat}, depthOk w e d → ∀ p ∈ e, colIn p w
 | p :: e, d, h, q, hq => by
  obtain ⟨_, _, h3, h4⟩ := h
  rcases List.mem_cons.1 hq with rfl | hq
  ·exact h3
  ·exact depth_colsI h4 q hq
theorem depth_none {w : Nat} : ∀ {e : List TPart.D} {d : Nat}, depthOk w e d → (∀ p ∈ e, ¬ p.1 = (2 : Int)) → depthOk 0 e d
 | [], _, h, _ => h
 | p :: e, d, h, hn => by
  obtain ⟨h1, h2, _, h4⟩ := h
  exact ⟨h1, h2, fun h => absurd h (hn p (by simp)), depth_none h4 fun q hq => hn q (by simp [hq])⟩
theorem safe_none {w : Nat} {e : List TPart.D} (h : exprSafe w e) (hn : (e.filter fun p => decide (p.1 = (2 : Int))).length = 0) : exprSafe 0 e := by
 refine ⟨h.1, depth_none h.2 fun p hp he => ?_⟩
 have h0 := List.length_eq_zero_iff.1 hn
 have : p ∈ e.filter fun p => decide (p.1 = (2 : Int)) := List.mem_filter.2 ⟨hp, decide_eq_true he⟩
 rw [h0] at this
 cases this
theorem cols_none (e : List TPart.D) : (exprCols e).length = 0 ↔ (e.filter fun p => decide (p.1 = (2 : Int))).length = 0 := by
 unfold exprCols
 rw [compact_nil, isort_length, List.length_map]
theorem columns_none {columns : List TColumn.D} {e : List TPart.D} (hk : 0 ≤ exprKind columns e) (hs : exprSafe columns.length e) : (exprColumns columns e).length = 0 ↔ (e.filter fun p => decide (p.1 = (2 : Int))).length = 0 := by
 unfold exprColumns
 rw [decide_eq_true hk, cond_true, List.length_eq_zero_iff, List.length_eq_zero_iff, List.filter_eq_nil_iff, List.filter_eq_nil_iff]
 constructor
 ·intro h p hp he
  have he := of_decide_eq_true he
  obtain ⟨c0, c1⟩ := depth_colsI hs.2 p hp he
  exact h p.2.1 (mem_rangeI.2 ⟨c0, c1⟩) (List.any_eq_true.2 ⟨p, hp, by simp [he]⟩)
 ·intro h k _ ha
  obtain ⟨p, hp, hq⟩ := List.any_eq_true.1 ha
  simp only [Bool.and_eq_true] at hq
  exact h p hp hq.1
theorem folded_sm {columns : List TColumn.D} {e : List TPart.D} (he : Sm (.sl TPart) e) (hv : Sm TValue (exprValue [] e)) : Sm (.sl TPart) (exprFolded columns e) := by
 unfold exprFolded
 refine sm_cond (sm_nil _) (sm_cond (sm_cond ?_ he) he)
 exact ⟨by show (1 : Nat) ≤ 1048576; decide, fun p hp => by rw [List.mem_singleton.1 hp]; exact ⟨trivial, trivial, hv, trivial⟩⟩
end M
end Go.AE
