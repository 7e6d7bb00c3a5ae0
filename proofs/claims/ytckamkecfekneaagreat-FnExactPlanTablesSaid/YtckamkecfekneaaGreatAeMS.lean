/- Sorting of numbers, each once: plain Lean. -/
import Derived.Test.YtckamkecfekneaaGreatAeMQ
namespace Go.AE
open Go Go.RowKit
set_option linter.unusedVariables false
def M.ins : List Int → Int → List Int → List Int
 | [], x, R => x :: R
 | y :: A, x, R => cond (decide (x < y)) (ins A x (y :: R)) (A.reverse ++ y :: x :: R)
def M.isortGo : List Int → List Int → List Int
 | A, [] => A.reverse
 | A, x :: R => isortGo (ins A x []).reverse R
def M.isort (xs : List Int) : List Int := isortGo [] xs
def M.cstep (acc : List Int) (x : Int) : List Int := cond (decide (acc.getLast? = some x)) acc (acc ++ [x])
def M.compact (xs : List Int) : List Int := xs.foldl cstep []
namespace M
theorem ins_app : ∀ (A : List Int) (x : Int) (R : List Int), ins A x R = ins A x [] ++ R
 | [], _, _ => rfl
 | y :: A, x, R => by
  unfold ins
  cases decide (x < y) with
  | true => rw [cond_true, cond_true, ins_app A x (y :: R), ins_app A x [y]]; simp
  | false => rw [cond_false, cond_false]; simp
theorem ins_length : ∀ (A : List Int) (x : Int) (R : List Int), (ins A x R).length = A.length + 1 + R.length
 | [], _, _ => by simp [ins]; omega
 | y :: A, x, R => by
  unfold ins
  cases decide (x < y) with
  | true => rw [cond_true, ins_length A x (y :: R)]; simp; omega
  | false => rw [cond_false]; simp; omega
theorem ins_perm : ∀ (A : List Int) (x : Int) (R : List Int), (ins A x R).Perm (A.reverse ++ x :: R)
 | [], _, _ => .refl _
 | y :: A, x, R => by
  unfold ins
  cases decide (x < y) with
  | true =>
   rw [cond_true]
   refine (ins_perm A x (y :: R)).trans ?_
   simp only [List.reverse_cons, List.append_assoc, List.singleton_append]
   exact (List.Perm.swap y x R).append_left _
  | false => rw [cond_false]; simp
theorem ins_sorted : ∀ (A : List Int) (x : Int) (R : List Int), A.Pairwise (fun a b => b ≤ a) → (x :: R).Pairwise (· ≤ ·) → (∀ a ∈ A, ∀ b ∈ R, a ≤ b) → (ins A x R).Pairwise (· ≤ ·)
 | [], _, _, _, hR, _ => hR
 | y :: A, x, R, hA, hR, hAR => by
  obtain ⟨h1, h2⟩ := List.pairwise_cons.1 hA
  obtain ⟨h3, h4⟩ := List.pairwise_cons.1 hR
  unfold ins
  by_cases hx : x < y
  ·rw [decide_eq_true hx, cond_true]
   refine ins_sorted A x (y :: R) h2 (List.pairwise_cons.2 ⟨fun b hb => ?_, List.pairwise_cons.2 ⟨fun b hb => hAR y (by simp) b hb, h4⟩⟩) (fun a ha b hb => ?_)
   ·rcases List.mem_cons.1 hb with rfl | hb
    ·omega
    ·exact h3 b hb
   ·rcases List.mem_cons.1 hb with rfl | hb
    ·exact h1 a ha
    ·exact hAR a (by simp [ha]) b hb
  ·rw [decide_eq_false hx, cond_false]
   have hyx : y ≤ x := by omega
   refine List.pairwise_append.2 ⟨List.pairwise_reverse.2 h2, List.pairwise_cons.2 ⟨fun b hb => ?_, hR⟩, fun a ha b hb => ?_⟩
   ·rcases List.mem_cons.1 hb with rfl | hb
    ·exact hyx
    ·have := h3 b hb; omega
   ·have h5 := h1 a (List.mem_reverse.1 ha)
    rcases List.mem_cons.1 hb with rfl | hb
    ·exact h5
    ·rcases List.mem_cons.1 hb with rfl | hb
     ·omega
     ·have := h3 b hb; omega
theorem isortGo_perm : ∀ (R A : List Int), (isortGo A R).Perm (A.reverse ++ R)
 | [], A => by simp [isortGo]
 | x :: R, A => by
  unfold isortGo
  refine (isortGo_perm R _).trans ?_
  rw [List.reverse_reverse]
  have := (ins_perm A x []).append_right R
  simpa using this
theorem isortGo_sorted : ∀ (R A : List Int), A.Pairwise (fun a b => b ≤ a) → (isortGo A R).Pairwise (· ≤ ·)
 | [], A, h => by unfold isortGo; exact List.pairwise_reverse.2 h
 | x :: R, A, h => by
  unfold isortGo
  refine isortGo_sorted R _ (List.pairwise_reverse.2 ?_)
  have := ins_sorted A x [] h (List.pairwise_singleton _ _) (fun a _ b hb => by cases hb)
  exact this
theorem isort_perm (xs : List Int) : (isort xs).Perm xs := by have := isortGo_perm xs []; simpa [isort] using this
theorem isort_sorted (xs : List Int) : (isort xs).Pairwise (· ≤ ·) := isortGo_sorted xs [] .nil
theorem isort_length (xs : List Int) : (isort xs).length = xs.length := (isort_perm xs).length_eq
theorem isort_sm {B : Nat} {xs : List Int} (h : SmB B (.sl (.int .i64)) xs) : SmB B (.sl (.int .i64)) (isort xs) := ⟨by show (isort xs).length ≤ B; rw [isort_length]; exact h.1, fun _ _ => trivial⟩
theorem cstep_len (acc : List Int) (x : Int) : (cstep acc x).length ≤ acc.length + 1 ∧ acc.length ≤ (cstep acc x).length ∧ 0 < (cstep acc x).length ∧ (cstep acc x).getLast? = some x := by
 unfold cstep
 by_cases h : acc.getLast? = some x
 ·rw [decide_eq_true h, cond_true]
  refine ⟨by omega, Nat.le_refl _, ?_, h⟩
  cases acc with
  | nil => cases h
  | cons => simp
 ·rw [decide_eq_false h, cond_false]; simp
theorem cfold_len : ∀ (xs acc : List Int), (xs.foldl cstep acc).length ≤ acc.length + xs.length ∧ acc.length ≤ (xs.foldl cstep acc).length
 | [], acc => by simp
 | x :: xs, acc => by
  have h1 := cstep_len acc x
  have h2 := cfold_len xs (cstep acc x)
  simp only [List.foldl_cons, List.length_cons]
  omega
theorem compact_length (xs : List Int) : (compact xs).length ≤ xs.length := by have := (cfold_len xs []).1; simpa [compact] using this
theorem compact_sm {B : Nat} {xs : List Int} (h : SmB B (.sl (.int .i64)) xs) : SmB B (.sl (.int .i64)) (compact xs) := ⟨Nat.le_trans (compact_length xs) h.1, fun _ _ => trivial⟩
theorem compact_snoc (xs : List Int) (x : Int) : compact (xs ++ [x]) = cstep (compact xs) x := by unfold compact; rw [List.foldl_append]; rfl
theorem compact_last {xs : List Int} (h : xs ≠ []) : (compact xs).getLast? = xs.getLast? := by
 obtain ⟨l, x, rfl⟩ : ∃ l x, xs = l ++ [x] := ⟨xs.dropLast, xs.getLast h, (List.dropLast_concat_getLast h).symm⟩
 rw [compact_snoc, (cstep_len _ _).2.2.2]; simp
theorem cfold_mem : ∀ (xs acc : List Int) (y : Int), y ∈ xs.foldl cstep acc ↔ y ∈ acc ∨ y ∈ xs
 | [], acc, y => by simp
 | x :: xs, acc, y => by
  rw [List.foldl_cons, cfold_mem xs _ y]
  have : y ∈ cstep acc x ↔ y ∈ acc ∨ y = x := by
   unfold cstep
   by_cases h : acc.getLast? = some x
   ·rw [decide_eq_true h, cond_true]
    constructor
    ·exact .inl
    ·rintro (h' | rfl)
     ·exact h'
     ·exact List.mem_of_getLast? h
   ·rw [decide_eq_false h, cond_false]; simp
  rw [this]; simp [or_assoc]
theorem compact_mem (xs : List Int) (y : Int) : y ∈ compact xs ↔ y ∈ xs := by unfold compact; rw [cfold_mem]; simp
theorem cfold_strict : ∀ (xs acc : List Int), acc.Pairwise (· < ·) → (∀ a, acc.getLast? = some a → ∀ b ∈ acc, b ≤ a) → (∀ a ∈ acc, ∀ b ∈ xs, a ≤ b) → xs.Pairwise (· ≤ ·) → (xs.foldl cstep acc).Pairwise (· < ·)
 | [], acc, h, _, _, _ => h
 | x :: xs, acc, h, hl, hx, hp => by
  obtain ⟨p1, p2⟩ := List.pairwise_cons.1 hp
  rw [List.foldl_cons]
  by_cases he : acc.getLast? = some x
  ·have e : cstep acc x = acc := by unfold cstep; rw [decide_eq_true he, cond_true]
   rw [e]
   exact cfold_strict xs acc h hl (fun a ha b hb => hx a ha b (by simp [hb])) p2
  ·have e : cstep acc x = acc ++ [x] := by unfold cstep; rw [decide_eq_false he, cond_false]
   have hlt : ∀ a ∈ acc, a < x := by
    intro a ha
    have hne : acc ≠ [] := List.ne_nil_of_mem ha
    have h1 := List.getLast?_eq_some_getLast hne
    have h2 := hl _ h1 a ha
    have h3 := hx _ (List.getLast_mem hne) x (by simp)
    have h4 : acc.getLast hne ≠ x := fun e => he (by rw [h1, e])
    omega
   rw [e]
   refine cfold_strict xs _ (List.pairwise_append.2 ⟨h, List.pairwise_singleton _ _, fun a ha b hb => by rw [List.mem_singleton.1 hb]; exact hlt a ha⟩) (fun a ha b hb => ?_) (fun a ha b hb => ?_) p2
   ·have : a = x := by simpa using ha.symm
    subst this
    rcases List.mem_append.1 hb with hb | hb
    ·exact Int.le_of_lt (hlt b hb)
    ·rw [List.mem_singleton.1 hb]; exact Int.le_refl _
   ·rcases List.mem_append.1 ha with ha | ha
    ·exact hx a ha b (by simp [hb])
    ·rw [List.mem_singleton.1 ha]; exact p1 b hb
theorem compact_strict {xs : List Int} (h : xs.Pairwise (· ≤ ·)) : (compact xs).Pairwise (· < ·) := cfold_strict xs [] .nil (fun a ha => by simp at ha) (fun a ha => by cases ha) h
theorem strict_ext : ∀ {xs ys : List Int}, xs.Pairwise (· < ·) → ys.Pairwise (· < ·) → (∀ z, z ∈ xs ↔ z ∈ ys) → xs = ys
 | [], [], _, _, _ => rfl
 | [], y :: ys, _, _, h => absurd ((h y).2 (by simp)) (by simp)
 | x :: xs, [], _, _, h => absurd ((h x).1 (by simp)) (by simp)
 | x :: xs, y :: ys, hx, hy, h => by
  obtain ⟨x1, x2⟩ := List.pairwise_cons.1 hx
  obtain ⟨y1, y2⟩ := List.pairwise_cons.1 hy
  have e : x = y := by
   have h1 := (h x).1 (by simp)
   have h2 := (h y).2 (by simp)
   rcases List.mem_cons.1 h1 with h1 | h1
   ·exact h1
   rcases List.mem_cons.1 h2 with h2 | h2
   ·exact h2.symm
   have := y1 x h1
   have := x1 y h2
   omega
  subst e
  refine congrArg (x :: ·) (strict_ext x2 y2 fun z => ?_)
  constructor
  ·intro hz
   rcases List.mem_cons.1 ((h z).1 (by simp [hz])) with e | hz'
   ·have := x1 z hz; omega
   ·exact hz'
  ·intro hz
   rcases List.mem_cons.1 ((h z).2 (by simp [hz])) with e | hz'
   ·have := y1 z hz; omega
   ·exact hz'
theorem sorted_is {xs ys : List Int} (hy : ys.Pairwise (· < ·)) (h : ∀ z, z ∈ xs ↔ z ∈ ys) : compact (isort xs) = ys :=
 strict_ext (compact_strict (isort_sorted xs)) hy fun z => by rw [compact_mem, (isort_perm xs).mem_iff]; exact h z
theorem rangeI_strict (a n : Int) : (rangeI a n).Pairwise (· < ·) := by
 unfold rangeI
 rw [List.pairwise_map]
 exact List.Pairwise.imp (fun {x y} (h : x < y) => by omega) List.pairwise_lt_range
end M
end Go.AE
namespace Go.AE
open Go Go.RowKit
namespace M
end M
end Go.AE
