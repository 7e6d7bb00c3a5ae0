/- Sorting of few numbers, each once: what the code computes. -/
import Derived.Test.YtiplhefglgpdoaaGreatAeF
import Derived.Test.YtiplhefglgpdoaaGreatAeMS
import Derived.Test.YtiplhefglgpdoaaGreatAeEqH
namespace Go.AE
open Go Go.RowKit
set_option linter.unusedVariables false
set_option linter.unusedSimpArgs false
theorem nth_at {A R : List Int} {x : Int} {i : Int} (h : i = (A.length : Int)) : nth (t := .int .i64) (A ++ x :: R) i = x := by
 subst h
 unfold nth
 rw [List.getD_eq_getElem?_getD]
 simp
theorem set_at {A R : List Int} {x y : Int} {n : Nat} (h : n = A.length) : (A ++ x :: R).set n y = A ++ y :: R := by
 subst h
 simp
theorem ins_run {xs : List Int} (hs : xs.length ≤ 1048576) (b c : Int) : ∀ (A : List Int) (x : Int) (R : List Int) (j : Int), j = (A.length : Int) → A.length + 1 + R.length = xs.length →
  whileD (F.slices_insertionSort_l2 xs 0 b c) (j, A.reverse ++ x :: R) = some (M.ins A x R)
 | [], x, R, j, hj, _ => by
  subst hj
  rw [whileD_step]
  unfold F.slices_insertionSort_l2
  simp only [List.length_nil]
  rfl
 | y :: A, x, R, j, hj, hl => by
  subst hj
  simp only [List.length_cons] at hl
  have hw : wrap64 (((y :: A).length : Int) - (1 : Int)) = (A.length : Int) := by
   rw [List.length_cons, wrap64_id' (by omega) (by omega)]
   omega
  have hx : nth (t := .int .i64) ((y :: A).reverse ++ x :: R) ((y :: A).length : Int) = x := nth_at (by simp)
  have hy : nth (t := .int .i64) ((y :: A).reverse ++ x :: R) (A.length : Int) = y := by
   rw [List.reverse_cons, List.append_assoc]
   exact nth_at (by simp)
  have h1 : (((y :: A).reverse ++ x :: R).set ((y :: A).length : Int).toNat y).set (A.length : Int).toNat x = A.reverse ++ x :: y :: R := by
   rw [set_at (by simp), List.reverse_cons, List.append_assoc]
   exact set_at (by simp)
  rw [whileD_step]
  unfold F.slices_insertionSort_l2
  simp only [hw, hx, hy, letD_eq]
  rw [show (decide ((0 : Int) < ((y :: A).length : Int)) == true) = true by rw [decide_eq_true (by simp only [List.length_cons]; omega)]; rfl, cond_true, guardD_pos (by omega), guardD_pos (by simp only [List.length_cons]; omega), guardD_pos (by omega), guardD_pos (by omega), h1]
  unfold M.ins
  cases decide (x < y) with
  | true => rw [cond_true, cond_true, thenD_inl]; exact ins_run hs b c A x (y :: R) _ rfl (by simp; omega)
  | false => rw [cond_false, cond_false, thenD_inr]; simp
theorem isort_run {xs : List Int} (hs : xs.length ≤ 1048576) (b : Int) : ∀ (R A : List Int) (i : Int), i = (A.length : Int) → b = (A.length : Int) + (R.length : Int) → A.length + R.length = xs.length →
  eachD (F.slices_insertionSort_l0 xs 0 b) (rangeI i b) (A.reverse ++ R) = some (.inl (M.isortGo A R))
 | [], A, i, hi, hb, _ => by
  rw [rangeI_nil (by simp at hb; omega)]
  simp [eachD, M.isortGo]
 | x :: R, A, i, hi, hb, hl => by
  simp only [List.length_cons] at hb hl
  rw [rangeI_cons (by omega), eachD_cons]
  unfold F.slices_insertionSort_l0
  rw [ins_run hs b i A x R i hi (by omega)]
  show eachD _ _ (M.ins A x R) = _
  have h2 := M.ins_length A x []
  have := isort_run hs b R (M.ins A x []).reverse (i + 1) (by simp [h2]; omega) (by simp [h2]; omega) (by simp [h2]; omega)
  rw [List.reverse_reverse, ← M.ins_app] at this
  rw [show M.isortGo A (x :: R) = M.isortGo (M.ins A x []).reverse R from rfl, ← this]
  rfl
theorem compact_l2 {xs : List Int} (hs : xs.length ≤ 1048576) {k : Int} (k1 : 1 ≤ k) : ∀ (m : Nat) (j : Int) (n : Int) (d : List Int), (m : Int) = (xs.length : Int) - k - j → 1 ≤ j → d.length = xs.length → 0 ≤ n → n ≤ k + j - 1 →
  (∀ i : Int, k + j - 1 ≤ i → nth (t := .int .i64) d i = nth (t := .int .i64) xs i) → d.take n.toNat = M.compact (xs.take (k + j).toNat) →
  ∃ n' d', eachD (F.slices_Compact_l2 xs k) (rangeI j ((xs.length : Int) - k)) (n, d) = some (.inl (n', d')) ∧ d'.length = xs.length ∧ 0 ≤ n' ∧ n' ≤ (xs.length : Int) ∧ d'.take n'.toNat = M.compact xs
 | 0, j, n, d, hm, j1, hd, n0, n1, hk, ht => by
  refine ⟨n, d, ?_, hd, n0, by omega, ?_⟩
  ·rw [rangeI_nil (by omega)]; rfl
  ·rw [ht, List.take_of_length_le (by omega)]
 | m + 1, j, n, d, hm, j1, hd, n0, n1, hk, ht => by
  rw [rangeI_cons (by omega), eachD_cons]
  have hw : wrap64 (j - (1 : Int)) = j - 1 := wrap64_id' (by omega) (by omega)
  have hwn : wrap64 (n + (1 : Int)) = n + 1 := wrap64_id' (by omega) (by omega)
  have e1 : nth (t := .int .i64) d (k + j) = nth (t := .int .i64) xs (k + j) := hk _ (by omega)
  have e2 : nth (t := .int .i64) d (k + (j - 1)) = nth (t := .int .i64) xs (k + (j - 1)) := hk _ (by omega)
  have hsn : xs.take (k + (j + 1)).toNat = xs.take (k + j).toNat ++ [nth (t := .int .i64) xs (k + j)] := by
   have := M.take_snoc (t := .int .i64) (xs := xs) (k := (k + j).toNat) (by omega)
   rw [show (((k + j).toNat : Nat) : Int) = k + j by omega] at this
   rw [← this]
   congr 1
   omega
  have hlast : (xs.take (k + j).toNat).getLast? = some (nth (t := .int .i64) xs (k + (j - 1))) := by
   have := M.take_snoc (t := .int .i64) (xs := xs) (k := (k + (j - 1)).toNat) (by omega)
   rw [show (((k + (j - 1)).toNat : Nat) : Int) = k + (j - 1) by omega, show (k + (j - 1)).toNat + 1 = (k + j).toNat by omega] at this
   rw [this]
   simp
  have hne : xs.take (k + j).toNat ≠ [] := by intro e; rw [e] at hlast; cases hlast
  have hc : M.compact (xs.take (k + (j + 1)).toNat) = M.cstep (M.compact (xs.take (k + j).toNat)) (nth (t := .int .i64) xs (k + j)) := by rw [hsn, M.compact_snoc]
  unfold F.slices_Compact_l2
  simp only [hw, hwn, e1, e2]
  rw [guardD_pos (by omega), guardD_pos (by omega), guardD_pos (by omega)]
  by_cases he : nth (t := .int .i64) xs (k + j) = nth (t := .int .i64) xs (k + (j - 1))
  ·rw [decide_eq_true he]
   simp only [Bool.not_true, cond_false, thenD_inl]
   refine compact_l2 hs k1 m (j + 1) n d (by omega) (by omega) hd n0 (by omega) (fun i hi => hk i (by omega)) ?_
   rw [ht, hc]
   unfold M.cstep
   rw [M.compact_last hne, hlast, decide_eq_true (by rw [he]), cond_true]
  ·rw [decide_eq_false he]
   simp only [Bool.not_false, cond_true]
   rw [guardD_pos n0, guardD_pos (by omega), thenD_inl]
   refine compact_l2 hs k1 m (j + 1) (n + 1) _ (by omega) (by omega) (by simpa using hd) (by omega) (by omega) (fun i hi => ?_) ?_
   ·rw [M.nth_set_ne n0 (by omega) (by omega)]
    exact hk i (by omega)
   ·rw [hc]
    unfold M.cstep
    rw [M.compact_last hne, hlast, decide_eq_false (by intro e; exact he (Option.some.inj e).symm), cond_false, ← ht]
    rw [show (n + 1).toNat = n.toNat + 1 by omega, M.take_snoc (t := .int .i64) (by rw [List.length_set]; omega)]
    congr 1
    ·rw [List.take_set_of_le (Nat.le_refl _)]
    ·congr 1
     rw [show ((n.toNat : Nat) : Int) = n by omega]
     unfold nth
     rw [List.getD_eq_getElem?_getD, List.getElem?_set_self (by omega)]
     rfl
theorem compact_l0 {xs : List Int} (hs : xs.length ≤ 1048576) : ∀ (m : Nat) (i : Int), (m : Int) = (xs.length : Int) - i → 1 ≤ i → M.compact (xs.take i.toNat) = xs.take i.toNat →
  (eachD (F.slices_Compact_l0 xs) (rangeI i (xs.length : Int)) () = some (.inl ()) ∧ M.compact xs = xs) ∨
  ∃ n' d', eachD (F.slices_Compact_l0 xs) (rangeI i (xs.length : Int)) () = some (.inr (n', d')) ∧ d'.take n'.toNat = M.compact xs
 | 0, i, hm, i1, hc => by
  refine .inl ⟨?_, ?_⟩
  ·rw [rangeI_nil (by omega)]; rfl
  ·rwa [List.take_of_length_le (by omega)] at hc
 | m + 1, i, hm, i1, hc => by
  rw [rangeI_cons (by omega), eachD_cons]
  have hw : wrap64 (i - (1 : Int)) = i - 1 := wrap64_id' (by omega) (by omega)
  have hsn : xs.take (i + 1).toNat = xs.take i.toNat ++ [nth (t := .int .i64) xs i] := by
   have := M.take_snoc (t := .int .i64) (xs := xs) (k := i.toNat) (by omega)
   rw [show ((i.toNat : Nat) : Int) = i by omega] at this
   rw [← this]
   congr 1
   omega
  have hlast : (xs.take i.toNat).getLast? = some (nth (t := .int .i64) xs (i - 1)) := by
   have := M.take_snoc (t := .int .i64) (xs := xs) (k := (i - 1).toNat) (by omega)
   rw [show (((i - 1).toNat : Nat) : Int) = i - 1 by omega, show (i - 1).toNat + 1 = i.toNat by omega] at this
   rw [this]
   simp
  have hcs : M.compact (xs.take (i + 1).toNat) = M.cstep (xs.take i.toNat) (nth (t := .int .i64) xs i) := by rw [hsn, M.compact_snoc, hc]
  unfold F.slices_Compact_l0
  simp only [hw]
  rw [guardD_pos (by omega), guardD_pos (by omega)]
  by_cases he : nth (t := .int .i64) xs i = nth (t := .int .i64) xs (i - 1)
  ·rw [decide_eq_true he, cond_true, guardD_pos (by omega), guardD_pos (by unfold top63; omega), guardD_pos (by unfold top63; omega)]
   obtain ⟨n', d', h1, h2, h3, h4, h5⟩ := compact_l2 hs i1 m 1 i xs (by omega) (by omega) rfl (by omega) (by omega) (fun _ _ => rfl) (by
    rw [hcs]
    unfold M.cstep
    rw [hlast, decide_eq_true (by rw [he]), cond_true])
   rw [h1]
   simp only [thenD_inl]
   rw [guardD_pos h3, guardD_pos (by omega), guardD_pos h3, guardD_pos (by simp; omega), thenD_inr]
   refine .inr ⟨n', _, rfl, ?_⟩
   rw [List.take_append_of_le_length (by simp; omega), List.take_take, Nat.min_self, h5]
  ·rw [decide_eq_false he, cond_false, thenD_inl]
   refine compact_l0 hs m (i + 1) (by omega) (by omega) ?_
   rw [hcs, hsn]
   unfold M.cstep
   rw [hlast, decide_eq_false (by intro e; exact he (Option.some.inj e).symm), cond_false]
theorem compact_run {xs : List Int} (hs : xs.length ≤ 1048576) : F.slices_Compact xs = some (M.compact xs) := by
 unfold F.slices_Compact
 match xs, hs with
 | [], _ => rfl
 | [x], _ => rfl
 | x :: y :: l, hs =>
  rw [decide_eq_false (by simp only [List.length_cons]; omega), cond_false]
  rcases compact_l0 hs (l.length + 1) 1 (by simp only [List.length_cons]; omega) (by omega) rfl with ⟨h1, h2⟩ | ⟨n', d', h1, h2⟩
  ·rw [h1, thenD_inl, h2]
  ·rw [h1, thenD_inr, h2]
end Go.AE
namespace Go.AE
open Go Go.RowKit
theorem each_pick {α β ρ : Type} {f : α → List β → Option (Sum (List β) ρ)} (p : α → Bool) (g : α → β) {xs : List α} (h : ∀ x ∈ xs, ∀ s : List β, s.length < xs.length → f x s = some (.inl (cond (p x) (s ++ [g x]) s))) :
  eachD f xs [] = some (.inl ((xs.filter p).map g)) := by
 have key : ∀ (l : List α) (s : List β), (∀ x ∈ l, x ∈ xs) → s.length + l.length ≤ xs.length → eachD f l s = some (.inl (s ++ (l.filter p).map g)) := by
  intro l
  induction l with
  | nil => intro s _ _; simp [eachD]
  | cons x l ih =>
   intro s hm hl
   simp only [List.length_cons] at hl
   rw [eachD_cons, h x (hm x (by simp)) s (by omega), thenD_inl]
   cases hp : p x with
   | true => rw [cond_true, ih _ (fun y hy => hm y (by simp [hy])) (by simp; omega)]; simp [hp]
   | false => rw [cond_false, ih _ (fun y hy => hm y (by simp [hy])) (by omega)]; simp [hp]
 have := key xs [] (fun _ h => h) (by simp)
 simpa using this
theorem while_pick {f : Int × List Int → Option (Sum (Int × List Int) (List Int))} (p : Int → Bool) (n : Int)
  (h : ∀ (i : Int) (s : List Int), 0 ≤ i → i < n → (s.length : Int) ≤ i → f (i, s) = some (.inl (i + 1, cond (p i) (s ++ [i]) s))) (he : ∀ (i : Int) (s : List Int), 0 ≤ i → n ≤ i → f (i, s) = some (.inr s)) :
  whileD f ((0 : Int), []) = some ((rangeI 0 n).filter p) := by
 have key : ∀ (m : Nat) (i : Int) (s : List Int), m = (n - i).toNat → 0 ≤ i → (s.length : Int) ≤ i → whileD f (i, s) = some (s ++ (rangeI i n).filter p) := by
  intro m
  induction m with
  | zero =>
   intro i s hn h0 hs
   rw [whileD_step, he i s h0 (by omega), rangeI_nil (by omega)]
   simp [thenD]
  | succ m ih =>
   intro i s hn h0 hs
   have hlt : i < n := by omega
   rw [whileD_step, h i s h0 hlt hs, thenD_inl, rangeI_cons hlt]
   cases hp : p i with
   | true => rw [cond_true, ih (i + 1) _ (by omega) (by omega) (by simp; omega)]; simp [hp]
   | false => rw [cond_false, ih (i + 1) _ (by omega) (by omega) (by omega)]; simp [hp]
 have := key n.toNat 0 [] (by omega) (by omega) (by simp)
 simpa using this
theorem fold_any {α : Type} (q : α → Bool) : ∀ (l : List α) (b : Bool), l.foldl (fun v z => v || q z) b = (b || l.any q)
 | [], b => by simp
 | x :: l, b => by rw [List.foldl_cons, fold_any q l]; simp [Bool.or_assoc]
end Go.AE
namespace Go.AE
open Go Go.RowKit
theorem exprValue_sm {row : List TValue.D} {e : List TPart.D} (hr : Sm (.sl TValue) row) (he : Sm (.sl TPart) e) : Sm TValue (M.exprValue row e) := by
 have key : ∀ (l : List TPart.D) (st : List TValue.D), (∀ p ∈ l, Sm TPart p) → (∀ x ∈ st, Sm TValue x) → ∀ x ∈ l.foldl (M.valStep row) st, Sm TValue x := by
  intro l
  induction l with
  | nil => intro st _ hs; exact hs
  | cons p l ih =>
   intro st hp hs
   refine ih _ (fun q hq => hp q (by simp [hq])) fun x hx => ?_
   unfold M.valStep at hx
   rcases List.mem_append.1 hx with hx | hx
   ·exact hs x (List.mem_of_mem_take hx)
   ·rw [List.mem_singleton.1 hx]
    exact sm_partValue (hp p (by simp)) hr
 have h := key e [] he.2 (fun x hx => by cases hx)
 unfold M.exprValue nth
 rw [List.getD_eq_getElem?_getD]
 cases hq : (e.foldl (M.valStep row) [])[(0 : Int).toNat]? with
 | none => exact sm_zero TValue
 | some x => exact h x (List.mem_of_getElem? hq)
end Go.AE
