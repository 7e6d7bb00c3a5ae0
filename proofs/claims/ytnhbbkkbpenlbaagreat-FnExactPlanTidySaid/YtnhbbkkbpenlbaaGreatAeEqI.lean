/- Tables and bonds. -/
import Derived.Test.YtnhbbkkbpenlbaaGreatAeEqH
namespace Go.AE
open Go Go.RowKit
set_option linter.unusedSimpArgs false
set_option linter.unusedVariables false
theorem len_zero {α : Type} (xs : List α) : decide ((xs.length : Int) = 0) = decide (xs.length = 0) := decide_eq_decide.2 (by omega)
theorem len_pos {α : Type} (xs : List α) : decide ((0 : Int) < (xs.length : Int)) = !decide (xs.length = 0) := by
 by_cases h : xs.length = 0
 ·rw [decide_eq_true h, decide_eq_false (by omega)]; rfl
 ·rw [decide_eq_false h, decide_eq_true (by omega)]; rfl
theorem len_eq {α β : Type} (xs : List α) (ys : List β) : decide ((xs.length : Int) = (ys.length : Int)) = decide (xs.length = ys.length) := decide_eq_decide.2 (by omega)
theorem inR_of {n a b : Int} (h : M.inR n a b = true) : a ≤ n ∧ n ≤ b := by
 unfold M.inR at h
 simp only [Bool.and_eq_true, decide_eq_true_eq] at h
 exact h
theorem listOk_at {c : List TColumn.D} {l : List Int} (h : M.listOk c l = true) {n : Int} (hn : n ∈ l) : 0 ≤ n ∧ n < (c.length : Int) := by
 unfold M.listOk at h
 rw [Bool.and_eq_true, List.all_eq_true] at h
 have := inR_of (h.2 n hn)
 omega
theorem mem_nth {t : Ty} {xs : List t.D} {i : Int} (hi : i ∈ rangeI 0 (xs.length : Int)) : nth (t := t) xs i ∈ xs := by
 obtain ⟨h0, h1⟩ := mem_rangeI.1 hi
 exact nth_mem' h0 h1
theorem row_len {tables : List TTable.D} (h : M.tablesOk tables = true) {t : TTable.D} (ht : t ∈ tables) {r : List TValue.D} (hr : r ∈ t.2.1) : r.length = t.1.length := by
 unfold M.tablesOk at h
 rw [Bool.and_eq_true, List.all_eq_true] at h
 have h2 := h.2 t ht
 unfold M.tableOk M.rowsOk at h2
 rw [Bool.and_eq_true, Bool.and_eq_true, List.all_eq_true] at h2
 have h3 := h2.2.2 r hr
 unfold M.rowFits at h3
 simp only [Bool.and_eq_true, decide_eq_true_eq] at h3
 exact h3.2.2.1
theorem in_row {tables : List TTable.D} (h : M.tablesOk tables = true) {t : TTable.D} (ht : t ∈ tables) {r : List TValue.D} (hr : r ∈ t.2.1) {l : List Int} (hl : M.listOk t.1 l = true) : M.inRow r l := by
 intro n hn
 have := listOk_at hl hn
 rw [row_len h ht hr]
 exact this
theorem while_any {step : Int → Option (Sum Int (Sum Unit Unit))} (c : Int) (p : Int → Bool) (hc : c ≤ 1048576) (hs : ∀ j, 0 ≤ j → step j = if j < c then (if p j then some (.inr (.inr ())) else some (.inl (wrap64 (j + 1)))) else some (.inr (.inl ()))) :
  ∀ (n : Nat) (j : Int), n = (c - j).toNat → 0 ≤ j → whileD step j = some (cond ((rangeI j c).any p) (.inr ()) (.inl ())) := by
 intro n
 induction n with
 | zero =>
  intro j hn h0
  rw [whileD_step, hs j h0, if_neg (by omega), rangeI_nil (by omega)]
  rfl
 | succ n ih =>
  intro j hn h0
  have hlt : j < c := by omega
  rw [whileD_step, hs j h0, if_pos hlt, rangeI_cons hlt, List.any_cons]
  cases p j with
  | true => rfl
  | false =>
   simp only [Bool.false_eq_true, if_false, thenD_inl, Bool.false_or]
   rw [wrap64_id' (by omega) (by omega)]
   exact ih (j + 1) (by omega) (by omega)
theorem while_found {step : Bool × Int → Option (Sum (Bool × Int) Bool)} (c : Int) (p : Int → Bool) (hc : c ≤ 1048576) (hs : ∀ f j, 0 ≤ j → step (f, j) = if j < c then (cond f (some (.inr f)) (some (.inl (p j, wrap64 (j + 1))))) else some (.inr f)) :
  ∀ (n : Nat) (f : Bool) (j : Int), n = (c - j).toNat → 0 ≤ j → whileD step (f, j) = some (f || (rangeI j c).any p) := by
 intro n
 induction n with
 | zero =>
  intro f j hn h0
  rw [whileD_step, hs f j h0, if_neg (by omega), rangeI_nil (by omega)]
  simp
 | succ n ih =>
  intro f j hn h0
  have hlt : j < c := by omega
  rw [whileD_step, hs f j h0, if_pos hlt]
  cases f with
  | true => simp
  | false =>
   simp only [cond_false, thenD_inl, Bool.false_or]
   rw [wrap64_id' (by omega) (by omega), ih (p j) (j + 1) (by omega) (by omega), rangeI_cons hlt, List.any_cons]
theorem nth_take {t : Ty} {xs : List t.D} {n : Nat} {i : Int} (h : i < (n : Int)) (h0 : 0 ≤ i) : nth (t := t) (xs.take n) i = nth (t := t) xs i := by
 unfold nth
 rw [List.getD_eq_getElem?_getD, List.getD_eq_getElem?_getD, List.getElem?_take_of_lt (by omega)]
theorem any_take {t : Ty} (xs : List t.D) (q : t.D → Bool) {i : Int} (h0 : 0 ≤ i) (h1 : i ≤ (xs.length : Int)) : (rangeI 0 i).any (fun j => q (nth xs j)) = (xs.take i.toNat).any q := by
 rw [← any_range (t := t) (xs.take i.toNat) q]
 have e : ((xs.take i.toNat).length : Int) = i := by rw [List.length_take]; omega
 rw [e]
 have key : ∀ (l : List Int) (_ : ∀ j ∈ l, 0 ≤ j ∧ j < i), l.any (fun j => q (nth xs j)) = l.any (fun j => q (nth (xs.take i.toNat) j)) := by
  intro l
  induction l with
  | nil => intro _; rfl
  | cons j l ih =>
   intro hl
   obtain ⟨a, b⟩ := hl j (List.mem_cons_self ..)
   rw [List.any_cons, List.any_cons, ih (fun k hk => hl k (List.mem_cons_of_mem _ hk)), nth_take (by omega) a]
 exact key _ (fun j hj => mem_rangeI.1 hj)
theorem cut_head {α : Type} (xs : List α) {k : Int} : cutList xs (some ((0 : Int), k)) = xs.take k.toNat := by
 unfold cutList
 simp
theorem bond_facts {tables : List TTable.D} {b : TBond.D} (h : M.bondOk tables b = true) : (0 ≤ b.2.1 ∧ b.2.1 < (tables.length : Int)) ∧
  ((b.1 = (1 : Int) ∧ M.listOk (nth (t := TTable) tables b.2.1).1 b.2.2.1 = true) ∨ (b.1 = (3 : Int) ∧ M.exprKind (nth (t := TTable) tables b.2.1).1 b.2.2.2.2.2.2.1 = 3) ∨
   (b.1 = (2 : Int) ∧ M.listOk (nth (t := TTable) tables b.2.1).1 b.2.2.1 = true ∧ (0 ≤ b.2.2.2.1 ∧ b.2.2.2.1 < (tables.length : Int)) ∧ M.listOk (nth (t := TTable) tables b.2.2.2.1).1 b.2.2.2.2.1 = true)) := by
 unfold M.bondOk at h
 rw [Bool.and_eq_true] at h
 obtain ⟨h0, h⟩ := h
 have h0 := inR_of h0
 refine ⟨⟨h0.1, Int.lt_of_le_sub_one h0.2⟩, ?_⟩
 by_cases e1 : b.1 = (1 : Int)
 ·simp only [e1, decide_true, cond_true, Bool.and_eq_true] at h
  exact .inl ⟨e1, h.1⟩
 by_cases e3 : b.1 = (3 : Int)
 ·simp only [e3, decide_true, cond_true, Int.reduceEq, decide_false, cond_false, Bool.and_eq_true, decide_eq_true_eq] at h
  exact .inr (.inl ⟨e3, h.1⟩)
 by_cases e2 : b.1 = (2 : Int)
 ·simp only [e2, decide_true, cond_true, Int.reduceEq, decide_false, cond_false, Bool.and_eq_true] at h
  have h1 := inR_of h.1
  exact .inr (.inr ⟨e2, h.2.1, ⟨h1.1, Int.lt_of_le_sub_one h1.2⟩, h.2.2.1⟩)
 ·simp only [e1, e2, e3, decide_false, cond_false] at h
  cases h
theorem broken_is (tables : List TTable.D) (b : TBond.D) : M.broken tables b = -1 ∨ 0 ≤ M.broken tables b := by
 unfold M.broken
 cases h : (rangeI 0 ((M.rowsIn tables b).length : Int)).find? (M.breaks tables b) with
 | none => exact .inl rfl
 | some n => exact .inr (mem_rangeI.1 (List.mem_of_find?_eq_some h)).1
theorem broken_not (tables : List TTable.D) (b : TBond.D) : decide (M.broken tables b = -1) = !decide (0 ≤ M.broken tables b) := by
 rcases broken_is tables b with h | h
 ·rw [h]; rfl
 ·rw [decide_eq_true h, decide_eq_false (by omega)]; rfl
theorem bondBroken_is (tables : List TTable.D) (b : TBond.D) : decide (M.bondBroken tables b = -1) = (M.tablesOk tables && M.bondOk tables b && !decide (0 ≤ M.broken tables b)) := by
 unfold M.bondBroken
 cases M.tablesOk tables && M.bondOk tables b
 ·rfl
 ·simp only [cond_true, Bool.true_and]
  exact broken_not tables b
theorem bondsHold_is (tables : List TTable.D) (bonds : List TBond.D) : cond ((decide ((bonds.length : Int) = (0 : Int))) == false) (cond ((decide ((bonds.length : Int) ≤ (4 : Int))) == true) (cond ((M.tablesOk tables && List.all bonds (M.bondOk tables)) == true)
  (guardD (∀ e ∈ bonds, (M.tablesOk tables && M.bondOk tables e) = true) (some (!List.any bonds (fun e => decide (0 ≤ M.broken tables e))))) (some false)) (some false)) (some true) = some (M.bondsHold tables bonds) := by
 unfold M.bondsHold
 rw [show decide ((bonds.length : Int) ≤ 4) = decide (bonds.length ≤ 4) from decide_eq_decide.2 (by omega), len_zero]
 cases hb : decide (bonds.length = 0) with
 | true =>
  have : bonds = [] := List.length_eq_zero_iff.1 (of_decide_eq_true hb)
  subst this
  rfl
 | false =>
 cases decide (bonds.length ≤ 4)
 ·rfl
 have hne : bonds ≠ [] := by rintro rfl; cases hb
 cases ht : M.tablesOk tables with
 | false =>
  cases bonds with
  | nil => exact absurd rfl hne
  | cons x l => simp [bondBroken_is, ht]
 | true =>
  cases ho : List.all bonds (M.bondOk tables) with
  | false =>
   have : (bonds.all fun b => decide (M.bondBroken tables b = -1)) = false := by
    rw [List.all_eq_false] at ho ⊢
    obtain ⟨x, hx, hn⟩ := ho
    exact ⟨x, hx, by rw [bondBroken_is, ht]; simp [hn]⟩
   rw [this]
   rfl
  | true =>
   rw [List.all_eq_true] at ho
   simp only [Bool.true_and, show ((false : Bool) == false) = true from rfl, show ((true : Bool) == true) = true from rfl, cond_true]
   rw [guardD_pos ho, List.all_eq_not_any_not]
   congr 2
   have key : ∀ (l : List TBond.D) (_ : ∀ x ∈ l, M.bondOk tables x = true), (l.any fun e => decide (0 ≤ M.broken tables e)) = l.any fun b => !decide (M.bondBroken tables b = -1) := by
    intro l
    induction l with
    | nil => intro _; rfl
    | cons x l ih =>
     intro hl
     rw [List.any_cons, List.any_cons, ih (fun y hy => hl y (List.mem_cons_of_mem _ hy)), bondBroken_is, ht, hl x (List.mem_cons_self ..)]
     simp
   exact key bonds ho
end Go.AE
