/- Kinds of expressions tell the kinds of their values; what is reckoned ahead is the same: plain Lean. -/
import Derived.Test.YtiplhefglgpdoaaGreatAeMS
namespace Go.AE
open Go Go.RowKit
set_option linter.unusedVariables false
def M.valueOn (columns : List TColumn.D) (row : List TValue.D) (e : List TPart.D) : TValue.D := cond (decide (exprKind columns e < 0) || !rowFits columns row) zeroV (exprValue row e)
namespace M
def isOf (k : Int) (v : TValue.D) : Prop := valueOk v = true ∧ (v.1 = (0 : Int) ∨ v.1 = k) ∧ 1 ≤ k ∧ k ≤ 3
def allOf : List Int → List TValue.D → Prop
 | [], [] => True
 | k :: ks, v :: vs => isOf k v ∧ allOf ks vs
 | _, _ => False
theorem allOf_len : ∀ {ks : List Int} {vs : List TValue.D}, allOf ks vs → ks.length = vs.length
 | [], [], _ => rfl
 | _ :: _, _ :: _, h => congrArg (· + 1) (allOf_len h.2)
 | [], _ :: _, h => h.elim
 | _ :: _, [], h => h.elim
theorem allOf_take : ∀ (n : Nat) {ks : List Int} {vs : List TValue.D}, allOf ks vs → allOf (ks.take n) (vs.take n)
 | 0, _, _, _ => by simp [allOf]
 | n + 1, [], [], _ => by simp [allOf]
 | n + 1, _ :: _, _ :: _, h => ⟨h.1, allOf_take n h.2⟩
 | _ + 1, [], _ :: _, h => h.elim
 | _ + 1, _ :: _, [], h => h.elim
theorem allOf_snoc : ∀ {ks : List Int} {vs : List TValue.D} {k : Int} {v : TValue.D}, allOf ks vs → isOf k v → allOf (ks ++ [k]) (vs ++ [v])
 | [], [], _, _, _, h => ⟨h, trivial⟩
 | _ :: _, _ :: _, _, _, h, h' => ⟨h.1, allOf_snoc h.2 h'⟩
 | [], _ :: _, _, _, h, _ => h.elim
 | _ :: _, [], _, _, h, _ => h.elim
theorem inR_of {n a b : Int} (h0 : a ≤ n) (h1 : n ≤ b) : inR n a b = true := by unfold inR; rw [decide_eq_true h0, decide_eq_true h1]; rfl
theorem inR_to {n a b : Int} (h : inR n a b = true) : a ≤ n ∧ n ≤ b := by unfold inR at h; simpa using h
theorem isOf_valueOf (n : Int) : isOf 3 (valueOf n) := by
 unfold isOf valueOf
 cases h : inR n 0 1 with
 | true =>
  refine ⟨?_, .inr rfl, by decide, by decide⟩
  show (inR n 0 1 && decide (none_ = none_)) = true
  rw [h]
  decide
 | false => exact ⟨rfl, .inl rfl, by decide, by decide⟩
theorem isOf_sum (a b : TValue.D) : isOf 1 (sum a b) := by
 unfold isOf sum
 cases h : (decide (a.1 = (0 : Int)) || decide (b.1 = (0 : Int)) || !inR (wrap64 (a.2.1 + b.2.1)) (-9999) 9999) with
 | true => exact ⟨rfl, .inl rfl, by decide, by decide⟩
 | false =>
  refine ⟨?_, .inr rfl, by decide, by decide⟩
  have h2 : inR (wrap64 (a.2.1 + b.2.1)) (-9999) 9999 = true := by
   have := (Bool.or_eq_false_iff.1 h).2
   simpa using this
  show (inR (wrap64 (a.2.1 + b.2.1)) (-9999) 9999 && decide (none_ = none_)) = true
  rw [h2]
  decide
theorem valueOk_kind {v : TValue.D} (h : valueOk v = true) (hn : ¬ v.1 = (0 : Int)) : 1 ≤ v.1 ∧ v.1 ≤ 3 := by
 unfold valueOk at h
 by_cases h1 : v.1 = (1 : Int)
 ·rw [h1]; decide
 by_cases h2 : v.1 = (2 : Int)
 ·rw [h2]; decide
 by_cases h3 : v.1 = (3 : Int)
 ·rw [h3]; decide
 rw [decide_eq_false hn, decide_eq_false h1, decide_eq_false h2, decide_eq_false h3] at h
 cases h
theorem part_isOf {columns : List TColumn.D} {row : List TValue.D} {p : TPart.D} {l : List Int} {m : List TValue.D} (ht : tells p columns = true) (hr : p.1 = (2 : Int) → isOf (nth (t := TColumn) columns p.2.1).1 (nth (t := TValue) row p.2.1)) :
  isOf (partKind p columns l).1 (partValue p row m) := by
 unfold tells at ht
 unfold partKind partValue
 by_cases h1 : p.1 = (1 : Int)
 ·rw [decide_eq_true h1] at ht ⊢
  simp only [cond_true, Bool.and_eq_true, Bool.not_eq_true', decide_eq_false_iff_not] at ht ⊢
  exact ⟨ht.2.1, .inr rfl, valueOk_kind ht.2.1 ht.2.2⟩
 rw [decide_eq_false h1] at ht ⊢
 by_cases h2 : p.1 = (2 : Int)
 ·rw [decide_eq_true h2]
  exact hr h2
 rw [decide_eq_false h2] at ht ⊢
 by_cases h3 : p.1 = (3 : Int)
 ·rw [decide_eq_true h3]
  exact isOf_sum _ _
 rw [decide_eq_false h3]
 by_cases h4 : p.1 = (4 : Int)
 ·rw [decide_eq_true h4]
  exact isOf_valueOf _
 rw [decide_eq_false h4]
 have h8 : (cond (decide (p.1 = (8 : Int))) ((3 : Int), true) (3, l.all fun k => decide (k = 3))).1 = 3 := by cases decide (p.1 = (8 : Int)) <;> rfl
 show isOf (cond (decide (p.1 = (8 : Int))) ((3 : Int), true) (3, l.all fun k => decide (k = 3))).1 (cond (decide (p.1 = (5 : Int))) _ _)
 rw [h8]
 cases decide (p.1 = (5 : Int)) <;> cases decide (p.1 = (6 : Int)) <;> cases decide (p.1 = (7 : Int)) <;> exact isOf_valueOf _
theorem run_isOf {columns : List TColumn.D} {row : List TValue.D} : ∀ (e : List TPart.D) (ks ks' : List Int) (vs : List TValue.D), (∀ p ∈ e, tells p columns = true → p.1 = (2 : Int) → isOf (nth (t := TColumn) columns p.2.1).1 (nth (t := TValue) row p.2.1)) → allOf ks vs →
  kindRun columns e ks = some ks' → allOf ks' (e.foldl (valStep row) vs)
 | [], ks, ks', vs, _, h, hk => by cases hk; exact h
 | p :: e, ks, ks', vs, hr, h, hk => by
  unfold kindRun at hk
  cases hs : kindStep columns ks p with
  | none => rw [hs] at hk; cases hk
  | some k1 =>
   rw [hs] at hk
   refine run_isOf e k1 ks' _ (fun q hq => hr q (List.mem_cons_of_mem _ hq)) ?_ hk
   unfold kindStep at hs
   obtain ⟨hb, hs⟩ := cond_some_eq hs
   obtain ⟨ht, _⟩ := Bool.and_eq_true_iff.1 hb
   cases hs
   unfold valStep
   rw [← allOf_len h]
   exact allOf_snoc (allOf_take _ h) (part_isOf ht (hr p List.mem_cons_self ht))
theorem tells_col {columns : List TColumn.D} {p : TPart.D} (ht : tells p columns = true) (h2 : p.1 = (2 : Int)) : 0 ≤ p.2.1 ∧ p.2.1 < (columns.length : Int) := by
 unfold tells at ht
 rw [decide_eq_false (show ¬ p.1 = (1 : Int) by rw [h2]; decide), decide_eq_true h2] at ht
 simp only [cond_false, cond_true, Bool.and_eq_true] at ht
 have := inR_to ht.1
 exact ⟨this.1, Int.lt_of_le_sub_one this.2⟩
theorem oneOf_some {o : Option (List Int)} (h : ¬ oneOf o = -1) : ∃ k, o = some [k] := by
 unfold oneOf at h
 split at h
 ·exact ⟨_, rfl⟩
 ·exact absurd rfl h
theorem allOf_one {k : Int} {vs : List TValue.D} (h : allOf [k] vs) : ∃ v, vs = [v] ∧ isOf k v := by
 match vs, h with
 | [v], h => exact ⟨v, rfl, h.1⟩
theorem kind_isOf {columns : List TColumn.D} {e : List TPart.D} {row : List TValue.D} (hk : ¬ exprKind columns e = -1) (hr : ∀ p ∈ e, tells p columns = true → p.1 = (2 : Int) → isOf (nth (t := TColumn) columns p.2.1).1 (nth (t := TValue) row p.2.1)) :
  isOf (exprKind columns e) (exprValue row e) := by
 unfold exprKind at hk ⊢
 cases hc : (columnsOk columns && decide (e.length ≤ 12)) with
 | false => rw [hc] at hk; exact absurd rfl hk
 | true =>
  rw [hc] at hk
  simp only [cond_true] at hk ⊢
  obtain ⟨k, hk'⟩ := oneOf_some hk
  have h := run_isOf e [] [k] [] hr trivial hk'
  obtain ⟨v, hv, ho⟩ := allOf_one h
  unfold exprValue
  rw [hk', hv]
  exact ho
theorem some_row {columns : List TColumn.D} (hc : columnsOk columns = true) : ∀ p : TPart.D, tells p columns = true → p.1 = (2 : Int) → isOf (nth (t := TColumn) columns p.2.1).1 (nth (t := TValue) ([] : List TValue.D) p.2.1) := by
 intro p ht h2
 obtain ⟨h0, h1⟩ := tells_col ht h2
 have hk : columnOk (nth (t := TColumn) columns p.2.1) = true := by
  unfold columnsOk at hc
  exact List.all_eq_true.1 (Bool.and_eq_true_iff.1 hc).2 _ (nth_mem' (t := TColumn) h0 h1)
 refine ⟨?_, .inl ?_, inR_to hk⟩
 ·unfold nth; rfl
 ·unfold nth; rfl
theorem kind_cases {columns : List TColumn.D} {e : List TPart.D} : exprKind columns e = -1 ∨ 1 ≤ exprKind columns e ∧ exprKind columns e ≤ 3 := by
 by_cases h : exprKind columns e = -1
 ·exact .inl h
 ·refine .inr (kind_isOf (row := []) h (fun p _ => ?_)).2.2
  have hc : columnsOk columns = true := by
   unfold exprKind at h
   cases hc : columnsOk columns with
   | false => rw [hc] at h; exact absurd rfl h
   | true => rfl
  exact some_row hc p
theorem foldl_none {row row' : List TValue.D} : ∀ (e : List TPart.D) (vs : List TValue.D), (e.filter fun p => decide (p.1 = (2 : Int))).length = 0 → e.foldl (valStep row) vs = e.foldl (valStep row') vs
 | [], _, _ => rfl
 | p :: e, vs, h => by
  by_cases h2 : p.1 = (2 : Int)
  ·rw [List.filter_cons_of_pos (by simpa using h2)] at h
   simp at h
  ·rw [List.filter_cons_of_neg (by simpa using h2)] at h
   have hs : valStep row vs p = valStep row' vs p := by
    unfold valStep partValue
    rw [decide_eq_false h2]
    rfl
   rw [List.foldl_cons, List.foldl_cons, hs]
   exact foldl_none e _ h
theorem value_none {row row' : List TValue.D} {e : List TPart.D} (h : (e.filter fun p => decide (p.1 = (2 : Int))).length = 0) : exprValue row e = exprValue row' e := by
 unfold exprValue
 rw [foldl_none e [] h]
theorem kind_value {columns : List TColumn.D} {v : TValue.D} (hc : columnsOk columns = true) (hv : valueOk v = true) (hn : ¬ v.1 = (0 : Int)) : exprKind columns [((1 : Int), ((0 : Int), (v, ())))] = v.1 := by
 have hs : kindStep columns [] ((1 : Int), ((0 : Int), (v, ()))) = some [v.1] := by
  have ht : tells ((1 : Int), ((0 : Int), (v, ()))) columns = true := by
   show (decide ((0 : Int) = 0) && (valueOk v && !decide (v.1 = (0 : Int)))) = true
   rw [hv, decide_eq_false hn]
   rfl
  unfold kindStep
  rw [ht]
  rfl
 unfold exprKind
 rw [hc]
 show oneOf (kindRun columns [((1 : Int), ((0 : Int), (v, ())))] []) = v.1
 unfold kindRun
 rw [hs]
 rfl
theorem value_value {row : List TValue.D} {v : TValue.D} : exprValue row [((1 : Int), ((0 : Int), (v, ())))] = v := rfl
theorem folded_len {columns : List TColumn.D} {e : List TPart.D} (hk : 0 ≤ exprKind columns e) : 0 < (exprFolded columns e).length ∧ (exprFolded columns e).length ≤ e.length := by
 have he : 0 < e.length := by
  cases e with
  | nil =>
   exfalso
   unfold exprKind at hk
   cases hc : (columnsOk columns && decide (([] : List TPart.D).length ≤ 12)) with
   | false => rw [hc] at hk; simp at hk
   | true => rw [hc] at hk; simp [kindRun, oneOf] at hk
  | cons => simp
 unfold exprFolded
 rw [decide_eq_false (Int.not_lt.2 hk), cond_false]
 cases decide (((e.filter fun p => decide (p.1 = (2 : Int))).length : Int) = 0) with
 | false => exact ⟨he, Nat.le_refl _⟩
 | true =>
  cases !decide ((exprValue [] e).1 = (0 : Int)) with
  | false => exact ⟨he, Nat.le_refl _⟩
  | true => exact ⟨Nat.zero_lt_one, he⟩
theorem folded_none {columns : List TColumn.D} {e : List TPart.D} (hk : exprKind columns e < 0) : exprFolded columns e = [] := by
 unfold exprFolded
 rw [decide_eq_true hk]
 rfl
theorem kind_cols_ok {columns : List TColumn.D} {e : List TPart.D} (hk : 0 ≤ exprKind columns e) : columnsOk columns = true := by
 unfold exprKind at hk
 cases hc : columnsOk columns with
 | true => rfl
 | false => rw [hc] at hk; simp at hk
theorem folded_same {columns : List TColumn.D} {e : List TPart.D} (hk : 0 ≤ exprKind columns e) : exprKind columns (exprFolded columns e) = exprKind columns e ∧ ∀ row, exprValue row (exprFolded columns e) = exprValue row e := by
 have hc := kind_cols_ok hk
 unfold exprFolded
 rw [decide_eq_false (Int.not_lt.2 hk), cond_false]
 cases h0 : decide (((e.filter fun p => decide (p.1 = (2 : Int))).length : Int) = 0) with
 | false => exact ⟨rfl, fun _ => rfl⟩
 | true =>
  have h0 : (e.filter fun p => decide (p.1 = (2 : Int))).length = 0 := by have := of_decide_eq_true h0; omega
  rw [cond_true]
  by_cases hv : (exprValue [] e).1 = (0 : Int)
  ·rw [decide_eq_true hv]
   exact ⟨rfl, fun _ => rfl⟩
  ·rw [decide_eq_false hv]
   have ho := kind_isOf (columns := columns) (e := e) (row := []) (by omega) (fun p _ => some_row hc p)
   refine ⟨?_, fun row => ?_⟩
   ·show exprKind columns [((1 : Int), ((0 : Int), (exprValue [] e, ())))] = _
    rw [kind_value hc ho.1 hv]
    exact ho.2.1.resolve_left hv
   ·show exprValue row [((1 : Int), ((0 : Int), (exprValue [] e, ())))] = _
    rw [value_value]
    exact value_none h0
end M
end Go.AE
