/- What the functions compute is what is said. -/
import Derived.Test.YtckamkecfekneaaAeF
import Derived.Test.YtckamkecfekneaaAeMQ
import Derived.Test.YtckamkecfekneaaAeEqI
import Derived.Test.YtckamkecfekneaaAeEqS
import Derived.Test.YtckamkecfekneaaAeEqV
namespace Go.AE
open Go Go.RowKit
set_option linter.unusedVariables false
set_option linter.unusedSimpArgs false
theorem F.laws_szColumnS_eq (x : LC) (left : Int) (h_x : Ln (Ty.sl TColumn) x) (p0 : 0 ≤ left) (p1 : left ≤ 1048576) : F.laws_szColumnS x left = some (M.szLen x.length left) := by
 unfold F.laws_szColumnS M.szLen
 have h := h_x.1
 rw [wrap64_id' (n := left - (x.length : Int)) (by omega) (by omega)]
 by_cases h2 : left - (x.length : Int) < 0 <;> simp [h2]
theorem F.laws_szValue_eq (x : TValue.D) (left : Int) (h_x : Ln TValue x) (p0 : 0 ≤ left) (p1 : left ≤ 1048576) : F.laws_szValue x left = some (M.szValue x left) := by
 unfold F.laws_szValue M.szValue M.szLen
 have h : v_size_ok x := h_x.2.2.1
 unfold v_size_ok at h
 rw [wrap64_id' (n := left - (x.2.2.1.size : Int)) (by omega) (by omega)]
 by_cases h2 : left - (x.2.2.1.size : Int) < 0 <;> simp [h2]
theorem F.laws_szPart_eq (x : TPart.D) (left : Int) (h_x : Ln TPart x) (p0 : 0 ≤ left) (p1 : left ≤ 1048576) : F.laws_szPart x left = some (M.szPart x left) := by
 unfold F.laws_szPart M.szPart M.szThen
 have le0 := M.szValue_le x.2.2.1 left p0
 by_cases c0 : M.szValue x.2.2.1 left < 0
 ·rw [decide_eq_true c0, if_pos c0]
  rfl
 rw [decide_eq_false c0, if_neg c0]
 try rfl
theorem F.laws_szPartS_eq (x : LPt) (left : Int) (h_x : Ln (Ty.sl TPart) x) (p0 : 0 ≤ left) (p1 : left ≤ 1048576) : F.laws_szPartS x left = some (M.szS M.szPart x left) := by
 unfold F.laws_szPartS
 exact M.szS_eq M.szPart_le h_x.1 p0 p1 (fun z l h0 h1 => by simp only [F.laws_szPartS_l0, guardD_pos h0, guardD_pos h1, cond_some])
theorem F.spec_l1In_eq (n : Int) (low : Int) (high : Int)  : F.spec_l1In n low high = some (M.inR n low high) := by
 unfold F.spec_l1In M.inR
 cases decide (low ≤ n) <;> rfl
theorem F.spec_ColumnsOk_eq (columns : LC) (h_columns : Sm (Ty.sl TColumn) columns) : F.spec_ColumnsOk columns = some (M.columnsOk columns) := by
 unfold F.spec_ColumnsOk M.columnsOk
 rw [then_all M.columnOk () (fun x _ => by simp only [F.spec_ColumnsOk_l0, cond_notb, cond_some] <;> rfl), show decide ((columns.length : Int) ≤ 4) = decide (columns.length ≤ 4) from decide_eq_decide.2 (by omega)]
 cases columns.all M.columnOk <;> simp
theorem F.spec_l1Text_eq (s : ByteArray) (h_s : Sm Ty.str s) : F.spec_l1Text s = some (M.text s) := by
 unfold F.spec_l1Text M.text M.lower
 have key : ∀ c : Int, (cond ((decide (c < 97)) == false) (cond (decide (122 < c)) (some (Sum.inr ())) (some (Sum.inl ()))) (some (Sum.inr ())) : Option (Sum Unit Unit)) = some (cond (M.inR c 97 122) (.inl ()) (.inr ())) := by
  intro c
  unfold M.inR
  by_cases h2 : c < 97
  ·simp [h2, show ¬ 97 ≤ c by omega]
  ·by_cases h3 : 122 < c
   ·simp [h2, h3, show 97 ≤ c by omega, show ¬ c ≤ 122 by omega]
   ·simp [h2, h3, show 97 ≤ c by omega, show c ≤ 122 by omega]
 rw [then_all (fun i => M.inR (nth (t := .int .u8) (byteInts s) i) 97 122) () (fun i hi => by
  obtain ⟨h0, h1⟩ := mem_rangeI.1 hi
  simp only [F.spec_l1Text_l0, get_byteInts h0 h1]
  exact key _)]
 rw [← byteInts_length, all_range (t := .int .u8) (byteInts s) (fun n => M.inR n 97 122), show decide (((byteInts s).length : Int) ≤ 6) = decide ((byteInts s).length ≤ 6) from decide_eq_decide.2 (by omega)]
 cases (byteInts s).all fun n => M.inR n 97 122 <;> simp
theorem F.spec_ValueOk_eq (v : TValue.D) (h_v : Sm TValue v) : F.spec_ValueOk v = some (M.valueOk v) := by
 unfold F.spec_ValueOk M.valueOk
 simp only [cond_andb]
 simp only [cond_some]
theorem F.spec_l4Step_eq (columns : LC) (kinds : (List Int)) (p : TPart.D) (h_columns : Sm (Ty.sl TColumn) columns) (h_kinds : Sm (Ty.sl (Ty.int .i64)) kinds) (h_p : Sm TPart p) (p0 : kinds.length ≤ 1000) : F.spec_l4Step columns kinds p = some (M.l4Step columns kinds p) := by
 obtain ⟨o, s, e, _⟩ := spec_step_is (columns := columns) p p0 h_columns.1
 unfold M.l4Step
 rw [e]
 rfl
theorem F.spec_ExprKind_eq (columns : LC) (e : LPt) (h_columns : Sm (Ty.sl TColumn) columns) (h_e : Sm (Ty.sl TPart) e) : F.spec_ExprKind columns e = some (M.exprKind columns e) := by
 unfold F.spec_ExprKind M.exprKind
 cases M.columnsOk columns
 ·rfl
 by_cases hl : e.length ≤ 12
 ·rw [decide_eq_false (show ¬ (12 : Int) < (e.length : Int) by omega), decide_eq_true hl]
  obtain ⟨o, s, h1, h2⟩ := spec_kind_run (columns := columns) (E := e) (by omega) h_columns.1 e.length 0 [] (by omega) (by omega) (by simp; omega)
  rw [show (0 : Int) = ((0 : Nat) : Int) from rfl, h1]
  rw [List.drop_zero] at h2
  unfold StepIs at h2
  cases hk : M.kindRun columns e [] with
  | none =>
   rw [hk] at h2
   simp only at h2
   subst h2
   rfl
  | some s' =>
   rw [hk] at h2
   obtain ⟨rfl, rfl⟩ := h2
   match s with
   | [] => rfl
   | [a] => exact guardD_pos (by simp)
   | a :: b :: l =>
    have : ¬ ((a :: b :: l).length : Int) = 1 := by simp; omega
    simp only [Option.bind_some, this, decide_false]
    rfl
 ·rw [decide_eq_true (show (12 : Int) < (e.length : Int) by omega), decide_eq_false hl]
  rfl
theorem F.spec_ExprColumns_eq (columns : LC) (e : LPt) (h_columns : Sm (Ty.sl TColumn) columns) (h_e : Sm (Ty.sl TPart) e) : F.spec_ExprColumns columns e = some (M.exprColumns columns e) := by
 unfold F.spec_ExprColumns M.exprColumns
 have hl := h_columns.1
 by_cases hk : 0 ≤ M.exprKind columns e
 ·rw [decide_eq_true hk, cond_true, while_pick (fun k => e.any fun p : TPart.D => decide (p.1 = (2 : Int)) && decide (p.2.1 = k)) (columns.length : Int) (fun i s i0 i1 hs => by
   unfold F.spec_ExprColumns_l0
   simp only
   rw [decide_eq_true i1, decide_eq_true hk]
   have hf := (M.each_fold (f := F.spec_ExprColumns_l2 columns e i s) (fun v (z : TPart.D) => v || (decide (z.1 = (2 : Int)) && decide (z.2.1 = i))) (fun _ => True) (xs := e) (s := false) trivial (fun z hz v _ => ⟨by
    unfold F.spec_ExprColumns_l2
    cases v <;> cases decide (z.1 = (2 : Int)) <;> simp, trivial⟩)).1
   rw [fold_any, Bool.false_or] at hf
   simp only [show ((true : Bool) == true) = true from rfl, cond_true]
   rw [hf, thenD_inl, guardD_pos (by unfold lim; simp; omega), wrap64_id' (n := i + (1 : Int)) (by omega) (by omega)]
   cases e.any fun p : TPart.D => decide (p.1 = (2 : Int)) && decide (p.2.1 = i) <;> rfl) (fun i s i0 i1 => by
   unfold F.spec_ExprColumns_l0
   simp only
   rw [decide_eq_false (Int.not_lt.2 i1)]
   rfl)]
  rfl
 ·rw [decide_eq_false hk, cond_false, whileD_step]
  unfold F.spec_ExprColumns_l0
  simp only
  rw [decide_eq_false hk]
  cases decide ((0 : Int) < (columns.length : Int)) <;> rfl
theorem F.spec_l4Sum_eq (a : TValue.D) (b : TValue.D) (h_a : Sm TValue a) (h_b : Sm TValue b) : F.spec_l4Sum a b = some (M.sum a b) := by
 unfold F.spec_l4Sum M.sum
 have e : (0 : Int) - 9999 = -9999 := rfl
 cases decide (a.1 = (0 : Int)) <;> cases decide (b.1 = (0 : Int)) <;> cases M.inR (wrap64 (a.2.1 + b.2.1)) (-9999) 9999 <;> rfl
theorem F.spec_ValueOf_eq (truth : Int)  : F.spec_ValueOf truth = some (M.valueOf truth) := by
 unfold F.spec_ValueOf M.valueOf M.inR
 by_cases h0 : truth = 0
 ·subst h0; rfl
 ·by_cases h1 : truth = 1
  ·subst h1; rfl
  ·have h2 : ¬ (0 ≤ truth ∧ truth ≤ 1) := by omega
   simp only [h0, h1, decide_false]
   by_cases h3 : 0 ≤ truth
   ·have h4 : ¬ truth ≤ 1 := by omega
    simp [h3, h4]
   ·simp [h3]
theorem F.spec_l2Bool_eq (b : Bool)  : F.spec_l2Bool b = some (M.bool b) := by
 unfold F.spec_l2Bool M.bool
 rw [cond_some]
theorem F.spec_l1Less_eq (a : Int) (b : Int)  : F.spec_l1Less a b = some (M.less a b) := by
 unfold F.spec_l1Less M.less
 rw [cond_some]
theorem F.spec_l1Cmp_eq (a : ByteArray) (b : ByteArray) (h_a : Sm Ty.str a) (h_b : Sm Ty.str b) : F.spec_l1Cmp a b = some (M.cmpS a b) := by
 unfold F.spec_l1Cmp M.cmpS
 simp only [cond_some]
theorem F.spec_ValueOrder_eq (a : TValue.D) (b : TValue.D) (h_a : Sm TValue a) (h_b : Sm TValue b) : F.spec_ValueOrder a b = some (M.valueOrder a b) := by
 unfold F.spec_ValueOrder M.valueOrder
 cases M.valueOk a
 ·rfl
 cases M.valueOk b
 ·rfl
 unfold M.order M.less M.cmpI
 by_cases h1 : a.1 = b.1
 ·by_cases h2 : a.2.1 = b.2.1
  ·simp [h1, h2, M.orI]
   generalize M.cmpS a.2.2.1 b.2.2.1 = c
   by_cases hc : c = 0 <;> simp [hc]
  ·rcases Int.lt_or_gt_of_ne h2 with h | h
   ·have h3 : ¬ b.2.1 < a.2.1 := Int.lt_asymm h
    simp [h1, h2, h, h3, M.orI]
    rfl
   ·have h3 : ¬ a.2.1 < b.2.1 := Int.lt_asymm h
    simp [h1, h2, h, h3, M.orI]
    rfl
 ·rcases Int.lt_or_gt_of_ne h1 with h | h
  ·have h3 : ¬ b.1 < a.1 := Int.lt_asymm h
   simp [h1, h, h3, M.orI]
   rfl
  ·have h3 : ¬ a.1 < b.1 := Int.lt_asymm h
   simp [h1, h, h3, M.orI]
   rfl
theorem F.spec_Compare_eq (kind : Int) (a : TValue.D) (b : TValue.D) (h_a : Sm TValue a) (h_b : Sm TValue b) : F.spec_Compare kind a b = some (M.compare kind a b) := by
 unfold F.spec_Compare M.compare M.valueOrder M.cmpTruth
 cases M.inR kind 1 4
 ·rfl
 cases M.valueOk a
 ·rfl
 cases M.valueOk b
 ·rfl
 cases decide (a.1 = (0 : Int)) <;> cases decide (b.1 = (0 : Int)) <;> cases decide (a.1 = b.1) <;> cases decide (kind = 1) <;> cases decide (kind = 2) <;> cases decide (kind = 3) <;> rfl
theorem F.spec_TruthOk_eq (n : Int)  : F.spec_TruthOk n = some (M.inR n 0 2) := by
 rfl
theorem F.spec_l2Sure_eq (n : Int) (p0 : M.inR n 0 2 = true) : F.spec_l2Sure n = some (M.sure n) := by
 have h3 : n = 0 ∨ n = 1 ∨ n = 2 := by
  unfold M.inR at p0
  simp at p0
  omega
 rcases h3 with rfl | rfl | rfl <;> (unfold F.spec_l2Sure; (repeat rw [guardD_pos (by decide)]); rfl)
theorem F.spec_AndOf_eq (a : Int) (b : Int)  : F.spec_AndOf a b = some (M.andOf a b) := by
 unfold F.spec_AndOf M.andOf M.fold
 cases ha : M.inR a 0 2
 ·rfl
 cases hb : M.inR b 0 2
 ·rfl
 have h3 : ∀ n, M.inR n 0 2 = true → n = 0 ∨ n = 1 ∨ n = 2 := by
  intro n hn
  unfold M.inR at hn
  simp at hn
  omega
 rcases h3 a ha with rfl | rfl | rfl <;> rcases h3 b hb with rfl | rfl | rfl <;> (repeat rw [guardD_pos (by rfl)]) <;> rfl
theorem F.spec_TruthOf_eq (v : TValue.D) (h_v : Sm TValue v) : F.spec_TruthOf v = some (M.truthOf v) := by
 unfold F.spec_TruthOf M.truthOf
 cases hv : M.valueOk v
 ·rfl
 simp only [Bool.not_true, cond_true, cond_false]
 unfold M.valueOk at hv
 by_cases h0 : v.1 = (0 : Int)
 ·simp [h0]
 ·by_cases h1 : v.1 = (1 : Int)
  ·simp [h1]
  ·by_cases h2 : v.1 = (2 : Int)
   ·simp [h2]
   ·by_cases h3 : v.1 = (3 : Int)
    ·simp [h3]
    ·simp [h0, h1, h2, h3] at hv
theorem F.spec_OrOf_eq (a : Int) (b : Int)  : F.spec_OrOf a b = some (M.orOf a b) := by
 unfold F.spec_OrOf M.orOf M.fold
 cases ha : M.inR a 0 2
 ·rfl
 cases hb : M.inR b 0 2
 ·rfl
 have h3 : ∀ n, M.inR n 0 2 = true → n = 0 ∨ n = 1 ∨ n = 2 := by
  intro n hn
  unfold M.inR at hn
  simp at hn
  omega
 rcases h3 a ha with rfl | rfl | rfl <;> rcases h3 b hb with rfl | rfl | rfl <;> (repeat rw [guardD_pos (by rfl)]) <;> rfl
theorem F.spec_NotOf_eq (a : Int)  : F.spec_NotOf a = some (M.notOf a) := by
 unfold F.spec_NotOf M.notOf
 cases ha : M.inR a 0 2
 ·unfold M.inR at ha
  simp at ha
  have h0 : ¬ a = 0 := by omega
  have h1 : ¬ a = 1 := by omega
  have h2 : ¬ a = 2 := by omega
  simp [h0, h1, h2]
 ·have h3 : a = 0 ∨ a = 1 ∨ a = 2 := by
   unfold M.inR at ha
   simp at ha
   omega
  rcases h3 with rfl | rfl | rfl <;> (repeat rw [guardD_pos (by rfl)]) <;> rfl
theorem F.spec_l4Do_eq (row : LV) (values : LV) (p : TPart.D) (h_row : Sm (Ty.sl TValue) row) (h_values : Sm (Ty.sl TValue) values) (h_p : Sm TPart p) (p0 : values.length ≤ 1000) (p1 : M.takes p ≤ (values.length : Int)) (p2 : 1 ≤ p.1 ∧ p.1 ≤ 8) (p3 : M.colIn p row.length) : F.spec_l4Do row values p = some (M.valStep row values p) := by
 exact spec_do_is p values (show Sm TPart p from h_p) h_values p0 p1 p2 p3
theorem F.spec_l4Value_eq (row : LV) (e : LPt) (h_row : Sm (Ty.sl TValue) row) (h_e : Sm (Ty.sl TPart) e) (p0 : M.exprSafe row.length e) : F.spec_l4Value row e = some (M.exprValue row e) := by
 unfold F.spec_l4Value M.exprValue
 obtain ⟨h1, h2⟩ := run_vals (f := F.spec_l4Value_l0 row e) h_row (fun p st hp hs hl h1 hk hc => spec_val_step p st hs hl h1 hk hc) e [] h_e.2 (sm_nil TValue) (by simp; have := p0.1; omega) p0.2
 rw [h1, thenD_inl, guardD_pos (by omega)]
theorem F.spec_ExprFolded_eq (columns : LC) (e : LPt) (h_columns : Sm (Ty.sl TColumn) columns) (h_e : Sm (Ty.sl TPart) e) : F.spec_ExprFolded columns e = some (M.exprFolded columns e) := by
 unfold F.spec_ExprFolded M.exprFolded
 by_cases hk : M.exprKind columns e < 0
 ·rw [decide_eq_true hk]
  rfl
 have hk' : 0 ≤ M.exprKind columns e := by omega
 have hsafe := kind_safe hk'
 rw [decide_eq_false hk, cond_false, cond_false]
 simp only [letD_eq, M.take_all]
 
 by_cases hn : (e.filter fun p : TPart.D => decide (p.1 = (2 : Int))).length = 0
 ·rw [decide_eq_true (show (((e.filter fun p : TPart.D => decide (p.1 = (2 : Int))).length : Int) = 0) by omega), decide_eq_true (show (((M.exprColumns columns e).length : Int) = 0) by have := (M.columns_none hk' hsafe).2 hn; omega), cond_true, cond_true, guardD_pos (show M.exprSafe ([] : List TValue.D).length e from M.safe_none hsafe hn)]
  rw [guardD_pos (by unfold lim; simp)]
  cases decide ((M.exprValue [] e).1 = (0 : Int)) <;> rfl
 ·rw [decide_eq_false (show ¬ (((e.filter fun p : TPart.D => decide (p.1 = (2 : Int))).length : Int) = 0) by omega), decide_eq_false (show ¬ (((M.exprColumns columns e).length : Int) = 0) by intro h; exact hn ((M.columns_none hk' hsafe).1 (by omega)))]
  rfl
theorem F.laws_toColumn_eq (x : TColumn.D)  : F.laws_toColumn x = some x := by
 rfl
theorem F.laws_toColumnS_eq (x : LC) (h_x : Sm (Ty.sl TColumn) x) : F.laws_toColumnS x = some x := by
 unfold F.laws_toColumnS
 exact M.to_eq (t := TColumn) (fun i v h0 h1 h2 => by simp only [F.laws_toColumnS_l0, letD_eq, guardD_pos h2])
theorem F.laws_toValue_eq (x : TValue.D) (h_x : Sm TValue x) : F.laws_toValue x = some x := by
 rfl
theorem F.laws_toPart_eq (x : TPart.D) (h_x : Sm TPart x) : F.laws_toPart x = some x := by
 rfl
theorem F.laws_toPartS_eq (x : LPt) (h_x : Sm (Ty.sl TPart) x) : F.laws_toPartS x = some x := by
 unfold F.laws_toPartS
 exact M.to_eq (t := TPart) (fun i v h0 h1 h2 => by simp only [F.laws_toPartS_l0, letD_eq, guardD_pos h2])
theorem F.impl_between_eq (n : Int) (low : Int) (high : Int)  : F.impl_between n low high = some (M.inR n low high) := by
 unfold F.impl_between M.inR
 cases decide (low ≤ n) <;> rfl
theorem F.impl_ColumnsOk_1_eq (c : TColumn.D)  : F.impl_ColumnsOk_1 c = some (!M.columnOk c) := by
 rfl
theorem F.IndexFunc_impl_ColumnsOk_1_eq (xs : LC) (h_xs : Sm (Ty.sl TColumn) xs) : F.IndexFunc_impl_ColumnsOk_1 xs = some (M.idx (t := TColumn) (fun e => !M.columnOk e) xs) := by
 exact indexFunc_eq (t := TColumn) (p := (fun e => !M.columnOk e)) (fun i h0 h1 => by simp only [F.IndexFunc_impl_ColumnsOk_1_l0, cond_some])
theorem F.ContainsFunc_impl_ColumnsOk_1_eq (xs : LC) (h_xs : Sm (Ty.sl TColumn) xs) : F.ContainsFunc_impl_ColumnsOk_1 xs = some (List.any xs (fun e => !M.columnOk e)) := by
 unfold F.ContainsFunc_impl_ColumnsOk_1
 exact containsFunc_eq (t := TColumn)
theorem F.impl_ColumnsOk_eq (columns : LC) (h_columns : Sm (Ty.sl TColumn) columns) : F.impl_ColumnsOk columns = some (M.columnsOk columns) := by
 unfold F.impl_ColumnsOk M.columnsOk
 rw [cond_andb, show decide ((columns.length : Int) ≤ 4) = decide (columns.length ≤ 4) from decide_eq_decide.2 (by omega)]
 rw [List.all_eq_not_any_not]
theorem F.impl_Part_takes_eq (p : TPart.D) (h_p : Sm TPart p) : F.impl_Part_takes p = some (M.takes p) := by
 unfold F.impl_Part_takes M.takes
 generalize decide (p.1 = (3 : Int)) = c3
 generalize decide (p.1 = (4 : Int)) = c4
 generalize decide (p.1 = (5 : Int)) = c5
 generalize decide (p.1 = (6 : Int)) = c6
 generalize decide (p.1 = (7 : Int)) = c7
 generalize decide (p.1 = (8 : Int)) = c8
 cases c3 <;> cases c4 <;> cases c5 <;> cases c6 <;> cases c7 <;> cases c8 <;> rfl
theorem F.impl_letters_eq (s : ByteArray) (h_s : Sm Ty.str s) : F.impl_letters s = some (M.lower (byteInts s)) := by
 unfold F.impl_letters M.lower
 rw [then_all (fun n => M.inR n 97 122) () (fun x hx => by
  obtain ⟨h0, h1⟩ := byte_mem hx
  simp only [F.impl_letters_l0, cond_notb, cond_some, wrap64_id' (n := x) (by omega) (by omega)])]
 cases (byteInts s).all fun n => M.inR n 97 122 <;> rfl
theorem F.impl_Value_ok_eq (v : TValue.D) (h_v : Sm TValue v) : F.impl_Value_ok v = some (M.valueOk v) := by
 unfold F.impl_Value_ok M.valueOk M.text
 simp only [cond_andb]
 rw [show decide ((v.2.2.1.size : Int) ≤ 6) = decide (v.2.2.1.size ≤ 6) from decide_eq_decide.2 (by omega)]
 simp only [Ty.beq]
 cases h0 : decide (v.1 = (0 : Int))
 ·generalize decide (v.1 = (1 : Int)) = b1
  generalize decide (v.1 = (2 : Int)) = b2
  generalize decide (v.1 = (3 : Int)) = b3
  generalize decide (v.2.1 = (0 : Int)) = c0
  generalize decide (v.2.2.1.size ≤ 6) = c6
  generalize M.inR v.2.1 (-9999) 9999 = c1
  generalize M.inR v.2.1 0 1 = c3
  generalize decide (v.2.2.1 = M.none_) = e0
  cases b1 <;> cases b2 <;> cases b3 <;> cases c0 <;> cases c6 <;> cases c1 <;> cases c3 <;> cases e0 <;> rfl
 ·simp only [cond_true, Bool.true_and, Bool.and_true]
theorem F.impl_Part_tells_eq (p : TPart.D) (columns : LC) (h_p : Sm TPart p) (h_columns : Sm (Ty.sl TColumn) columns) : F.impl_Part_tells p columns = some (M.tells p columns) := by
 unfold F.impl_Part_tells M.tells M.noV
 rw [wrap_pred _ h_columns.1]
 simp only [cond_andb, show Ty.beq TValue p.2.2.1 ((0 : Int), (0 : Int), (⟨#[]⟩ : ByteArray), ()) = Ty.beq TValue p.2.2.1 M.zeroV from rfl]
 generalize Ty.beq TValue p.2.2.1 M.zeroV = nv
 by_cases e1 : p.1 = (1 : Int)
 ·simp only [e1, decide_true, cond_true]
 by_cases e2 : p.1 = (2 : Int)
 ·simp only [e2, decide_true, cond_true, Int.reduceEq, decide_false, cond_false]
 by_cases e4 : p.1 = (4 : Int)
 ·simp only [e4, decide_true, cond_true, Int.reduceEq, decide_false, cond_false]
 by_cases e3 : p.1 = (3 : Int)
 ·simp only [e3, decide_true, cond_true, Int.reduceEq, decide_false, cond_false]
  rfl
 by_cases e5 : p.1 = (5 : Int)
 ·simp only [e5, decide_true, cond_true, Int.reduceEq, decide_false, cond_false]
  rfl
 by_cases e6 : p.1 = (6 : Int)
 ·simp only [e6, decide_true, cond_true, Int.reduceEq, decide_false, cond_false]
  rfl
 by_cases e7 : p.1 = (7 : Int)
 ·simp only [e7, decide_true, cond_true, Int.reduceEq, decide_false, cond_false]
  rfl
 by_cases e8 : p.1 = (8 : Int)
 ·simp only [e8, decide_true, cond_true, Int.reduceEq, decide_false, cond_false]
  rfl
 simp only [e1, e2, e3, e4, e5, e6, e7, e8, decide_false, cond_false, inR_out e3 e4 e5 e6 e7 e8]
theorem F.impl_Part_kind_1_1_eq (k : Int) (kind : Int)  : F.impl_Part_kind_1_1 k kind = some (!decide (k = kind)) := by
 rfl
theorem F.IndexFunc_impl_Part_kind_1_1_eq (xs : (List Int)) (k0 : Int) (h_xs : Sm (Ty.sl (Ty.int .i64)) xs) : F.IndexFunc_impl_Part_kind_1_1 xs k0 = some (M.idx (t := (Ty.int .i64)) (fun e => !decide (e = k0)) xs) := by
 exact indexFunc_eq (t := (Ty.int .i64)) (p := (fun e => !decide (e = k0))) (fun i h0 h1 => by simp only [F.IndexFunc_impl_Part_kind_1_1_l0, cond_some])
theorem F.ContainsFunc_impl_Part_kind_1_1_eq (xs : (List Int)) (k0 : Int) (h_xs : Sm (Ty.sl (Ty.int .i64)) xs) : F.ContainsFunc_impl_Part_kind_1_1 xs k0 = some (List.any xs (fun e => !decide (e = k0))) := by
 unfold F.ContainsFunc_impl_Part_kind_1_1
 exact containsFunc_eq (t := (Ty.int .i64))
theorem F.impl_Part_kind_1_eq (kind : Int) (ins : (List Int)) (h_ins : Sm (Ty.sl (Ty.int .i64)) ins) : F.impl_Part_kind_1 kind ins = some (List.all ins (fun k => decide (k = kind))) := by
 unfold F.impl_Part_kind_1
 rw [List.all_eq_not_any_not]
theorem F.impl_Part_kind_eq (p : TPart.D) (columns : LC) (inp : (List Int)) (h_p : Sm TPart p) (h_columns : Sm (Ty.sl TColumn) columns) (h_inp : Sm (Ty.sl (Ty.int .i64)) inp) (p0 : M.tells p columns = true) (p1 : (inp.length : Int) = M.takes p) : F.impl_Part_kind p columns inp = some (M.partKind p columns inp) := by
 unfold F.impl_Part_kind M.partKind
 obtain ⟨_, hc⟩ := tells_kind p0
 by_cases e1 : p.1 = (1 : Int)
 ·simp only [e1, decide_true, cond_true]
 by_cases e2 : p.1 = (2 : Int)
 ·obtain ⟨c0, c1⟩ := hc e2
  simp only [e2, decide_true, cond_true, Int.reduceEq, decide_false, cond_false]
  rw [guardD_pos c0, guardD_pos c1]
 by_cases e4 : p.1 = (4 : Int)
 ·rw [takes_two (.inr (.inl e4))] at p1
  simp only [e4, decide_true, cond_true, Int.reduceEq, decide_false, cond_false]
  repeat rw [guardD_pos (by omega)]
 cases decide (p.1 = (3 : Int)) <;> cases decide (p.1 = (8 : Int)) <;> simp [e1, e2, e4]
theorem F.impl_ExprKind_eq (columns : LC) (e : LPt) (h_columns : Sm (Ty.sl TColumn) columns) (h_e : Sm (Ty.sl TPart) e) : F.impl_ExprKind columns e = some (M.exprKind columns e) := by
 unfold F.impl_ExprKind M.exprKind
 cases M.columnsOk columns
 ·rfl
 by_cases hl : e.length ≤ 12
 ·rw [decide_eq_false (show ¬ (12 : Int) < (e.length : Int) by omega), decide_eq_true hl]
  rw [impl_kind_run e [] (by simp; omega)]
  cases M.kindRun columns e [] with
  | none => rfl
  | some s =>
   match s with
   | [] => rfl
   | [a] => exact guardD_pos (by simp)
   | a :: b :: l =>
    have : ¬ ((a :: b :: l).length : Int) = 1 := by simp; omega
    simp only [this, decide_false]
    rfl
 ·rw [decide_eq_true (show (12 : Int) < (e.length : Int) by omega), decide_eq_false hl]
  rfl
theorem F.cmp_isNaN_int_eq (x : Int)  : F.cmp_isNaN_int x = some false := by
 unfold F.cmp_isNaN_int
 simp
theorem F.cmp_Less_int_eq (x : Int) (y : Int)  : F.cmp_Less_int x y = some (decide (x < y)) := by
 rfl
theorem F.slices_insertionSort_eq (xs : (List Int)) (a : Int) (b : Int) (h_xs : Sm (Ty.sl (Ty.int .i64)) xs) (p0 : a = 0) (p1 : b = (xs.length : Int)) : F.slices_insertionSort xs a b = some (M.isort xs) := by
 subst p0
 subst p1
 have hl := h_xs.1
 unfold F.slices_insertionSort
 rw [guardD_pos (by unfold top63; omega), show wrap64 ((0 : Int) + (1 : Int)) = 1 by decide, guardD_pos (by decide)]
 match xs, hl with
 | [], _ => rfl
 | x :: R, hl =>
  simp only [List.length_cons] at hl
  have := isort_run (xs := x :: R) (by simp only [List.length_cons]; omega) ((x :: R).length : Int) R [x] 1 (by simp) (by simp only [List.length_cons, List.length_nil]; omega) (by simp; omega)
  rw [show ([x].reverse ++ R : List Int) = x :: R by simp] at this
  rw [this]
  rfl
theorem F.slices_pdqsort_eq (xs : (List Int)) (a : Int) (b : Int) (limit : Int) (h_xs : Sm (Ty.sl (Ty.int .i64)) xs) (p0 : a = 0) (p1 : b = (xs.length : Int)) (p2 : xs.length ≤ 12) : F.slices_pdqsort xs a b limit = some (M.isort xs) := by
 subst p0
 subst p1
 unfold F.slices_pdqsort
 rw [whileD_step]
 unfold F.slices_pdqsort_l0
 rw [wrap64_id' (n := (xs.length : Int) - 0) (by omega) (by omega), decide_eq_true (by omega), cond_true, guardD_pos rfl, guardD_pos rfl]
 rfl
theorem F.bits_Len64_eq (x : Int) (p0 : 0 ≤ x) (p1 : x ≤ 12) : F.bits_Len64 x = some (M.len64 x) := by
 have h : ∃ v, F.bits_Len64 x = some v := by
  unfold F.bits_Len64
  rw [decide_eq_false (show ¬ (4294967296 : Int) ≤ x by omega), cond_false, decide_eq_false (show ¬ (65536 : Int) ≤ x by omega), cond_false, decide_eq_false (show ¬ (256 : Int) ≤ x by omega), cond_false, guardD_pos (by omega), guardD_pos (Int.lt_of_lt_of_le (b := 256) (by omega) (by decide +kernel))]
  exact ⟨_, rfl⟩
 obtain ⟨v, hv⟩ := h
 unfold M.len64
 rw [hv]
 rfl
theorem F.bits_Len_eq (x : Int) (p0 : 0 ≤ x) (p1 : x ≤ 12) : F.bits_Len x = some (M.len64 x) := by
 rfl
theorem F.slices_Sort_eq (xs : (List Int)) (h_xs : Sm (Ty.sl (Ty.int .i64)) xs) (p0 : xs.length ≤ 12) : F.slices_Sort xs = some (M.isort xs) := by
 unfold F.slices_Sort
 have hw : wrapK .u64 (xs.length : Int) = (xs.length : Int) := by
  show IntKind.wrap .u64 (xs.length : Int) = _
  simp [IntKind.wrap, IntKind.bits, IntKind.signed]
  omega
 rw [hw, guardD_pos (by omega), guardD_pos (by omega), guardD_pos rfl, guardD_pos rfl]
 rfl
theorem F.clone_Inti64_eq (xs : (List Int)) (h_xs : Sm (Ty.sl (Ty.int .i64)) xs) : F.clone_Inti64 xs = some xs := by
 exact M.clone2_eq (t := (Ty.int .i64))
theorem F.slices_Compact_eq (xs : (List Int)) (h_xs : Sm (Ty.sl (Ty.int .i64)) xs) : F.slices_Compact xs = some (M.compact xs) := by
 exact compact_run h_xs.1
theorem F.impl_exprColumns_eq (e : LPt) (h_e : Sm (Ty.sl TPart) e) (p0 : e.length ≤ 12) : F.impl_exprColumns e = some (M.exprCols e) := by
 unfold F.impl_exprColumns M.exprCols
 have hl := h_e.1
 rw [each_pick (fun p : TPart.D => decide (p.1 = (2 : Int))) (fun p : TPart.D => p.2.1) (fun z hz s hs => by
  unfold F.impl_exprColumns_l0
  rw [guardD_pos (by unfold lim; simp; omega)]
  cases decide (z.1 = (2 : Int)) <;> rfl), thenD_inl]
 have hs : Sm (.sl (.int .i64)) ((e.filter fun p : TPart.D => decide (p.1 = (2 : Int))).map fun p => p.2.1) := ⟨by show (List.map _ _).length ≤ 1048576; rw [List.length_map]; exact Nat.le_trans (List.length_filter_le _ _) hl, fun _ _ => trivial⟩
 rw [guardD_pos hs, guardD_pos (by rw [List.length_map]; exact Nat.le_trans (List.length_filter_le _ _) p0), letD_eq, guardD_pos (M.isort_sm hs), letD_eq, guardD_pos (M.compact_sm (M.isort_sm hs)), letD_eq, M.take_all]
theorem F.impl_ValueOf_eq (truth : Int)  : F.impl_ValueOf truth = some (M.valueOf truth) := by
 unfold F.impl_ValueOf M.valueOf
 cases M.inR truth 0 1 <;> rfl
theorem F.impl_truthIf_eq (b : Bool)  : F.impl_truthIf b = some (M.bool b) := by
 unfold F.impl_truthIf M.bool
 rw [cond_some]
theorem F.cmp_Or_int_eq (vals : (List Int)) (h_vals : Sm (Ty.sl (Ty.int .i64)) vals) : F.cmp_Or_int vals = some (M.orI vals) := by
 unfold F.cmp_Or_int
 suffices h : ∀ (A B : List Int), thenD (eachD (F.cmp_Or_int_l0 A) B ()) (fun v0 : Unit => some (0 : Int)) (fun q0 : Int => some q0) = some (M.orI B) from h vals vals
 intro A B
 induction B with
 | nil => rfl
 | cons x l ih =>
  rw [eachD_cons]
  simp only [F.cmp_Or_int_l0, M.orI]
  by_cases hx : x = 0
  ·simp only [hx, decide_true, Bool.not_true, cond_false, cond_true, thenD_inl]
   exact ih
  ·simp [hx]
theorem F.cmp_Compare_int_eq (x : Int) (y : Int)  : F.cmp_Compare_int x y = some (M.cmpI x y) := by
 unfold F.cmp_Compare_int M.cmpI
 simp only [cond_false, cond_some]
theorem F.cmp_isNaN_string_eq (x : ByteArray) (h_x : Sm Ty.str x) : F.cmp_isNaN_string x = some false := by
 unfold F.cmp_isNaN_string
 simp
theorem F.cmp_Compare_string_eq (x : ByteArray) (y : ByteArray) (h_x : Sm Ty.str x) (h_y : Sm Ty.str y) : F.cmp_Compare_string x y = some (M.cmpS x y) := by
 unfold F.cmp_Compare_string M.cmpS
 simp only [cond_false, cond_some]
theorem F.impl_Value_order_eq (v : TValue.D) (w : TValue.D) (h_v : Sm TValue v) (h_w : Sm TValue w) : F.impl_Value_order v w = some (M.order v w) := by
 unfold F.impl_Value_order
 rw [guardD_pos ⟨by simp, fun _ _ => trivial⟩]
 rfl
theorem F.impl_Compare_eq (kind : Int) (a : TValue.D) (b : TValue.D) (h_a : Sm TValue a) (h_b : Sm TValue b) : F.impl_Compare kind a b = some (M.compare kind a b) := by
 unfold F.impl_Compare M.compare M.cmpTruth
 cases hk : M.inR kind 1 4
 ·rfl
 cases M.valueOk a
 ·rfl
 cases M.valueOk b
 ·rfl
 have h4 : decide (kind = 1) = false → decide (kind = 2) = false → decide (kind = 3) = false → decide (kind = 4) = true := by
  unfold M.inR at hk
  simp at hk ⊢
  omega
 cases decide (a.1 = (0 : Int)) <;> cases decide (b.1 = (0 : Int)) <;> cases decide (a.1 = b.1) <;> cases h1 : decide (kind = 1) <;> cases h2 : decide (kind = 2) <;> cases h3 : decide (kind = 3) <;> (try rw [h4 h1 h2 h3]) <;> cases decide (M.order a b = 0) <;> cases decide (M.order a b < 0) <;> rfl
theorem F.impl_TruthOk_eq (n : Int)  : F.impl_TruthOk n = some (M.inR n 0 2) := by
 rfl
theorem F.impl_fold_eq (a : Int) (b : Int) (alone : Int) (p0 : 0 ≤ alone ∧ alone ≤ 1) : F.impl_fold a b alone = some (M.fold a b alone) := by
 unfold F.impl_fold M.fold
 rw [wrap64_id' (n := 1 - alone) (by omega) (by omega)]
 cases M.inR a 0 2
 ·rfl
 cases M.inR b 0 2
 ·rfl
 cases decide (a = alone) <;> cases decide (b = alone) <;> cases decide (a = 2) <;> cases decide (b = 2) <;> rfl
theorem F.impl_AndOf_eq (a : Int) (b : Int)  : F.impl_AndOf a b = some (M.andOf a b) := by
 unfold F.impl_AndOf M.andOf
 rw [guardD_pos (by decide)]
theorem F.impl_TruthOf_eq (v : TValue.D) (h_v : Sm TValue v) : F.impl_TruthOf v = some (M.truthOf v) := by
 unfold F.impl_TruthOf M.truthOf
 cases M.valueOk v <;> simp only [Bool.not_true, Bool.not_false, cond_true, cond_false, cond_some]
theorem F.impl_OrOf_eq (a : Int) (b : Int)  : F.impl_OrOf a b = some (M.orOf a b) := by
 unfold F.impl_OrOf M.orOf
 rw [guardD_pos (by decide)]
theorem F.impl_NotOf_eq (a : Int)  : F.impl_NotOf a = some (M.notOf a) := by
 unfold F.impl_NotOf M.notOf
 simp only [cond_some]
theorem F.impl_Part_value_eq (p : TPart.D) (row : LV) (inp : LV) (h_p : Sm TPart p) (h_row : Sm (Ty.sl TValue) row) (h_inp : Sm (Ty.sl TValue) inp) (p0 : (inp.length : Int) = M.takes p) (p1 : M.colIn p row.length) (p2 : 1 ≤ p.1 ∧ p.1 ≤ 8) : F.impl_Part_value p row inp = some (M.partValue p row inp) := by
 unfold F.impl_Part_value M.partValue
 have hz : (((0 : Int), (0 : Int), (⟨#[]⟩ : ByteArray), ()) : TValue.D) = M.zeroV := rfl
 by_cases e1 : p.1 = (1 : Int)
 ·simp only [e1, decide_true, cond_true]
 by_cases e2 : p.1 = (2 : Int)
 ·obtain ⟨c0, c1⟩ := p1 e2
  simp only [e2, decide_true, cond_true, Int.reduceEq, decide_false, cond_false]
  rw [guardD_pos c0, guardD_pos c1]
 by_cases e3 : p.1 = (3 : Int)
 ·rw [takes_two (.inl e3)] at p0
  simp only [e3, decide_true, cond_true, Int.reduceEq, decide_false, cond_false]
  repeat rw [guardD_pos (by omega)]
  generalize nth (t := TValue) inp 0 = a
  generalize nth (t := TValue) inp 1 = b
  unfold M.sum
  have hv : M.valueOk ((1 : Int), wrap64 (a.2.1 + b.2.1), (⟨#[]⟩ : ByteArray), ()) = M.inR (wrap64 (a.2.1 + b.2.1)) (-9999) 9999 := by unfold M.valueOk; simp
  rw [hv]
  cases decide (a.1 = (0 : Int)) <;> cases decide (b.1 = (0 : Int)) <;> cases M.inR (wrap64 (a.2.1 + b.2.1)) (-9999) 9999 <;> rfl
 by_cases e4 : p.1 = (4 : Int)
 ·rw [takes_two (.inr (.inl e4))] at p0
  simp only [e4, decide_true, cond_true, Int.reduceEq, decide_false, cond_false, letD_eq]
  repeat rw [guardD_pos (by omega)]
 by_cases e5 : p.1 = (5 : Int)
 ·rw [takes_two (.inr (.inr (.inl e5)))] at p0
  simp only [e5, decide_true, cond_true, Int.reduceEq, decide_false, cond_false, letD_eq]
  repeat rw [guardD_pos (by omega)]
 by_cases e6 : p.1 = (6 : Int)
 ·rw [takes_two (.inr (.inr (.inr e6)))] at p0
  simp only [e6, decide_true, cond_true, Int.reduceEq, decide_false, cond_false, letD_eq]
  repeat rw [guardD_pos (by omega)]
 by_cases e7 : p.1 = (7 : Int)
 ·rw [takes_one (.inl e7)] at p0
  simp only [e7, decide_true, cond_true, Int.reduceEq, decide_false, cond_false, letD_eq]
  repeat rw [guardD_pos (by omega)]
 ·simp only [e1, e2, e3, e4, e5, e6, e7, decide_false, cond_false, letD_eq]
  have e8 : p.1 = (8 : Int) := by
   rcases kinds_8 p2 with h | h | h | h | h | h | h | h <;> first | exact h | exact absurd h (by assumption)
  rw [takes_one (.inr e8)] at p0
  rw [guardD_pos (by omega)]
theorem F.impl_exprValue_eq (row : LV) (e : LPt) (h_row : Sm (Ty.sl TValue) row) (h_e : Sm (Ty.sl TPart) e) (p0 : M.exprSafe row.length e) : F.impl_exprValue row e = some (M.exprValue row e) := by
 unfold F.impl_exprValue M.exprValue
 obtain ⟨h1, h2⟩ := run_vals (f := F.impl_exprValue_l0 row e) h_row (fun p st hp hs hl h1 hk hc => impl_val_step p st hp hs hl h1 hk hc) e [] h_e.2 (sm_nil TValue) (by simp; have := p0.1; omega) p0.2
 rw [h1, thenD_inl, guardD_pos (by omega)]
theorem F.clone_TPart_eq (xs : LPt) (h_xs : Sm (Ty.sl TPart) xs) : F.clone_TPart xs = some xs := by
 exact M.clone2_eq (t := TPart)
theorem F.impl_ExprFolded_eq (columns : LC) (e : LPt) (h_columns : Sm (Ty.sl TColumn) columns) (h_e : Sm (Ty.sl TPart) e) : F.impl_ExprFolded columns e = some (M.exprFolded columns e) := by
 unfold F.impl_ExprFolded M.exprFolded
 by_cases hk : M.exprKind columns e < 0
 ·rw [decide_eq_true hk]
  rfl
 have hk' : 0 ≤ M.exprKind columns e := by omega
 have hsafe := kind_safe hk'
 rw [decide_eq_false hk, cond_false, cond_false]
 simp only [letD_eq, M.take_all]
 rw [guardD_pos hsafe.1]
 by_cases hn : (e.filter fun p : TPart.D => decide (p.1 = (2 : Int))).length = 0
 ·rw [decide_eq_true (show (((e.filter fun p : TPart.D => decide (p.1 = (2 : Int))).length : Int) = 0) by omega), decide_eq_true (show (((M.exprCols e).length : Int) = 0) by have := (M.cols_none e).2 hn; omega), cond_true, cond_true, guardD_pos (show M.exprSafe ([] : List TValue.D).length e from M.safe_none hsafe hn)]
  
  cases decide ((M.exprValue [] e).1 = (0 : Int)) <;> rfl
 ·rw [decide_eq_false (show ¬ (((e.filter fun p : TPart.D => decide (p.1 = (2 : Int))).length : Int) = 0) by omega), decide_eq_false (show ¬ (((M.exprCols e).length : Int) = 0) by intro h; exact hn ((M.cols_none e).1 (by omega)))]
  rfl
theorem F.laws_eqValue_eq (x : TValue.D) (y : TValue.D) (h_x : Sm TValue x) (h_y : Sm TValue y) (p0 : x = y) : F.laws_eqValue x y = some true := by
 subst p0
 unfold F.laws_eqValue
 simp [Ty.beq, M.refl_guard, M.guardD_true]
theorem F.laws_eqPart_eq (x : TPart.D) (y : TPart.D) (h_x : Sm TPart x) (h_y : Sm TPart y) (p0 : x = y) : F.laws_eqPart x y = some true := by
 subst p0
 unfold F.laws_eqPart
 simp [Ty.beq, M.refl_guard, M.guardD_true]
theorem F.laws_eqPartS_eq (x : LPt) (y : LPt) (h_x : Sm (Ty.sl TPart) x) (h_y : Sm (Ty.sl TPart) y) (p0 : x = y) : F.laws_eqPartS x y = some true := by
 subst p0
 unfold F.laws_eqPartS
 exact M.eq_eq (fun i h0 h1 => by simp only [F.laws_eqPartS_l0, guardD_pos h1, guardD_pos True.intro, guardD_pos trivial, decide_true, Bool.not_true, cond_false, M.refl_guard])
theorem F.laws_eqColumn_eq (x : TColumn.D) (y : TColumn.D) (p0 : x = y) : F.laws_eqColumn x y = some true := by
 subst p0
 unfold F.laws_eqColumn
 simp [Ty.beq]
theorem F.laws_eqColumnS_eq (x : LC) (y : LC) (h_x : Sm (Ty.sl TColumn) x) (h_y : Sm (Ty.sl TColumn) y) (p0 : x = y) : F.laws_eqColumnS x y = some true := by
 subst p0
 unfold F.laws_eqColumnS
 exact M.eq_eq (fun i h0 h1 => by simp only [F.laws_eqColumnS_l0, guardD_pos h1, guardD_pos True.intro, guardD_pos trivial, decide_true, Bool.not_true, cond_false, M.refl_guard])
theorem F.laws_markColumnS_eq (x : LC) (k : Int) (h_x : Ln (Ty.sl TColumn) x) (p0 : 0 ≤ k) (p1 : k + (M.count (Ty.sl TColumn) x : Int) ≤ M.big) : F.laws_markColumnS x k = some (M.mark (Ty.sl TColumn) x k, k + (M.count (Ty.sl TColumn) x : Int)) := by
 unfold F.laws_markColumnS
 refine M.mark_eq (e := TColumn) h_x p0 p1 (fun i v i0 i1 i2 k0 kb hs => ?_)
 obtain ⟨k, a⟩ := v
 replace i2 : i < (a.length : Int) := i2
 replace k0 : 0 ≤ k := k0
 have hc : M.count TColumn (nth (t := TColumn) a i) = (1 + (1 + 0)) := rfl
 replace kb : k + (M.count TColumn (nth (t := TColumn) a i) : Int) ≤ M.big := kb
 rw [hc] at kb
 unfold M.big at kb
 have he : ∀ z : Ty.D TColumn, nth (t := TColumn) (a.set i.toNat z) i = z := fun z => M.nth_set i0 i2
 have w0 : wrap64 (k + (1 : Int)) = k + (1 : Int) := wrap64_id' (by omega) (by omega)
 have w1 : wrap64 (k + (1 : Int) + (1 : Int)) = k + (1 : Int) + (1 : Int) := wrap64_id' (by omega) (by omega)
 simp only [F.laws_markColumnS_l0, letD_eq, List.set_set, he, w0, w1]
 try simp only [letD_eq, List.set_set, he, w0, w1]
 rw [hc]
 refine congrArg (fun q => some (Sum.inl q)) (Prod.ext ?_ rfl)
 show k + (1 : Int) + (1 : Int) = _
 omega
theorem F.laws_markText_eq (k : Int) (p0 : k ≤ M.big) : F.laws_markText k = some (M.markText k) := by
 unfold F.laws_markText M.markText
 by_cases hk : k ≤ 0
 ·rw [decide_eq_true hk, if_pos hk]
  rfl
 rw [decide_eq_false hk, if_neg hk, cond_false, M.digits_run (fun v h63 hs => by
  have hs' : (strOf [(48 + v.1.tmod 10) % 256]).size = 1 := rfl
  unfold F.laws_markText_l0
  by_cases h0 : 0 < v.1
  ·have e1 : wrap64 ((48 : Int) + v.1.tmod 10) = 48 + v.1.tmod 10 := by
    rw [Int.tmod_eq_emod_of_nonneg (by omega)]
    exact wrap64_id' (by omega) (by omega)
   have e2 : wrap64 (v.1.tdiv 10) = v.1.tdiv 10 := by
    rw [Int.tdiv_eq_ediv_of_nonneg (by omega)]
    exact wrap64_id' (by omega) (by omega)
   rw [decide_eq_true h0, if_pos h0, e1, e2, guardD_pos (by omega)]
   rfl
  ·rw [decide_eq_false h0, if_neg h0]
   rfl) 64 k _ (by unfold M.big at p0; omega) (by unfold M.big at p0; omega) (by decide)]
 show guardD _ _ = _
 rw [guardD_pos]
 have := M.markText_size k
 unfold M.markText at this
 rw [if_neg hk, ByteArray.size_append] at this
 have e1 : (⟨#[109]⟩ : ByteArray).size = 1 := rfl
 omega
theorem F.laws_markPartS_eq (x : LPt) (k : Int) (h_x : Ln (Ty.sl TPart) x) (p0 : 0 ≤ k) (p1 : k + (M.count (Ty.sl TPart) x : Int) ≤ M.big) : F.laws_markPartS x k = some (M.mark (Ty.sl TPart) x k, k + (M.count (Ty.sl TPart) x : Int)) := by
 unfold F.laws_markPartS
 refine M.mark_eq (e := TPart) h_x p0 p1 (fun i v i0 i1 i2 k0 kb hs => ?_)
 obtain ⟨k, a⟩ := v
 replace i2 : i < (a.length : Int) := i2
 replace k0 : 0 ≤ k := k0
 have hc : M.count TPart (nth (t := TPart) a i) = (1 + (1 + ((1 + (1 + (1 + 0))) + 0))) := rfl
 replace kb : k + (M.count TPart (nth (t := TPart) a i) : Int) ≤ M.big := kb
 rw [hc] at kb
 unfold M.big at kb
 have he : ∀ z : Ty.D TPart, nth (t := TPart) (a.set i.toNat z) i = z := fun z => M.nth_set i0 i2
 have w0 : wrap64 (k + (1 : Int)) = k + (1 : Int) := wrap64_id' (by omega) (by omega)
 have w1 : wrap64 (k + (1 : Int) + (1 : Int)) = k + (1 : Int) + (1 : Int) := wrap64_id' (by omega) (by omega)
 have w2 : wrap64 (k + (1 : Int) + (1 : Int) + (1 : Int)) = k + (1 : Int) + (1 : Int) + (1 : Int) := wrap64_id' (by omega) (by omega)
 have w3 : wrap64 (k + (1 : Int) + (1 : Int) + (1 : Int) + (1 : Int)) = k + (1 : Int) + (1 : Int) + (1 : Int) + (1 : Int) := wrap64_id' (by omega) (by omega)
 have w4 : wrap64 (k + (1 : Int) + (1 : Int) + (1 : Int) + (1 : Int) + (1 : Int)) = k + (1 : Int) + (1 : Int) + (1 : Int) + (1 : Int) + (1 : Int) := wrap64_id' (by omega) (by omega)
 simp only [F.laws_markPartS_l0, letD_eq, List.set_set, he, w0, w1, w2, w3, w4]
 repeat rw [guardD_pos (show k + (1 : Int) + (1 : Int) + (1 : Int) + (1 : Int) ≤ M.big by unfold M.big; omega)]
 try simp only [letD_eq, List.set_set, he, w0, w1, w2, w3, w4]
 rw [hc]
 refine congrArg (fun q => some (Sum.inl q)) (Prod.ext ?_ rfl)
 show k + (1 : Int) + (1 : Int) + (1 : Int) + (1 : Int) + (1 : Int) = _
 omega
theorem F.laws_heldPartS_eq (x : LPt) (k : Int) (h_x : Ln (Ty.sl TPart) x) (p0 : 0 ≤ k) (p1 : k + (M.count (Ty.sl TPart) x : Int) ≤ M.big) (p2 : M.mark (Ty.sl TPart) x k = x) : F.laws_heldPartS x k = some (k + (M.count (Ty.sl TPart) x : Int)) := by
 unfold F.laws_heldPartS
 refine M.held_eq (e := TPart) p0 p1 p2 (fun z k k0 kb hm => ?_)
 have hc : M.count TPart z = (1 + (1 + ((1 + (1 + (1 + 0))) + 0))) := rfl
 rw [hc] at kb
 unfold M.big at kb
 have w0 : wrap64 (k + (1 : Int)) = k + (1 : Int) := wrap64_id' (by omega) (by omega)
 have f0 : z.1 = k := (congrArg (fun q : Ty.D TPart => q.1) hm).symm
 have w1 : wrap64 (k + (1 : Int) + (1 : Int)) = k + (1 : Int) + (1 : Int) := wrap64_id' (by omega) (by omega)
 have f1 : z.2.1 = k + (1 : Int) := (congrArg (fun q : Ty.D TPart => q.2.1) hm).symm
 have w2 : wrap64 (k + (1 : Int) + (1 : Int) + (1 : Int)) = k + (1 : Int) + (1 : Int) + (1 : Int) := wrap64_id' (by omega) (by omega)
 have f2 : z.2.2.1.1 = k + (1 : Int) + (1 : Int) := (congrArg (fun q : Ty.D TPart => q.2.2.1.1) hm).symm
 have w3 : wrap64 (k + (1 : Int) + (1 : Int) + (1 : Int) + (1 : Int)) = k + (1 : Int) + (1 : Int) + (1 : Int) + (1 : Int) := wrap64_id' (by omega) (by omega)
 have f3 : z.2.2.1.2.1 = k + (1 : Int) + (1 : Int) + (1 : Int) := (congrArg (fun q : Ty.D TPart => q.2.2.1.2.1) hm).symm
 have w4 : wrap64 (k + (1 : Int) + (1 : Int) + (1 : Int) + (1 : Int) + (1 : Int)) = k + (1 : Int) + (1 : Int) + (1 : Int) + (1 : Int) + (1 : Int) := wrap64_id' (by omega) (by omega)
 have f4 : z.2.2.1.2.2.1 = M.markText (k + (1 : Int) + (1 : Int) + (1 : Int) + (1 : Int)) := (congrArg (fun q : Ty.D TPart => q.2.2.1.2.2.1) hm).symm
 simp only [F.laws_heldPartS_l0, letD_eq, w0, w1, w2, w3, w4]
 rw [decide_eq_true f0, Bool.not_true, cond_false]
 rw [decide_eq_true f1, Bool.not_true, cond_false]
 rw [decide_eq_true f2, Bool.not_true, cond_false]
 rw [decide_eq_true f3, Bool.not_true, cond_false]
 rw [guardD_pos (show k + (1 : Int) + (1 : Int) + (1 : Int) + (1 : Int) ≤ M.big by unfold M.big; omega), decide_eq_true f4, Bool.not_true, cond_false]
 rw [hc]
 refine congrArg (fun q => some (Sum.inl q)) ?_
 omega
theorem F.laws_FnExactExprFolded_eq (aColumns : LC) (aE : LPt) (h_aColumns : Ln (Ty.sl TColumn) aColumns) (h_aE : Ln (Ty.sl TPart) aE) : F.laws_FnExactExprFolded aColumns aE = some true := by
 unfold F.laws_FnExactExprFolded
 rw [guardD_pos (by decide), guardD_pos (by decide)]
 by_cases h0 : M.szLen aColumns.length 1048576 < 0
 ·rw [decide_eq_true h0]
  rfl
 rw [decide_eq_false h0, cond_false]
 have l0 := M.szLen_le aColumns.length 1048576 (by decide)
 have u0 : M.szLen aColumns.length 1048576 ≤ 1048576 := by omega
 have g0 : 0 ≤ M.szLen aColumns.length 1048576 := by omega
 have s0 := (fun (_ : Nat) (l : Int) (h0 : 0 ≤ l) (h1 : l ≤ 1048576) (h : 0 ≤ M.szLen aColumns.length l) => M.szPlain_tells (t := TColumn) rfl aColumns l h0 h1 h) aColumns.length 1048576 (by decide) (by decide) g0
 rw [guardD_pos g0, guardD_pos u0]
 by_cases h1 : M.szS M.szPart aE (M.szLen aColumns.length 1048576) < 0
 ·rw [decide_eq_true h1]
  rfl
 rw [decide_eq_false h1, cond_false]
 have l1 := (M.szS_le M.szPart_le) aE (M.szLen aColumns.length 1048576) g0
 have u1 : M.szS M.szPart aE (M.szLen aColumns.length 1048576) ≤ 1048576 := by omega
 have g1 : 0 ≤ M.szS M.szPart aE (M.szLen aColumns.length 1048576) := by omega
 have s1 := (M.szS_tells M.szPart_le M.szPart_tells) aE (M.szLen aColumns.length 1048576) g0 u0 g1
 have sr := M.folded_sm (columns := aColumns) s1 (exprValue_sm (row := []) (sm_nil _) s1)
 generalize hr : (M.exprFolded aColumns aE) = R at sr ⊢
 have c0 : M.count (Ty.sl TColumn) aColumns ≤ 2097152 := Nat.le_trans (M.count_le s0) (by decide)
 have c1 : M.count (Ty.sl TPart) aE ≤ 5242880 := Nat.le_trans (M.count_le s1) (by decide)
 have cr : M.count (Ty.sl TPart) R ≤ 5242880 := Nat.le_trans (M.count_le sr) (by decide)
 simp only [letD_eq, M.cut_all, M.cut_mark, M.count_mark, hr]
 simp only [decide_true, Bool.not_true, cond_false, M.refl_guard, M.guardD_true]
 repeat rw [guardD_pos (by first | exact s0 | exact s1 | exact sr | rfl | decide | exact M.sm_ln s0 | exact M.sm_ln s1 | exact M.sm_ln sr | exact M.mark_sm (by decide) _ (M.sm_ln sr) | exact M.mark_idem _ _ _ | omega | (unfold M.big; omega))]
 have cm : cutList (M.mark (Ty.sl TPart) R 1 : List TPart.D) (some ((0 : Int), (R.length : Int))) = M.mark (Ty.sl TPart) R 1 := M.cut_mark TPart R 1
 rw [decide_eq_false (show ¬ (1 : Int) + (M.count (Ty.sl TColumn) aColumns : Int) + (M.count (Ty.sl TPart) aE : Int) < 0 by omega), show ((false : Bool) == false) = true from rfl, cond_true]
 repeat rw [guardD_pos (by first | exact s0 | exact s1 | exact sr | rfl | decide | exact M.sm_ln s0 | exact M.sm_ln s1 | exact M.sm_ln sr | exact M.mark_sm (by decide) _ (M.sm_ln sr) | exact M.mark_idem _ _ _ | omega | (unfold M.big; omega))]
 rw [cm]
 simp only [M.count_mark]
 repeat rw [guardD_pos (by first | exact s0 | exact s1 | exact sr | rfl | decide | exact M.sm_ln s0 | exact M.sm_ln s1 | exact M.sm_ln sr | exact M.mark_sm (by decide) _ (M.sm_ln sr) | exact M.mark_idem _ _ _ | omega | (unfold M.big; omega))]
 rw [decide_eq_false (show ¬ (1 : Int) + (M.count (Ty.sl TPart) R : Int) < 0 by omega), cond_false]
 simp only [decide_true, Bool.not_true, cond_false]
 repeat rw [guardD_pos (by first | exact s0 | exact s1 | exact sr | rfl | decide | exact M.sm_ln s0 | exact M.sm_ln s1 | exact M.sm_ln sr | exact M.mark_sm (by decide) _ (M.sm_ln sr) | exact M.mark_idem _ _ _ | omega | (unfold M.big; omega))]
end Go.AE
