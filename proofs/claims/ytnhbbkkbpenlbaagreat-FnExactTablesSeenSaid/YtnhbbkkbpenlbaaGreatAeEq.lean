/- What the functions compute is what is said. -/
import Derived.Test.YtnhbbkkbpenlbaaGreatAeF
import Derived.Test.YtnhbbkkbpenlbaaGreatAeMN
import Derived.Test.YtnhbbkkbpenlbaaGreatAeEqI
namespace Go.AE
open Go Go.RowKit
set_option linter.unusedVariables false
set_option linter.unusedSimpArgs false

theorem F.laws_szColumnS_eq (x : (List (TColumn).D)) (left : Int) (h_x : Ln (Ty.sl TColumn) x) (p0 : 0 ≤ left) (p1 : left ≤ 1048576) : F.laws_szColumnS x left = some (M.szLen x.length left) := by
  unfold F.laws_szColumnS M.szLen
  have h := h_x.1
  rw [wrap64_id' (n := left - (x.length : Int)) (by omega) (by omega)]
  by_cases h2 : left - (x.length : Int) < 0 <;> simp [h2]

theorem F.laws_szValue_eq (x : (TValue).D) (left : Int) (h_x : Ln TValue x) (p0 : 0 ≤ left) (p1 : left ≤ 1048576) : F.laws_szValue x left = some (M.szValue x left) := by
  unfold F.laws_szValue M.szValue M.szLen
  have h : v_size_ok x := h_x.2.2.1
  unfold v_size_ok at h
  rw [wrap64_id' (n := left - (x.2.2.1.size : Int)) (by omega) (by omega)]
  by_cases h2 : left - (x.2.2.1.size : Int) < 0 <;> simp [h2]

theorem F.laws_szValueS_eq (x : (List (TValue).D)) (left : Int) (h_x : Ln (Ty.sl TValue) x) (p0 : 0 ≤ left) (p1 : left ≤ 1048576) : F.laws_szValueS x left = some (M.szS M.szValue x left) := by
  unfold F.laws_szValueS
  exact M.szS_eq M.szValue_le h_x.1 p0 p1 (fun z l h0 h1 => by simp only [F.laws_szValueS_l0, guardD_pos h0, guardD_pos h1, cond_some])

theorem F.laws_szValueSS_eq (x : (List (List (TValue).D))) (left : Int) (h_x : Ln (Ty.sl (Ty.sl TValue)) x) (p0 : 0 ≤ left) (p1 : left ≤ 1048576) : F.laws_szValueSS x left = some (M.szS (M.szS M.szValue) x left) := by
  unfold F.laws_szValueSS
  exact M.szS_eq (M.szS_le M.szValue_le) h_x.1 p0 p1 (fun z l h0 h1 => by simp only [F.laws_szValueSS_l0, guardD_pos h0, guardD_pos h1, cond_some])

theorem F.laws_szTable_eq (x : (TTable).D) (left : Int) (h_x : Ln TTable x) (p0 : 0 ≤ left) (p1 : left ≤ 1048576) : F.laws_szTable x left = some (M.szTable x left) := by
  unfold F.laws_szTable M.szTable M.szThen
  have le0 := M.szLen_le (List.length x.1) left p0
  by_cases c0 : M.szLen (List.length x.1) left < 0
  · rw [decide_eq_true c0, if_pos c0]
    rfl
  rw [decide_eq_false c0, if_neg c0]
  simp only [cond_false]
  have g0 : 0 ≤ M.szLen (List.length x.1) left := by omega
  repeat rw [guardD_pos (by first | exact g0 | omega)]
  have le1 := (M.szS_le (M.szS_le M.szValue_le)) (x.2.1) (M.szLen (List.length x.1) left) g0
  by_cases c1 : (M.szS (M.szS M.szValue)) x.2.1 (M.szLen (List.length x.1) left) < 0
  · rw [decide_eq_true c1, if_pos c1]
    rfl
  rw [decide_eq_false c1, if_neg c1]
  try rfl

theorem F.laws_szTableS_eq (x : (List (TTable).D)) (left : Int) (h_x : Ln (Ty.sl TTable) x) (p0 : 0 ≤ left) (p1 : left ≤ 1048576) : F.laws_szTableS x left = some (M.szS M.szTable x left) := by
  unfold F.laws_szTableS
  exact M.szS_eq M.szTable_le h_x.1 p0 p1 (fun z l h0 h1 => by simp only [F.laws_szTableS_l0, guardD_pos h0, guardD_pos h1, cond_some])

theorem F.laws_toColumn_eq (x : (TColumn).D)  : F.laws_toColumn x = some (x) := by
  rfl

theorem F.laws_toColumnS_eq (x : (List (TColumn).D)) (h_x : Sm (Ty.sl TColumn) x) : F.laws_toColumnS x = some (x) := by
  unfold F.laws_toColumnS
  exact M.to_eq (t := TColumn) (fun i v h0 h1 h2 => by simp only [F.laws_toColumnS_l0, letD_eq, guardD_pos h2])

theorem F.laws_toValue_eq (x : (TValue).D) (h_x : Sm TValue x) : F.laws_toValue x = some (x) := by
  rfl

theorem F.laws_toValueS_eq (x : (List (TValue).D)) (h_x : Sm (Ty.sl TValue) x) : F.laws_toValueS x = some (x) := by
  unfold F.laws_toValueS
  exact M.to_eq (t := TValue) (fun i v h0 h1 h2 => by simp only [F.laws_toValueS_l0, letD_eq, guardD_pos h2])

theorem F.laws_toValueSS_eq (x : (List (List (TValue).D))) (h_x : Sm (Ty.sl (Ty.sl TValue)) x) : F.laws_toValueSS x = some (x) := by
  unfold F.laws_toValueSS
  exact M.to_eq (t := (Ty.sl TValue)) (fun i v h0 h1 h2 => by simp only [F.laws_toValueSS_l0, letD_eq, guardD_pos h2])

theorem F.laws_toTableS_eq (x : (List (TTable).D)) (h_x : Sm (Ty.sl TTable) x) : F.laws_toTableS x = some (x) := by
  unfold F.laws_toTableS
  exact M.to_eq (t := TTable) (fun i v h0 h1 h2 => by simp only [F.laws_toTableS_l0, letD_eq, guardD_pos h2])

theorem F.laws_eqValue_eq (x : (TValue).D) (y : (TValue).D) (h_x : Sm TValue x) (h_y : Sm TValue y) (p0 : x = y) : F.laws_eqValue x y = some (true) := by
  subst p0
  unfold F.laws_eqValue
  simp [Ty.beq, M.refl_guard, M.guardD_true]

theorem F.laws_eqValueS_eq (x : (List (TValue).D)) (y : (List (TValue).D)) (h_x : Sm (Ty.sl TValue) x) (h_y : Sm (Ty.sl TValue) y) (p0 : x = y) : F.laws_eqValueS x y = some (true) := by
  subst p0
  unfold F.laws_eqValueS
  exact M.eq_eq (fun i h0 h1 => by simp only [F.laws_eqValueS_l0, guardD_pos h1, guardD_pos True.intro, guardD_pos trivial, decide_true, Bool.not_true, cond_false, M.refl_guard])

theorem F.laws_eqValueSS_eq (x : (List (List (TValue).D))) (y : (List (List (TValue).D))) (h_x : Sm (Ty.sl (Ty.sl TValue)) x) (h_y : Sm (Ty.sl (Ty.sl TValue)) y) (p0 : x = y) : F.laws_eqValueSS x y = some (true) := by
  subst p0
  unfold F.laws_eqValueSS
  exact M.eq_eq (fun i h0 h1 => by simp only [F.laws_eqValueSS_l0, guardD_pos h1, guardD_pos True.intro, guardD_pos trivial, decide_true, Bool.not_true, cond_false, M.refl_guard])

theorem F.laws_eqColumn_eq (x : (TColumn).D) (y : (TColumn).D) (p0 : x = y) : F.laws_eqColumn x y = some (true) := by
  subst p0
  unfold F.laws_eqColumn
  simp [Ty.beq]

theorem F.laws_eqColumnS_eq (x : (List (TColumn).D)) (y : (List (TColumn).D)) (h_x : Sm (Ty.sl TColumn) x) (h_y : Sm (Ty.sl TColumn) y) (p0 : x = y) : F.laws_eqColumnS x y = some (true) := by
  subst p0
  unfold F.laws_eqColumnS
  exact M.eq_eq (fun i h0 h1 => by simp only [F.laws_eqColumnS_l0, guardD_pos h1, guardD_pos True.intro, guardD_pos trivial, decide_true, Bool.not_true, cond_false, M.refl_guard])

theorem F.laws_eqTable_eq (x : (TTable).D) (y : (TTable).D) (h_x : Sm TTable x) (h_y : Sm TTable y) (p0 : x = y) : F.laws_eqTable x y = some (true) := by
  subst p0
  unfold F.laws_eqTable
  simp [Ty.beq, M.refl_guard, M.guardD_true]

theorem F.laws_eqTableS_eq (x : (List (TTable).D)) (y : (List (TTable).D)) (h_x : Sm (Ty.sl TTable) x) (h_y : Sm (Ty.sl TTable) y) (p0 : x = y) : F.laws_eqTableS x y = some (true) := by
  subst p0
  unfold F.laws_eqTableS
  exact M.eq_eq (fun i h0 h1 => by simp only [F.laws_eqTableS_l0, guardD_pos h1, guardD_pos True.intro, guardD_pos trivial, decide_true, Bool.not_true, cond_false, M.refl_guard])

theorem F.laws_markText_eq (k : Int) (p0 : k ≤ M.big) : F.laws_markText k = some (M.markText k) := by
  unfold F.laws_markText M.markText
  by_cases hk : k ≤ 0
  · rw [decide_eq_true hk, if_pos hk]
    rfl
  rw [decide_eq_false hk, if_neg hk, cond_false, M.digits_run (fun v h63 hs => by
    have hs' : (strOf [(48 + v.1.tmod 10) % 256]).size = 1 := rfl
    unfold F.laws_markText_l0
    by_cases h0 : 0 < v.1
    · have e1 : wrap64 ((48 : Int) + v.1.tmod 10) = 48 + v.1.tmod 10 := by
        rw [Int.tmod_eq_emod_of_nonneg (by omega)]
        exact wrap64_id' (by omega) (by omega)
      have e2 : wrap64 (v.1.tdiv 10) = v.1.tdiv 10 := by
        rw [Int.tdiv_eq_ediv_of_nonneg (by omega)]
        exact wrap64_id' (by omega) (by omega)
      rw [decide_eq_true h0, if_pos h0, e1, e2, guardD_pos (by omega)]
      rfl
    · rw [decide_eq_false h0, if_neg h0]
      rfl) 64 k _ (by unfold M.big at p0; omega) (by unfold M.big at p0; omega) (by decide)]
  show guardD _ _ = _
  rw [guardD_pos]
  have := M.markText_size k
  unfold M.markText at this
  rw [if_neg hk, ByteArray.size_append] at this
  have e1 : (⟨#[109]⟩ : ByteArray).size = 1 := rfl
  omega

theorem F.laws_markValueS_eq (x : (List (TValue).D)) (k : Int) (h_x : Ln (Ty.sl TValue) x) (p0 : 0 ≤ k) (p1 : k + (M.count (Ty.sl TValue) x : Int) ≤ M.big) : F.laws_markValueS x k = some ((M.mark (Ty.sl TValue) x k, k + (M.count (Ty.sl TValue) x : Int))) := by
  unfold F.laws_markValueS
  refine M.mark_eq (e := TValue) h_x p0 p1 (fun i v i0 i1 i2 k0 kb hs => ?_)
  obtain ⟨k, a⟩ := v
  replace i2 : i < (a.length : Int) := i2
  replace k0 : 0 ≤ k := k0
  have hc : M.count TValue (nth (t := TValue) a i) = (1 + (1 + (1 + 0))) := rfl
  replace kb : k + (M.count TValue (nth (t := TValue) a i) : Int) ≤ M.big := kb
  rw [hc] at kb
  unfold M.big at kb
  have he : ∀ z : Ty.D TValue, nth (t := TValue) (a.set i.toNat z) i = z := fun z => M.nth_set i0 i2
  have w0 : wrap64 (k + (1 : Int)) = k + (1 : Int) := wrap64_id' (by omega) (by omega)
  have w1 : wrap64 (k + (1 : Int) + (1 : Int)) = k + (1 : Int) + (1 : Int) := wrap64_id' (by omega) (by omega)
  have w2 : wrap64 (k + (1 : Int) + (1 : Int) + (1 : Int)) = k + (1 : Int) + (1 : Int) + (1 : Int) := wrap64_id' (by omega) (by omega)
  simp only [F.laws_markValueS_l0, letD_eq, List.set_set, he, w0, w1, w2]
  repeat rw [guardD_pos (show k + (1 : Int) + (1 : Int) ≤ M.big by unfold M.big; omega)]
  try simp only [letD_eq, List.set_set, he, w0, w1, w2]
  rw [hc]
  refine congrArg (fun q => some (Sum.inl q)) (Prod.ext ?_ rfl)
  show k + (1 : Int) + (1 : Int) + (1 : Int) = _
  omega

theorem F.laws_markValueSS_eq (x : (List (List (TValue).D))) (k : Int) (h_x : Ln (Ty.sl (Ty.sl TValue)) x) (p0 : 0 ≤ k) (p1 : k + (M.count (Ty.sl (Ty.sl TValue)) x : Int) ≤ M.big) : F.laws_markValueSS x k = some ((M.mark (Ty.sl (Ty.sl TValue)) x k, k + (M.count (Ty.sl (Ty.sl TValue)) x : Int))) := by
  unfold F.laws_markValueSS
  refine M.mark_eq (e := (Ty.sl TValue)) h_x p0 p1 (fun i v i0 i1 i2 k0 kb hs => ?_)
  obtain ⟨k, a⟩ := v
  replace i2 : i < (a.length : Int) := i2
  replace k0 : 0 ≤ k := k0
  have hc : M.count (Ty.sl TValue) (nth (t := (Ty.sl TValue)) a i) = M.count (Ty.sl TValue) (nth (t := (Ty.sl TValue)) a i) := rfl
  replace kb : k + (M.count (Ty.sl TValue) (nth (t := (Ty.sl TValue)) a i) : Int) ≤ M.big := kb
  rw [hc] at kb
  unfold M.big at kb
  have he : ∀ z : Ty.D (Ty.sl TValue), nth (t := (Ty.sl TValue)) (a.set i.toNat z) i = z := fun z => M.nth_set i0 i2
  simp only [F.laws_markValueSS_l0, letD_eq, List.set_set, he]
  repeat rw [guardD_pos (show Ln (Ty.sl TValue) ((nth (t := (Ty.sl TValue)) a i)) from hs)]
  repeat rw [guardD_pos (show (0 : Int) ≤ k by omega)]
  repeat rw [guardD_pos (show k + (M.count (Ty.sl TValue) ((nth (t := (Ty.sl TValue)) a i)) : Int) ≤ M.big by unfold M.big; omega)]
  all_goals rfl

theorem F.laws_markColumnS_eq (x : (List (TColumn).D)) (k : Int) (h_x : Ln (Ty.sl TColumn) x) (p0 : 0 ≤ k) (p1 : k + (M.count (Ty.sl TColumn) x : Int) ≤ M.big) : F.laws_markColumnS x k = some ((M.mark (Ty.sl TColumn) x k, k + (M.count (Ty.sl TColumn) x : Int))) := by
  unfold F.laws_markColumnS
  refine M.mark_eq (e := TColumn) h_x p0 p1 (fun i v i0 i1 i2 k0 kb hs => ?_)
  obtain ⟨k, a⟩ := v
  replace i2 : i < (a.length : Int) := i2
  replace k0 : 0 ≤ k := k0
  have hc : M.count TColumn (nth (t := TColumn) a i) = (1 + (1 + 0)) := rfl
  replace kb : k + (M.count TColumn (nth (t := TColumn) a i) : Int) ≤ M.big := kb
  rw [hc] at kb
  unfold M.big at kb
  have he : ∀ z : Ty.D TColumn, nth (t := TColumn) (a.set i.toNat z) i = z := fun z => M.nth_set i0 i2
  have w0 : wrap64 (k + (1 : Int)) = k + (1 : Int) := wrap64_id' (by omega) (by omega)
  have w1 : wrap64 (k + (1 : Int) + (1 : Int)) = k + (1 : Int) + (1 : Int) := wrap64_id' (by omega) (by omega)
  simp only [F.laws_markColumnS_l0, letD_eq, List.set_set, he, w0, w1]
  try simp only [letD_eq, List.set_set, he, w0, w1]
  rw [hc]
  refine congrArg (fun q => some (Sum.inl q)) (Prod.ext ?_ rfl)
  show k + (1 : Int) + (1 : Int) = _
  omega

theorem F.laws_markTableS_eq (x : (List (TTable).D)) (k : Int) (h_x : Ln (Ty.sl TTable) x) (p0 : 0 ≤ k) (p1 : k + (M.count (Ty.sl TTable) x : Int) ≤ M.big) : F.laws_markTableS x k = some ((M.mark (Ty.sl TTable) x k, k + (M.count (Ty.sl TTable) x : Int))) := by
  unfold F.laws_markTableS
  refine M.mark_eq (e := TTable) h_x p0 p1 (fun i v i0 i1 i2 k0 kb hs => ?_)
  obtain ⟨k, a⟩ := v
  replace i2 : i < (a.length : Int) := i2
  replace k0 : 0 ≤ k := k0
  have hc : M.count TTable (nth (t := TTable) a i) = (M.count (Ty.sl TColumn) ((nth (t := TTable) a i).1) + (M.count (Ty.sl (Ty.sl TValue)) ((nth (t := TTable) a i).2.1) + 0)) := rfl
  replace kb : k + (M.count TTable (nth (t := TTable) a i) : Int) ≤ M.big := kb
  rw [hc] at kb
  unfold M.big at kb
  have he : ∀ z : Ty.D TTable, nth (t := TTable) (a.set i.toNat z) i = z := fun z => M.nth_set i0 i2
  simp only [F.laws_markTableS_l0, letD_eq, List.set_set, he]
  repeat rw [guardD_pos (show Ln (Ty.sl TColumn) ((nth (t := TTable) a i).1) from hs.1)]
  repeat rw [guardD_pos (show (0 : Int) ≤ k by omega)]
  repeat rw [guardD_pos (show k + (M.count (Ty.sl TColumn) ((nth (t := TTable) a i).1) : Int) ≤ M.big by unfold M.big; omega)]
  repeat rw [guardD_pos (show Ln (Ty.sl (Ty.sl TValue)) ((nth (t := TTable) a i).2.1) from hs.2.1)]
  repeat rw [guardD_pos (show (0 : Int) ≤ k + (M.count (Ty.sl TColumn) ((nth (t := TTable) a i).1) : Int) by omega)]
  repeat rw [guardD_pos (show k + (M.count (Ty.sl TColumn) ((nth (t := TTable) a i).1) : Int) + (M.count (Ty.sl (Ty.sl TValue)) ((nth (t := TTable) a i).2.1) : Int) ≤ M.big by unfold M.big; omega)]
  rw [hc]
  refine congrArg (fun q => some (Sum.inl q)) (Prod.ext ?_ rfl)
  show k + (M.count (Ty.sl TColumn) ((nth (t := TTable) a i).1) : Int) + (M.count (Ty.sl (Ty.sl TValue)) ((nth (t := TTable) a i).2.1) : Int) = _
  omega

theorem F.laws_szPart_eq (x : (TPart).D) (left : Int) (h_x : Ln TPart x) (p0 : 0 ≤ left) (p1 : left ≤ 1048576) : F.laws_szPart x left = some (M.szPart x left) := by
  unfold F.laws_szPart M.szPart M.szThen
  have le0 := M.szValue_le (x.2.2.1) left p0
  by_cases c0 : M.szValue x.2.2.1 left < 0
  · rw [decide_eq_true c0, if_pos c0]
    rfl
  rw [decide_eq_false c0, if_neg c0]
  try rfl

theorem F.laws_szPartS_eq (x : (List (TPart).D)) (left : Int) (h_x : Ln (Ty.sl TPart) x) (p0 : 0 ≤ left) (p1 : left ≤ 1048576) : F.laws_szPartS x left = some (M.szS M.szPart x left) := by
  unfold F.laws_szPartS
  exact M.szS_eq M.szPart_le h_x.1 p0 p1 (fun z l h0 h1 => by simp only [F.laws_szPartS_l0, guardD_pos h0, guardD_pos h1, cond_some])

theorem F.laws_szGuard_eq (x : (TGuard).D) (left : Int) (h_x : Ln TGuard x) (p0 : 0 ≤ left) (p1 : left ≤ 1048576) : F.laws_szGuard x left = some (M.szGuard x left) := by
  unfold F.laws_szGuard M.szGuard M.szThen
  have le0 := (M.szS_le M.szPart_le) (x.2.1) left p0
  by_cases c0 : (M.szS M.szPart) x.2.1 left < 0
  · rw [decide_eq_true c0, if_pos c0]
    rfl
  rw [decide_eq_false c0, if_neg c0]
  try rfl

theorem F.laws_szGuardS_eq (x : (List (TGuard).D)) (left : Int) (h_x : Ln (Ty.sl TGuard) x) (p0 : 0 ≤ left) (p1 : left ≤ 1048576) : F.laws_szGuardS x left = some (M.szS M.szGuard x left) := by
  unfold F.laws_szGuardS
  exact M.szS_eq M.szGuard_le h_x.1 p0 p1 (fun z l h0 h1 => by simp only [F.laws_szGuardS_l0, guardD_pos h0, guardD_pos h1, cond_some])

theorem F.spec_l1In_eq (n : Int) (low : Int) (high : Int)  : F.spec_l1In n low high = some (M.inR n low high) := by
  unfold F.spec_l1In M.inR
  cases decide (low ≤ n) <;> rfl

theorem F.spec_ColumnsOk_eq (columns : (List (TColumn).D)) (h_columns : Sm (Ty.sl TColumn) columns) : F.spec_ColumnsOk columns = some (M.columnsOk columns) := by
  unfold F.spec_ColumnsOk M.columnsOk
  rw [then_all M.columnOk () (fun x _ => by simp only [F.spec_ColumnsOk_l0, cond_notb, cond_some] <;> rfl), show decide ((columns.length : Int) ≤ 4) = decide (columns.length ≤ 4) from decide_eq_decide.2 (by omega)]
  cases columns.all M.columnOk <;> simp

theorem F.spec_l1Text_eq (s : ByteArray) (h_s : Sm Ty.str s) : F.spec_l1Text s = some (M.text s) := by
  unfold F.spec_l1Text M.text M.lower
  have key : ∀ c : Int, (cond ((decide (c < 97)) == false) (cond (decide (122 < c)) (some (Sum.inr ())) (some (Sum.inl ()))) (some (Sum.inr ())) : Option (Sum Unit Unit)) = some (cond (M.inR c 97 122) (.inl ()) (.inr ())) := by
    intro c
    unfold M.inR
    by_cases h2 : c < 97
    · simp [h2, show ¬ 97 ≤ c by omega]
    · by_cases h3 : 122 < c
      · simp [h2, h3, show 97 ≤ c by omega, show ¬ c ≤ 122 by omega]
      · simp [h2, h3, show 97 ≤ c by omega, show c ≤ 122 by omega]
  rw [then_all (fun i => M.inR (nth (t := .int .u8) (byteInts s) i) 97 122) () (fun i hi => by
    obtain ⟨h0, h1⟩ := mem_rangeI.1 hi
    simp only [F.spec_l1Text_l0, get_byteInts h0 h1]
    exact key _)]
  rw [← byteInts_length, all_range (t := .int .u8) (byteInts s) (fun n => M.inR n 97 122), show decide (((byteInts s).length : Int) ≤ 6) = decide ((byteInts s).length ≤ 6) from decide_eq_decide.2 (by omega)]
  cases (byteInts s).all fun n => M.inR n 97 122 <;> simp

theorem F.spec_ValueOk_eq (v : (TValue).D) (h_v : Sm TValue v) : F.spec_ValueOk v = some (M.valueOk v) := by
  unfold F.spec_ValueOk M.valueOk
  simp only [cond_andb]
  simp only [cond_some]

theorem F.spec_RowOk_eq (row : (List (TValue).D)) (h_row : Sm (Ty.sl TValue) row) : F.spec_RowOk row = some (M.rowOk row) := by
  unfold F.spec_RowOk M.rowOk
  rw [then_all M.valueOk () (fun x _ => by simp only [F.spec_RowOk_l0, cond_notb, cond_some] <;> rfl), show decide ((row.length : Int) ≤ 4) = decide (row.length ≤ 4) from decide_eq_decide.2 (by omega)]
  cases row.all M.valueOk <;> simp

theorem F.spec_RowFits_eq (columns : (List (TColumn).D)) (row : (List (TValue).D)) (h_columns : Sm (Ty.sl TColumn) columns) (h_row : Sm (Ty.sl TValue) row) : F.spec_RowFits columns row = some (M.rowFits columns row) := by
  unfold F.spec_RowFits M.rowFits
  cases M.columnsOk columns
  · rfl
  cases M.rowOk row
  · rfl
  by_cases hl : row.length = columns.length
  · rw [then_all (M.fitsAt columns row) () (fun i hi => by
      obtain ⟨h0, h1⟩ := mem_rangeI.1 hi
      have h2 : i < (columns.length : Int) := by omega
      simp only [F.spec_RowFits_l0, guardD_pos h2]
      unfold M.fitsAt
      cases decide ((nth (t := TValue) row i).1 = (nth (t := TColumn) columns i).1) <;> cases decide ((nth (t := TValue) row i).1 = (0 : Int)) <;> cases (nth (t := TColumn) columns i).2.1 <;> rfl)]
    simp only [hl, Bool.not_true, decide_true, Bool.true_and, cond_true, cond_false]
    cases (rangeI 0 (columns.length : Int)).all (M.fitsAt columns row) <;> rfl
  · have h3 : ¬ (row.length : Int) = (columns.length : Int) := by omega
    simp [hl, h3]

theorem F.spec_RowsOk_eq (columns : (List (TColumn).D)) (rows : (List (List (TValue).D))) (h_columns : Sm (Ty.sl TColumn) columns) (h_rows : Sm (Ty.sl (Ty.sl TValue)) rows) : F.spec_RowsOk columns rows = some (M.rowsOk columns rows) := by
  unfold F.spec_RowsOk M.rowsOk
  rw [then_all (M.rowFits columns) () (fun x _ => by simp only [F.spec_RowsOk_l0, cond_notb, cond_some])]
  cases rows.all (M.rowFits columns) <;> simp

theorem F.spec_TablesOk_eq (tables : (List (TTable).D)) (h_tables : Sm (Ty.sl TTable) tables) : F.spec_TablesOk tables = some (M.tablesOk tables) := by
  unfold F.spec_TablesOk M.tablesOk
  rw [then_all M.tableOk () (fun x _ => by
    simp only [F.spec_TablesOk_l0]
    unfold M.tableOk
    by_cases h : x.2.1.length ≤ 6
    · have h2 : ¬ (6 : Int) < (x.2.1.length : Int) := by omega
      simp only [h2, h, decide_true, decide_false, Bool.true_and]
      cases M.rowsOk x.1 x.2.1 <;> rfl
    · have h2 : (6 : Int) < (x.2.1.length : Int) := by omega
      simp [h2, h]), show decide ((tables.length : Int) ≤ 3) = decide (tables.length ≤ 3) from decide_eq_decide.2 (by omega)]
  cases tables.all M.tableOk <;> simp

theorem F.spec_l4Step_eq (columns : (List (TColumn).D)) (kinds : (List Int)) (p : (TPart).D) (h_columns : Sm (Ty.sl TColumn) columns) (h_kinds : Sm (Ty.sl (Ty.int .i64)) kinds) (h_p : Sm TPart p) (p0 : kinds.length ≤ 1000) : F.spec_l4Step columns kinds p = some (M.l4Step columns kinds p) := by
  obtain ⟨o, s, e, _⟩ := spec_step_is (columns := columns) p p0 h_columns.1
  unfold M.l4Step
  rw [e]
  rfl

theorem F.spec_ExprKind_eq (columns : (List (TColumn).D)) (e : (List (TPart).D)) (h_columns : Sm (Ty.sl TColumn) columns) (h_e : Sm (Ty.sl TPart) e) : F.spec_ExprKind columns e = some (M.exprKind columns e) := by
  unfold F.spec_ExprKind M.exprKind
  cases M.columnsOk columns
  · rfl
  by_cases hl : e.length ≤ 12
  · rw [decide_eq_false (show ¬ (12 : Int) < (e.length : Int) by omega), decide_eq_true hl]
    obtain ⟨o, s, h1, h2⟩ := spec_kind_run (columns := columns) (E := e) (by omega) h_columns.1 e.length 0 [] (by omega) (by omega) (by simp; omega)
    rw [show ((0 : Int)) = ((0 : Nat) : Int) from rfl, h1]
    rw [List.drop_zero] at h2
    unfold StepIs at h2
    cases hk : M.kindRun columns e [] with
    | none =>
      rw [hk] at h2
      simp only at h2
      subst h2
      rfl
    | some s' =>
      rw [hk] at h2
      obtain ⟨rfl, rfl⟩ := h2
      match s with
      | [] => rfl
      | [a] => exact guardD_pos (by simp)
      | a :: b :: l =>
        have : ¬ ((a :: b :: l).length : Int) = 1 := by simp; omega
        simp only [Option.bind_some, this, decide_false]
        rfl
  · rw [decide_eq_true (show (12 : Int) < (e.length : Int) by omega), decide_eq_false hl]
    rfl

theorem F.spec_GuardsOk_eq (tables : (List (TTable).D)) (guards : (List (TGuard).D)) (h_tables : Sm (Ty.sl TTable) tables) (h_guards : Sm (Ty.sl TGuard) guards) : F.spec_GuardsOk tables guards = some (M.guardsOk tables guards) := by
  unfold F.spec_GuardsOk M.guardsOk
  rw [then_all (M.guardAt tables guards) () (fun i hi => by
    obtain ⟨i0, i1⟩ := mem_rangeI.1 hi
    have hl := h_guards.1
    have hw : wrap64 (i - (1 : Int)) = i - 1 := wrap64_id' (by omega) (by omega)
    simp only [F.spec_GuardsOk_l0, hw, wrap_pred _ h_tables.1]
    unfold M.guardAt
    generalize M.inR (nth (t := TGuard) guards i).1 0 ((tables.length : Int) - 1) = c1
    generalize decide (M.exprKind (nth (t := TTable) tables (nth (t := TGuard) guards i).1).1 (nth (t := TGuard) guards i).2.1 = 3) = c2
    generalize decide ((nth (t := TGuard) guards i).1 ≤ (nth (t := TGuard) guards (i - 1)).1) = c3
    by_cases h0 : 0 < i
    · have g1 : 0 ≤ i - 1 := by omega
      have g2 : i - 1 < (guards.length : Int) := by omega
      rw [decide_eq_true h0]
      repeat rw [guardD_pos g1]
      repeat rw [guardD_pos g2]
      cases c1 <;> cases c2 <;> cases c3 <;> rfl
    · rw [decide_eq_false h0]
      cases c1 <;> cases c2 <;> cases c3 <;> rfl)]
  cases M.tablesOk tables <;> cases (rangeI 0 (guards.length : Int)).all (M.guardAt tables guards) <;> rfl

theorem F.spec_l3Own_eq (row : (List (TValue).D)) (h_row : Sm (Ty.sl TValue) row) : F.spec_l3Own row = some (row) := by
  rfl

theorem F.spec_l11Tables_eq (tables : (List (TTable).D)) (h_tables : Sm (Ty.sl TTable) tables) : F.spec_l11Tables tables = some (tables) := by
  unfold F.spec_l11Tables
  rw [M.each_range_copy (t := TTable) tables (fun i s i0 i1 hs => by
    have hl := h_tables.1
    have hr : (nth (t := TTable) tables i).2.1.length ≤ 1048576 := (sm_nth h_tables i).2.1.1
    unfold F.spec_l11Tables_l0
    rw [M.while_copy (t := .sl TValue) (nth (t := TTable) tables i).2.1 (fun j w j0 j1 hw => by
      unfold F.spec_l11Tables_l2
      simp only [letD_eq]
      rw [guardD_pos i0, guardD_pos i1, decide_eq_true j1, cond_true, guardD_pos j0, guardD_pos j1, guardD_pos (by unfold lim; simp; omega), wrap64_id' (n := j + 1) (by omega) (by omega)]) (fun j w j0 j1 => by
      unfold F.spec_l11Tables_l2
      simp only
      rw [guardD_pos i0, guardD_pos i1, decide_eq_false (Int.not_lt.2 j1), cond_false])]
    show guardD _ _ = _
    rw [guardD_pos (by unfold lim; simp; omega)]
    rfl)]
  rfl

theorem F.spec_ValueOf_eq (truth : Int)  : F.spec_ValueOf truth = some (M.valueOf truth) := by
  unfold F.spec_ValueOf M.valueOf M.inR
  by_cases h0 : truth = 0
  · subst h0; rfl
  · by_cases h1 : truth = 1
    · subst h1; rfl
    · have h2 : ¬ (0 ≤ truth ∧ truth ≤ 1) := by omega
      simp only [h0, h1, decide_false]
      by_cases h3 : 0 ≤ truth
      · have h4 : ¬ truth ≤ 1 := by omega
        simp [h3, h4]
      · simp [h3]

theorem F.spec_l4Sum_eq (a : (TValue).D) (b : (TValue).D) (h_a : Sm TValue a) (h_b : Sm TValue b) : F.spec_l4Sum a b = some (M.sum a b) := by
  unfold F.spec_l4Sum M.sum
  have e : (0 : Int) - 9999 = -9999 := rfl
  cases decide (a.1 = (0 : Int)) <;> cases decide (b.1 = (0 : Int)) <;> cases M.inR (wrap64 (a.2.1 + b.2.1)) (-9999) 9999 <;> rfl

theorem F.spec_l2Bool_eq (b : Bool)  : F.spec_l2Bool b = some (M.bool b) := by
  unfold F.spec_l2Bool M.bool
  rw [cond_some]

theorem F.spec_l1Less_eq (a : Int) (b : Int)  : F.spec_l1Less a b = some (M.less a b) := by
  unfold F.spec_l1Less M.less
  rw [cond_some]

theorem F.spec_l1Cmp_eq (a : ByteArray) (b : ByteArray) (h_a : Sm Ty.str a) (h_b : Sm Ty.str b) : F.spec_l1Cmp a b = some (M.cmpS a b) := by
  unfold F.spec_l1Cmp M.cmpS
  simp only [cond_some]

theorem F.spec_ValueOrder_eq (a : (TValue).D) (b : (TValue).D) (h_a : Sm TValue a) (h_b : Sm TValue b) : F.spec_ValueOrder a b = some (M.valueOrder a b) := by
  unfold F.spec_ValueOrder M.valueOrder
  cases M.valueOk a
  · rfl
  cases M.valueOk b
  · rfl
  unfold M.order M.less M.cmpI
  by_cases h1 : a.1 = b.1
  · by_cases h2 : a.2.1 = b.2.1
    · simp [h1, h2, M.orI]
      generalize M.cmpS a.2.2.1 b.2.2.1 = c
      by_cases hc : c = 0 <;> simp [hc]
    · rcases Int.lt_or_gt_of_ne h2 with h | h
      · have h3 : ¬ b.2.1 < a.2.1 := Int.lt_asymm h
        simp [h1, h2, h, h3, M.orI]
        rfl
      · have h3 : ¬ a.2.1 < b.2.1 := Int.lt_asymm h
        simp [h1, h2, h, h3, M.orI]
        rfl
  · rcases Int.lt_or_gt_of_ne h1 with h | h
    · have h3 : ¬ b.1 < a.1 := Int.lt_asymm h
      simp [h1, h, h3, M.orI]
      rfl
    · have h3 : ¬ a.1 < b.1 := Int.lt_asymm h
      simp [h1, h, h3, M.orI]
      rfl

theorem F.spec_Compare_eq (kind : Int) (a : (TValue).D) (b : (TValue).D) (h_a : Sm TValue a) (h_b : Sm TValue b) : F.spec_Compare kind a b = some (M.compare kind a b) := by
  unfold F.spec_Compare M.compare M.valueOrder M.cmpTruth
  cases M.inR kind 1 4
  · rfl
  cases M.valueOk a
  · rfl
  cases M.valueOk b
  · rfl
  cases decide (a.1 = (0 : Int)) <;> cases decide (b.1 = (0 : Int)) <;> cases decide (a.1 = b.1) <;> cases decide (kind = 1) <;> cases decide (kind = 2) <;> cases decide (kind = 3) <;> rfl

theorem F.spec_TruthOk_eq (n : Int)  : F.spec_TruthOk n = some (M.inR n 0 2) := by
  rfl

theorem F.spec_l2Sure_eq (n : Int) (p0 : M.inR n 0 2 = true) : F.spec_l2Sure n = some (M.sure n) := by
  have h3 : n = 0 ∨ n = 1 ∨ n = 2 := by
    unfold M.inR at p0
    simp at p0
    omega
  rcases h3 with rfl | rfl | rfl <;> (unfold F.spec_l2Sure; (repeat rw [guardD_pos (by decide)]); rfl)

theorem F.spec_AndOf_eq (a : Int) (b : Int)  : F.spec_AndOf a b = some (M.andOf a b) := by
  unfold F.spec_AndOf M.andOf M.fold
  cases ha : M.inR a 0 2
  · rfl
  cases hb : M.inR b 0 2
  · rfl
  have h3 : ∀ n, M.inR n 0 2 = true → n = 0 ∨ n = 1 ∨ n = 2 := by
    intro n hn
    unfold M.inR at hn
    simp at hn
    omega
  rcases h3 a ha with rfl | rfl | rfl <;> rcases h3 b hb with rfl | rfl | rfl <;> (repeat rw [guardD_pos (by rfl)]) <;> rfl

theorem F.spec_TruthOf_eq (v : (TValue).D) (h_v : Sm TValue v) : F.spec_TruthOf v = some (M.truthOf v) := by
  unfold F.spec_TruthOf M.truthOf
  cases hv : M.valueOk v
  · rfl
  simp only [Bool.not_true, cond_true, cond_false]
  unfold M.valueOk at hv
  by_cases h0 : v.1 = (0 : Int)
  · simp [h0]
  · by_cases h1 : v.1 = (1 : Int)
    · simp [h1]
    · by_cases h2 : v.1 = (2 : Int)
      · simp [h2]
      · by_cases h3 : v.1 = (3 : Int)
        · simp [h3]
        · simp [h0, h1, h2, h3] at hv

theorem F.spec_OrOf_eq (a : Int) (b : Int)  : F.spec_OrOf a b = some (M.orOf a b) := by
  unfold F.spec_OrOf M.orOf M.fold
  cases ha : M.inR a 0 2
  · rfl
  cases hb : M.inR b 0 2
  · rfl
  have h3 : ∀ n, M.inR n 0 2 = true → n = 0 ∨ n = 1 ∨ n = 2 := by
    intro n hn
    unfold M.inR at hn
    simp at hn
    omega
  rcases h3 a ha with rfl | rfl | rfl <;> rcases h3 b hb with rfl | rfl | rfl <;> (repeat rw [guardD_pos (by rfl)]) <;> rfl

theorem F.spec_NotOf_eq (a : Int)  : F.spec_NotOf a = some (M.notOf a) := by
  unfold F.spec_NotOf M.notOf
  cases ha : M.inR a 0 2
  · unfold M.inR at ha
    simp at ha
    have h0 : ¬ a = 0 := by omega
    have h1 : ¬ a = 1 := by omega
    have h2 : ¬ a = 2 := by omega
    simp [h0, h1, h2]
  · have h3 : a = 0 ∨ a = 1 ∨ a = 2 := by
      unfold M.inR at ha
      simp at ha
      omega
    rcases h3 with rfl | rfl | rfl <;> (repeat rw [guardD_pos (by rfl)]) <;> rfl

theorem F.spec_l4Do_eq (row : (List (TValue).D)) (values : (List (TValue).D)) (p : (TPart).D) (h_row : Sm (Ty.sl TValue) row) (h_values : Sm (Ty.sl TValue) values) (h_p : Sm TPart p) (p0 : values.length ≤ 1000) (p1 : M.takes p ≤ (values.length : Int)) (p2 : 1 ≤ p.1 ∧ p.1 ≤ 8) (p3 : M.colIn p row.length) : F.spec_l4Do row values p = some (M.valStep row values p) := by
  exact spec_do_is p values (show Sm TPart p from h_p) h_values p0 p1 p2 p3

theorem F.spec_l4Value_eq (row : (List (TValue).D)) (e : (List (TPart).D)) (h_row : Sm (Ty.sl TValue) row) (h_e : Sm (Ty.sl TPart) e) (p0 : M.exprSafe row.length e) : F.spec_l4Value row e = some (M.exprValue row e) := by
  unfold F.spec_l4Value M.exprValue
  obtain ⟨h1, h2⟩ := run_vals (f := F.spec_l4Value_l0 row e) h_row (fun p st hp hs hl h1 hk hc => spec_val_step p st hs hl h1 hk hc) e [] h_e.2 (sm_nil TValue) (by simp; have := p0.1; omega) p0.2
  rw [h1, thenD_inl, guardD_pos (by omega)]

theorem F.spec_l6Holds_eq (row : (List (TValue).D)) (e : (List (TPart).D)) (h_row : Sm (Ty.sl TValue) row) (h_e : Sm (Ty.sl TPart) e) (p0 : M.exprSafe row.length e) : F.spec_l6Holds row e = some (M.holds row e) := by
  rfl

theorem F.spec_TablesSeen_eq (tables : (List (TTable).D)) (guards : (List (TGuard).D)) (h_tables : Sm (Ty.sl TTable) tables) (h_guards : Sm (Ty.sl TGuard) guards) : F.spec_TablesSeen tables guards = some (M.tablesSeen tables guards) := by
  unfold F.spec_TablesSeen M.tablesSeen
  cases hg : M.guardsOk tables guards
  · rfl
  simp only [Bool.not_true, cond_false, cond_true, letD_eq]
  have hfold := M.each_range_fold (t := TGuard) (f := F.spec_TablesSeen_l0 tables guards) M.seenStep (M.Fewer tables) guards (M.Fewer.refl tables) (fun i s i0 i1 hI => by
    have hm := nth_mem' (t := TGuard) i0 i1
    obtain ⟨⟨b0, b1⟩, hk, hok⟩ := M.guardsOk_at hg hm
    have b2 : (nth (t := TGuard) guards i).1 < (s.length : Int) := by rw [hI.1]; exact b1
    obtain ⟨q1, q2, q3⟩ := hI.2 _ b0 b1
    have hsT := sm_nth (hI.sm h_tables) (nth (t := TGuard) guards i).1
    have hrl : (nth (t := TTable) s (nth (t := TGuard) guards i).1).2.1.length ≤ 1048576 := hsT.2.1.1
    refine ⟨?_, hI.step b0 b1⟩
    unfold F.spec_TablesSeen_l0
    rw [M.while_filter (t := .sl TValue) (fun r => M.holds r (nth (t := TGuard) guards i).2.1) (nth (t := TTable) s (nth (t := TGuard) guards i).1).2.1 (fun j w j0 j1 hw => by
      have hrm := nth_mem' (t := .sl TValue) j0 j1
      have hlen := M.row_len hok b0 b1 (q3 _ hrm)
      have hs := kind_safe (columns := (nth (t := TTable) tables (nth (t := TGuard) guards i).1).1) (e := (nth (t := TGuard) guards i).2.1) (by rw [hk]; decide)
      rw [← hlen] at hs
      have hsm := hsT.2.1.2 _ hrm
      unfold F.spec_TablesSeen_l2
      simp only
      rw [guardD_pos b0, guardD_pos b2, decide_eq_true j1, cond_true, guardD_pos j0, guardD_pos j1, guardD_pos i0, guardD_pos i1, guardD_pos hsm, guardD_pos hs, guardD_pos (by unfold lim; simp; omega), wrap64_id' (n := j + 1) (by omega) (by omega)]
      generalize M.holds (nth (t := .sl TValue) (nth (t := TTable) s (nth (t := TGuard) guards i).1).2.1 j) (nth (t := TGuard) guards i).2.1 = c
      cases c <;> rfl) (fun j w j0 j1 => by
      unfold F.spec_TablesSeen_l2
      simp only
      rw [guardD_pos b0, guardD_pos b2, decide_eq_false (Int.not_lt.2 j1), cond_false])]
    show guardD _ _ = _
    rw [guardD_pos b0, guardD_pos b2]
    rfl)
  rw [hfold.1]
  rfl

theorem F.laws_toPart_eq (x : (TPart).D) (h_x : Sm TPart x) : F.laws_toPart x = some (x) := by
  rfl

theorem F.laws_toPartS_eq (x : (List (TPart).D)) (h_x : Sm (Ty.sl TPart) x) : F.laws_toPartS x = some (x) := by
  unfold F.laws_toPartS
  exact M.to_eq (t := TPart) (fun i v h0 h1 h2 => by simp only [F.laws_toPartS_l0, letD_eq, guardD_pos h2])

theorem F.laws_toGuardS_eq (x : (List (TGuard).D)) (h_x : Sm (Ty.sl TGuard) x) : F.laws_toGuardS x = some (x) := by
  unfold F.laws_toGuardS
  exact M.to_eq (t := TGuard) (fun i v h0 h1 h2 => by simp only [F.laws_toGuardS_l0, letD_eq, guardD_pos h2])

theorem F.impl_between_eq (n : Int) (low : Int) (high : Int)  : F.impl_between n low high = some (M.inR n low high) := by
  unfold F.impl_between M.inR
  cases decide (low ≤ n) <;> rfl

theorem F.impl_ColumnsOk_1_eq (c : (TColumn).D)  : F.impl_ColumnsOk_1 c = some (!M.columnOk c) := by
  rfl

theorem F.IndexFunc_impl_ColumnsOk_1_eq (xs : (List (TColumn).D)) (h_xs : Sm (Ty.sl TColumn) xs) : F.IndexFunc_impl_ColumnsOk_1 xs = some (M.idx (t := TColumn) (fun e => !M.columnOk e) xs) := by
  exact indexFunc_eq (t := TColumn) (p := (fun e => !M.columnOk e)) (fun i h0 h1 => by simp only [F.IndexFunc_impl_ColumnsOk_1_l0, cond_some])

theorem F.ContainsFunc_impl_ColumnsOk_1_eq (xs : (List (TColumn).D)) (h_xs : Sm (Ty.sl TColumn) xs) : F.ContainsFunc_impl_ColumnsOk_1 xs = some (List.any xs (fun e => !M.columnOk e)) := by
  unfold F.ContainsFunc_impl_ColumnsOk_1
  exact containsFunc_eq (t := TColumn)

theorem F.impl_ColumnsOk_eq (columns : (List (TColumn).D)) (h_columns : Sm (Ty.sl TColumn) columns) : F.impl_ColumnsOk columns = some (M.columnsOk columns) := by
  unfold F.impl_ColumnsOk M.columnsOk
  rw [cond_andb, show decide ((columns.length : Int) ≤ 4) = decide (columns.length ≤ 4) from decide_eq_decide.2 (by omega)]
  rw [List.all_eq_not_any_not]

theorem F.impl_letters_eq (s : ByteArray) (h_s : Sm Ty.str s) : F.impl_letters s = some (M.lower (byteInts s)) := by
  unfold F.impl_letters M.lower
  rw [then_all (fun n => M.inR n 97 122) () (fun x hx => by
    obtain ⟨h0, h1⟩ := byte_mem hx
    simp only [F.impl_letters_l0, cond_notb, cond_some, wrap64_id' (n := x) (by omega) (by omega)])]
  cases (byteInts s).all fun n => M.inR n 97 122 <;> rfl

theorem F.impl_Value_ok_eq (v : (TValue).D) (h_v : Sm TValue v) : F.impl_Value_ok v = some (M.valueOk v) := by
  unfold F.impl_Value_ok M.valueOk M.text
  simp only [cond_andb]
  rw [show decide ((v.2.2.1.size : Int) ≤ 6) = decide (v.2.2.1.size ≤ 6) from decide_eq_decide.2 (by omega)]
  simp only [Ty.beq]
  cases h0 : decide (v.1 = (0 : Int))
  · generalize decide (v.1 = (1 : Int)) = b1
    generalize decide (v.1 = (2 : Int)) = b2
    generalize decide (v.1 = (3 : Int)) = b3
    generalize decide (v.2.1 = (0 : Int)) = c0
    generalize decide (v.2.2.1.size ≤ 6) = c6
    generalize M.inR v.2.1 (-9999) 9999 = c1
    generalize M.inR v.2.1 0 1 = c3
    generalize decide (v.2.2.1 = M.none_) = e0
    cases b1 <;> cases b2 <;> cases b3 <;> cases c0 <;> cases c6 <;> cases c1 <;> cases c3 <;> cases e0 <;> rfl
  · simp only [cond_true, Bool.true_and, Bool.and_true]

theorem F.impl_RowOk_1_eq (v : (TValue).D) (h_v : Sm TValue v) : F.impl_RowOk_1 v = some (!M.valueOk v) := by
  rfl

theorem F.IndexFunc_impl_RowOk_1_eq (xs : (List (TValue).D)) (h_xs : Sm (Ty.sl TValue) xs) : F.IndexFunc_impl_RowOk_1 xs = some (M.idx (t := TValue) (fun e => !M.valueOk e) xs) := by
  exact indexFunc_eq (t := TValue) (p := (fun e => !M.valueOk e)) (fun i h0 h1 => by simp only [F.IndexFunc_impl_RowOk_1_l0, cond_some])

theorem F.ContainsFunc_impl_RowOk_1_eq (xs : (List (TValue).D)) (h_xs : Sm (Ty.sl TValue) xs) : F.ContainsFunc_impl_RowOk_1 xs = some (List.any xs (fun e => !M.valueOk e)) := by
  unfold F.ContainsFunc_impl_RowOk_1
  exact containsFunc_eq (t := TValue)

theorem F.impl_RowOk_eq (row : (List (TValue).D)) (h_row : Sm (Ty.sl TValue) row) : F.impl_RowOk row = some (M.rowOk row) := by
  unfold F.impl_RowOk M.rowOk
  rw [cond_andb, show decide ((row.length : Int) ≤ 4) = decide (row.length ≤ 4) from decide_eq_decide.2 (by omega)]
  rw [List.all_eq_not_any_not]

theorem F.impl_RowFits_eq (columns : (List (TColumn).D)) (row : (List (TValue).D)) (h_columns : Sm (Ty.sl TColumn) columns) (h_row : Sm (Ty.sl TValue) row) : F.impl_RowFits columns row = some (M.rowFits columns row) := by
  unfold F.impl_RowFits M.rowFits
  cases M.columnsOk columns
  · rfl
  cases M.rowOk row
  · rfl
  by_cases hl : row.length = columns.length
  · rw [then_all (M.fitsAt columns row) () (fun i hi => by
      obtain ⟨h0, h1⟩ := mem_rangeI.1 hi
      have h2 : i < (columns.length : Int) := by omega
      simp only [F.impl_RowFits_l0, guardD_pos h2]
      unfold M.fitsAt
      cases decide ((nth (t := TValue) row i).1 = (nth (t := TColumn) columns i).1) <;> cases decide ((nth (t := TValue) row i).1 = (0 : Int)) <;> cases (nth (t := TColumn) columns i).2.1 <;> rfl)]
    simp only [hl, Bool.not_true, decide_true, Bool.true_and, cond_true, cond_false]
    cases (rangeI 0 (columns.length : Int)).all (M.fitsAt columns row) <;> rfl
  · have h3 : ¬ (row.length : Int) = (columns.length : Int) := by omega
    simp [hl, h3]

theorem F.impl_RowsOk_1_eq (r : (List (TValue).D)) (columns : (List (TColumn).D)) (h_r : Sm (Ty.sl TValue) r) (h_columns : Sm (Ty.sl TColumn) columns) : F.impl_RowsOk_1 r columns = some (!M.rowFits columns r) := by
  rfl

theorem F.IndexFunc_impl_RowsOk_1_eq (xs : (List (List (TValue).D))) (k0 : (List (TColumn).D)) (h_xs : Sm (Ty.sl (Ty.sl TValue)) xs) (h_k0 : Sm (Ty.sl TColumn) k0) : F.IndexFunc_impl_RowsOk_1 xs k0 = some (M.idx (t := (Ty.sl TValue)) (fun e => !M.rowFits k0 e) xs) := by
  exact indexFunc_eq (t := (Ty.sl TValue)) (p := (fun e => !M.rowFits k0 e)) (fun i h0 h1 => by simp only [F.IndexFunc_impl_RowsOk_1_l0, cond_some])

theorem F.ContainsFunc_impl_RowsOk_1_eq (xs : (List (List (TValue).D))) (k0 : (List (TColumn).D)) (h_xs : Sm (Ty.sl (Ty.sl TValue)) xs) (h_k0 : Sm (Ty.sl TColumn) k0) : F.ContainsFunc_impl_RowsOk_1 xs k0 = some (List.any xs (fun e => !M.rowFits k0 e)) := by
  unfold F.ContainsFunc_impl_RowsOk_1
  exact containsFunc_eq (t := (Ty.sl TValue))

theorem F.impl_RowsOk_eq (columns : (List (TColumn).D)) (rows : (List (List (TValue).D))) (h_columns : Sm (Ty.sl TColumn) columns) (h_rows : Sm (Ty.sl (Ty.sl TValue)) rows) : F.impl_RowsOk columns rows = some (M.rowsOk columns rows) := by
  unfold F.impl_RowsOk M.rowsOk
  rw [cond_andb, List.all_eq_not_any_not]

theorem F.impl_TablesOk_1_eq (t : (TTable).D) (h_t : Sm TTable t) : F.impl_TablesOk_1 t = some (!M.tableOk t) := by
  unfold F.impl_TablesOk_1 M.tableOk
  cases hc : M.columnsOk t.1
  · have : M.rowsOk t.1 t.2.1 = false := by unfold M.rowsOk; rw [hc]; rfl
    rw [this]
    simp
  by_cases h : t.2.1.length ≤ 6
  · have h2 : ¬ (6 : Int) < (t.2.1.length : Int) := by omega
    simp [h2, h]
  · have h2 : (6 : Int) < (t.2.1.length : Int) := by omega
    simp [h2, h]

theorem F.IndexFunc_impl_TablesOk_1_eq (xs : (List (TTable).D)) (h_xs : Sm (Ty.sl TTable) xs) : F.IndexFunc_impl_TablesOk_1 xs = some (M.idx (t := TTable) (fun e => !M.tableOk e) xs) := by
  exact indexFunc_eq (t := TTable) (p := (fun e => !M.tableOk e)) (fun i h0 h1 => by simp only [F.IndexFunc_impl_TablesOk_1_l0, cond_some])

theorem F.ContainsFunc_impl_TablesOk_1_eq (xs : (List (TTable).D)) (h_xs : Sm (Ty.sl TTable) xs) : F.ContainsFunc_impl_TablesOk_1 xs = some (List.any xs (fun e => !M.tableOk e)) := by
  unfold F.ContainsFunc_impl_TablesOk_1
  exact containsFunc_eq (t := TTable)

theorem F.impl_TablesOk_eq (tables : (List (TTable).D)) (h_tables : Sm (Ty.sl TTable) tables) : F.impl_TablesOk tables = some (M.tablesOk tables) := by
  unfold F.impl_TablesOk M.tablesOk
  rw [cond_andb, show decide ((tables.length : Int) ≤ 3) = decide (tables.length ≤ 3) from decide_eq_decide.2 (by omega)]
  rw [List.all_eq_not_any_not]

theorem F.impl_Part_takes_eq (p : (TPart).D) (h_p : Sm TPart p) : F.impl_Part_takes p = some (M.takes p) := by
  unfold F.impl_Part_takes M.takes
  generalize decide (p.1 = (3 : Int)) = c3
  generalize decide (p.1 = (4 : Int)) = c4
  generalize decide (p.1 = (5 : Int)) = c5
  generalize decide (p.1 = (6 : Int)) = c6
  generalize decide (p.1 = (7 : Int)) = c7
  generalize decide (p.1 = (8 : Int)) = c8
  cases c3 <;> cases c4 <;> cases c5 <;> cases c6 <;> cases c7 <;> cases c8 <;> rfl

theorem F.impl_Part_tells_eq (p : (TPart).D) (columns : (List (TColumn).D)) (h_p : Sm TPart p) (h_columns : Sm (Ty.sl TColumn) columns) : F.impl_Part_tells p columns = some (M.tells p columns) := by
  unfold F.impl_Part_tells M.tells M.noV
  rw [wrap_pred _ h_columns.1]
  simp only [cond_andb, show Ty.beq TValue p.2.2.1 ((0 : Int), (0 : Int), (⟨#[]⟩ : ByteArray), ()) = Ty.beq TValue p.2.2.1 M.zeroV from rfl]
  generalize Ty.beq TValue p.2.2.1 M.zeroV = nv
  by_cases e1 : p.1 = (1 : Int)
  · simp only [e1, decide_true, cond_true]
  by_cases e2 : p.1 = (2 : Int)
  · simp only [e2, decide_true, cond_true, Int.reduceEq, decide_false, cond_false]
  by_cases e4 : p.1 = (4 : Int)
  · simp only [e4, decide_true, cond_true, Int.reduceEq, decide_false, cond_false]
  by_cases e3 : p.1 = (3 : Int)
  · simp only [e3, decide_true, cond_true, Int.reduceEq, decide_false, cond_false]
    rfl
  by_cases e5 : p.1 = (5 : Int)
  · simp only [e5, decide_true, cond_true, Int.reduceEq, decide_false, cond_false]
    rfl
  by_cases e6 : p.1 = (6 : Int)
  · simp only [e6, decide_true, cond_true, Int.reduceEq, decide_false, cond_false]
    rfl
  by_cases e7 : p.1 = (7 : Int)
  · simp only [e7, decide_true, cond_true, Int.reduceEq, decide_false, cond_false]
    rfl
  by_cases e8 : p.1 = (8 : Int)
  · simp only [e8, decide_true, cond_true, Int.reduceEq, decide_false, cond_false]
    rfl
  simp only [e1, e2, e3, e4, e5, e6, e7, e8, decide_false, cond_false, inR_out e3 e4 e5 e6 e7 e8]

theorem F.impl_Part_kind_1_1_eq (k : Int) (kind : Int)  : F.impl_Part_kind_1_1 k kind = some (!decide (k = kind)) := by
  rfl

theorem F.IndexFunc_impl_Part_kind_1_1_eq (xs : (List Int)) (k0 : Int) (h_xs : Sm (Ty.sl (Ty.int .i64)) xs) : F.IndexFunc_impl_Part_kind_1_1 xs k0 = some (M.idx (t := (Ty.int .i64)) (fun e => !decide (e = k0)) xs) := by
  exact indexFunc_eq (t := (Ty.int .i64)) (p := (fun e => !decide (e = k0))) (fun i h0 h1 => by simp only [F.IndexFunc_impl_Part_kind_1_1_l0, cond_some])

theorem F.ContainsFunc_impl_Part_kind_1_1_eq (xs : (List Int)) (k0 : Int) (h_xs : Sm (Ty.sl (Ty.int .i64)) xs) : F.ContainsFunc_impl_Part_kind_1_1 xs k0 = some (List.any xs (fun e => !decide (e = k0))) := by
  unfold F.ContainsFunc_impl_Part_kind_1_1
  exact containsFunc_eq (t := (Ty.int .i64))

theorem F.impl_Part_kind_1_eq (kind : Int) (ins : (List Int)) (h_ins : Sm (Ty.sl (Ty.int .i64)) ins) : F.impl_Part_kind_1 kind ins = some (List.all ins (fun k => decide (k = kind))) := by
  unfold F.impl_Part_kind_1
  rw [List.all_eq_not_any_not]

theorem F.impl_Part_kind_eq (p : (TPart).D) (columns : (List (TColumn).D)) (inp : (List Int)) (h_p : Sm TPart p) (h_columns : Sm (Ty.sl TColumn) columns) (h_inp : Sm (Ty.sl (Ty.int .i64)) inp) (p0 : M.tells p columns = true) (p1 : (inp.length : Int) = M.takes p) : F.impl_Part_kind p columns inp = some (M.partKind p columns inp) := by
  unfold F.impl_Part_kind M.partKind
  obtain ⟨_, hc⟩ := tells_kind p0
  by_cases e1 : p.1 = (1 : Int)
  · simp only [e1, decide_true, cond_true]
  by_cases e2 : p.1 = (2 : Int)
  · obtain ⟨c0, c1⟩ := hc e2
    simp only [e2, decide_true, cond_true, Int.reduceEq, decide_false, cond_false]
    rw [guardD_pos c0, guardD_pos c1]
  by_cases e4 : p.1 = (4 : Int)
  · rw [takes_two (.inr (.inl e4))] at p1
    simp only [e4, decide_true, cond_true, Int.reduceEq, decide_false, cond_false]
    repeat rw [guardD_pos (by omega)]
  cases decide (p.1 = (3 : Int)) <;> cases decide (p.1 = (8 : Int)) <;> simp [e1, e2, e4]

theorem F.impl_ExprKind_eq (columns : (List (TColumn).D)) (e : (List (TPart).D)) (h_columns : Sm (Ty.sl TColumn) columns) (h_e : Sm (Ty.sl TPart) e) : F.impl_ExprKind columns e = some (M.exprKind columns e) := by
  unfold F.impl_ExprKind M.exprKind
  cases M.columnsOk columns
  · rfl
  by_cases hl : e.length ≤ 12
  · rw [decide_eq_false (show ¬ (12 : Int) < (e.length : Int) by omega), decide_eq_true hl]
    rw [impl_kind_run e [] (by simp; omega)]
    cases M.kindRun columns e [] with
    | none => rfl
    | some s =>
      match s with
      | [] => rfl
      | [a] => exact guardD_pos (by simp)
      | a :: b :: l =>
        have : ¬ ((a :: b :: l).length : Int) = 1 := by simp; omega
        simp only [this, decide_false]
        rfl
  · rw [decide_eq_true (show (12 : Int) < (e.length : Int) by omega), decide_eq_false hl]
    rfl

theorem F.impl_GuardsOk_eq (tables : (List (TTable).D)) (guards : (List (TGuard).D)) (h_tables : Sm (Ty.sl TTable) tables) (h_guards : Sm (Ty.sl TGuard) guards) : F.impl_GuardsOk tables guards = some (M.guardsOk tables guards) := by
  unfold F.impl_GuardsOk M.guardsOk
  rw [then_all (M.guardAt tables guards) () (fun i hi => by
    obtain ⟨i0, i1⟩ := mem_rangeI.1 hi
    have hl := h_guards.1
    have hw : wrap64 (i - (1 : Int)) = i - 1 := wrap64_id' (by omega) (by omega)
    simp only [F.impl_GuardsOk_l0, hw, wrap_pred _ h_tables.1]
    unfold M.guardAt
    generalize M.inR (nth (t := TGuard) guards i).1 0 ((tables.length : Int) - 1) = c1
    generalize decide (M.exprKind (nth (t := TTable) tables (nth (t := TGuard) guards i).1).1 (nth (t := TGuard) guards i).2.1 = 3) = c2
    generalize decide ((nth (t := TGuard) guards i).1 ≤ (nth (t := TGuard) guards (i - 1)).1) = c3
    by_cases h0 : 0 < i
    · have g1 : 0 ≤ i - 1 := by omega
      have g2 : i - 1 < (guards.length : Int) := by omega
      rw [decide_eq_true h0]
      repeat rw [guardD_pos g1]
      repeat rw [guardD_pos g2]
      cases c1 <;> cases c2 <;> cases c3 <;> rfl
    · rw [decide_eq_false h0]
      cases c1 <;> cases c2 <;> cases c3 <;> rfl)]
  cases M.tablesOk tables <;> cases (rangeI 0 (guards.length : Int)).all (M.guardAt tables guards) <;> rfl

theorem F.clone_TValue_eq (xs : (List (TValue).D)) (h_xs : Sm (Ty.sl TValue) xs) : F.clone_TValue xs = some (xs) := by
  exact M.clone2_eq (t := TValue)

theorem F.impl_rowsCopy_eq (rows : (List (List (TValue).D))) (h_rows : Sm (Ty.sl (Ty.sl TValue)) rows) : F.impl_rowsCopy rows = some (rows) := by
  unfold F.impl_rowsCopy
  rw [each_map (fun r => r) (fun x hx s hs => by
    have hl := h_rows.1
    simp only [F.impl_rowsCopy_l0, letD_eq, M.cut_all]
    rw [guardD_pos (by unfold lim; simp; omega)]), M.map_self, thenD_inl, M.take_all]

theorem F.clone_TColumn_eq (xs : (List (TColumn).D)) (h_xs : Sm (Ty.sl TColumn) xs) : F.clone_TColumn xs = some (xs) := by
  exact M.clone2_eq (t := TColumn)

theorem F.impl_tablesCopy_eq (tables : (List (TTable).D)) (h_tables : Sm (Ty.sl TTable) tables) : F.impl_tablesCopy tables = some (tables) := by
  unfold F.impl_tablesCopy
  rw [each_map (fun r => r) (fun x hx s hs => by
    have hl := h_tables.1
    simp only [F.impl_tablesCopy_l0, letD_eq, M.cut_all]
    rw [guardD_pos (by unfold lim; simp; omega)]), M.map_self, thenD_inl, M.take_all]

theorem F.impl_ValueOf_eq (truth : Int)  : F.impl_ValueOf truth = some (M.valueOf truth) := by
  unfold F.impl_ValueOf M.valueOf
  cases M.inR truth 0 1 <;> rfl

theorem F.impl_truthIf_eq (b : Bool)  : F.impl_truthIf b = some (M.bool b) := by
  unfold F.impl_truthIf M.bool
  rw [cond_some]

theorem F.cmp_Or_int_eq (vals : (List Int)) (h_vals : Sm (Ty.sl (Ty.int .i64)) vals) : F.cmp_Or_int vals = some (M.orI vals) := by
  unfold F.cmp_Or_int
  suffices h : ∀ (A B : List Int), thenD (eachD (F.cmp_Or_int_l0 A) B ()) (fun v0 : Unit => some (0 : Int)) (fun q0 : Int => some q0) = some (M.orI B) from h vals vals
  intro A B
  induction B with
  | nil => rfl
  | cons x l ih =>
    rw [eachD_cons]
    simp only [F.cmp_Or_int_l0, M.orI]
    by_cases hx : x = 0
    · simp only [hx, decide_true, Bool.not_true, cond_false, cond_true, thenD_inl]
      exact ih
    · simp [hx]

theorem F.cmp_isNaN_int_eq (x : Int)  : F.cmp_isNaN_int x = some (false) := by
  unfold F.cmp_isNaN_int
  simp

theorem F.cmp_Compare_int_eq (x : Int) (y : Int)  : F.cmp_Compare_int x y = some (M.cmpI x y) := by
  unfold F.cmp_Compare_int M.cmpI
  simp only [cond_false, cond_some]

theorem F.cmp_isNaN_string_eq (x : ByteArray) (h_x : Sm Ty.str x) : F.cmp_isNaN_string x = some (false) := by
  unfold F.cmp_isNaN_string
  simp

theorem F.cmp_Compare_string_eq (x : ByteArray) (y : ByteArray) (h_x : Sm Ty.str x) (h_y : Sm Ty.str y) : F.cmp_Compare_string x y = some (M.cmpS x y) := by
  unfold F.cmp_Compare_string M.cmpS
  simp only [cond_false, cond_some]

theorem F.impl_Value_order_eq (v : (TValue).D) (w : (TValue).D) (h_v : Sm TValue v) (h_w : Sm TValue w) : F.impl_Value_order v w = some (M.order v w) := by
  unfold F.impl_Value_order
  rw [guardD_pos ⟨by simp, fun _ _ => trivial⟩]
  rfl

theorem F.impl_Compare_eq (kind : Int) (a : (TValue).D) (b : (TValue).D) (h_a : Sm TValue a) (h_b : Sm TValue b) : F.impl_Compare kind a b = some (M.compare kind a b) := by
  unfold F.impl_Compare M.compare M.cmpTruth
  cases hk : M.inR kind 1 4
  · rfl
  cases M.valueOk a
  · rfl
  cases M.valueOk b
  · rfl
  have h4 : decide (kind = 1) = false → decide (kind = 2) = false → decide (kind = 3) = false → decide (kind = 4) = true := by
    unfold M.inR at hk
    simp at hk ⊢
    omega
  cases decide (a.1 = (0 : Int)) <;> cases decide (b.1 = (0 : Int)) <;> cases decide (a.1 = b.1) <;> cases h1 : decide (kind = 1) <;> cases h2 : decide (kind = 2) <;> cases h3 : decide (kind = 3) <;> (try rw [h4 h1 h2 h3]) <;> cases decide (M.order a b = 0) <;> cases decide (M.order a b < 0) <;> rfl

theorem F.impl_TruthOk_eq (n : Int)  : F.impl_TruthOk n = some (M.inR n 0 2) := by
  rfl

theorem F.impl_fold_eq (a : Int) (b : Int) (alone : Int) (p0 : 0 ≤ alone ∧ alone ≤ 1) : F.impl_fold a b alone = some (M.fold a b alone) := by
  unfold F.impl_fold M.fold
  rw [wrap64_id' (n := 1 - alone) (by omega) (by omega)]
  cases M.inR a 0 2
  · rfl
  cases M.inR b 0 2
  · rfl
  cases decide (a = alone) <;> cases decide (b = alone) <;> cases decide (a = 2) <;> cases decide (b = 2) <;> rfl

theorem F.impl_AndOf_eq (a : Int) (b : Int)  : F.impl_AndOf a b = some (M.andOf a b) := by
  unfold F.impl_AndOf M.andOf
  rw [guardD_pos (by decide)]

theorem F.impl_TruthOf_eq (v : (TValue).D) (h_v : Sm TValue v) : F.impl_TruthOf v = some (M.truthOf v) := by
  unfold F.impl_TruthOf M.truthOf
  cases M.valueOk v <;> simp only [Bool.not_true, Bool.not_false, cond_true, cond_false, cond_some]

theorem F.impl_OrOf_eq (a : Int) (b : Int)  : F.impl_OrOf a b = some (M.orOf a b) := by
  unfold F.impl_OrOf M.orOf
  rw [guardD_pos (by decide)]

theorem F.impl_NotOf_eq (a : Int)  : F.impl_NotOf a = some (M.notOf a) := by
  unfold F.impl_NotOf M.notOf
  simp only [cond_some]

theorem F.impl_Part_value_eq (p : (TPart).D) (row : (List (TValue).D)) (inp : (List (TValue).D)) (h_p : Sm TPart p) (h_row : Sm (Ty.sl TValue) row) (h_inp : Sm (Ty.sl TValue) inp) (p0 : (inp.length : Int) = M.takes p) (p1 : M.colIn p row.length) (p2 : 1 ≤ p.1 ∧ p.1 ≤ 8) : F.impl_Part_value p row inp = some (M.partValue p row inp) := by
  unfold F.impl_Part_value M.partValue
  have hz : (((0 : Int), (0 : Int), (⟨#[]⟩ : ByteArray), ()) : TValue.D) = M.zeroV := rfl
  by_cases e1 : p.1 = (1 : Int)
  · simp only [e1, decide_true, cond_true]
  by_cases e2 : p.1 = (2 : Int)
  · obtain ⟨c0, c1⟩ := p1 e2
    simp only [e2, decide_true, cond_true, Int.reduceEq, decide_false, cond_false]
    rw [guardD_pos c0, guardD_pos c1]
  by_cases e3 : p.1 = (3 : Int)
  · rw [takes_two (.inl e3)] at p0
    simp only [e3, decide_true, cond_true, Int.reduceEq, decide_false, cond_false]
    repeat rw [guardD_pos (by omega)]
    generalize nth (t := TValue) inp 0 = a
    generalize nth (t := TValue) inp 1 = b
    unfold M.sum
    have hv : M.valueOk ((1 : Int), wrap64 (a.2.1 + b.2.1), (⟨#[]⟩ : ByteArray), ()) = M.inR (wrap64 (a.2.1 + b.2.1)) (-9999) 9999 := by unfold M.valueOk; simp
    rw [hv]
    cases decide (a.1 = (0 : Int)) <;> cases decide (b.1 = (0 : Int)) <;> cases M.inR (wrap64 (a.2.1 + b.2.1)) (-9999) 9999 <;> rfl
  by_cases e4 : p.1 = (4 : Int)
  · rw [takes_two (.inr (.inl e4))] at p0
    simp only [e4, decide_true, cond_true, Int.reduceEq, decide_false, cond_false, letD_eq]
    repeat rw [guardD_pos (by omega)]
  by_cases e5 : p.1 = (5 : Int)
  · rw [takes_two (.inr (.inr (.inl e5)))] at p0
    simp only [e5, decide_true, cond_true, Int.reduceEq, decide_false, cond_false, letD_eq]
    repeat rw [guardD_pos (by omega)]
  by_cases e6 : p.1 = (6 : Int)
  · rw [takes_two (.inr (.inr (.inr e6)))] at p0
    simp only [e6, decide_true, cond_true, Int.reduceEq, decide_false, cond_false, letD_eq]
    repeat rw [guardD_pos (by omega)]
  by_cases e7 : p.1 = (7 : Int)
  · rw [takes_one (.inl e7)] at p0
    simp only [e7, decide_true, cond_true, Int.reduceEq, decide_false, cond_false, letD_eq]
    repeat rw [guardD_pos (by omega)]
  · simp only [e1, e2, e3, e4, e5, e6, e7, decide_false, cond_false, letD_eq]
    have e8 : p.1 = (8 : Int) := by
      rcases kinds_8 p2 with h | h | h | h | h | h | h | h <;> first | exact h | exact absurd h (by assumption)
    rw [takes_one (.inr e8)] at p0
    rw [guardD_pos (by omega)]

theorem F.impl_exprValue_eq (row : (List (TValue).D)) (e : (List (TPart).D)) (h_row : Sm (Ty.sl TValue) row) (h_e : Sm (Ty.sl TPart) e) (p0 : M.exprSafe row.length e) : F.impl_exprValue row e = some (M.exprValue row e) := by
  unfold F.impl_exprValue M.exprValue
  obtain ⟨h1, h2⟩ := run_vals (f := F.impl_exprValue_l0 row e) h_row (fun p st hp hs hl h1 hk hc => impl_val_step p st hp hs hl h1 hk hc) e [] h_e.2 (sm_nil TValue) (by simp; have := p0.1; omega) p0.2
  rw [h1, thenD_inl, guardD_pos (by omega)]

theorem F.impl_exprHolds_eq (row : (List (TValue).D)) (e : (List (TPart).D)) (h_row : Sm (Ty.sl TValue) row) (h_e : Sm (Ty.sl TPart) e) (p0 : M.exprSafe row.length e) : F.impl_exprHolds row e = some (M.holds row e) := by
  rfl

theorem F.impl_TablesSeen_1_eq (r : (List (TValue).D)) (g : (TGuard).D) (h_r : Sm (Ty.sl TValue) r) (h_g : Sm TGuard g) (p0 : M.exprSafe r.length g.2.1) : F.impl_TablesSeen_1 r g = some (M.holds r g.2.1) := by
  rfl

theorem F.impl_kept_eq (rows : (List (List (TValue).D))) (g : (TGuard).D) (h_rows : Sm (Ty.sl (Ty.sl TValue)) rows) (h_g : Sm TGuard g) (p0 : ∀ r ∈ rows, M.exprSafe r.length g.2.1) : F.impl_kept rows g = some (List.filter (fun r => M.holds r g.2.1) rows) := by
  unfold F.impl_kept
  rw [M.each_filter (fun r => M.holds r g.2.1) (fun x hx s hs => by
    have hl := h_rows.1
    simp only [F.impl_kept_l0]
    rw [guardD_pos (p0 x hx), guardD_pos (by unfold lim; simp; omega)]
    cases M.holds x g.2.1 <;> rfl), thenD_inl, guardD_pos (M.sm_filter _ h_rows)]
  simp only [letD_eq, M.take_all]

theorem F.impl_TablesSeen_eq (tables : (List (TTable).D)) (guards : (List (TGuard).D)) (h_tables : Sm (Ty.sl TTable) tables) (h_guards : Sm (Ty.sl TGuard) guards) : F.impl_TablesSeen tables guards = some (M.tablesSeen tables guards) := by
  unfold F.impl_TablesSeen M.tablesSeen
  cases hg : M.guardsOk tables guards
  · rfl
  simp only [Bool.not_true, cond_false, cond_true, letD_eq]
  have hfold := M.each_fold (f := F.impl_TablesSeen_l0 tables guards (tables.length : Int)) M.seenStep (M.Fewer tables) (xs := guards) (M.Fewer.refl tables) (fun g hm s hI => by
    obtain ⟨⟨b0, b1⟩, hk, hok⟩ := M.guardsOk_at hg hm
    obtain ⟨q1, q2, q3⟩ := hI.2 _ b0 b1
    have hsT := sm_nth (hI.sm h_tables) g.1
    refine ⟨?_, hI.step b0 b1⟩
    unfold F.impl_TablesSeen_l0
    rw [guardD_pos b0, guardD_pos b1, guardD_pos hsT.2.1, guardD_pos (fun r hr => by
      have hlen := M.row_len hok b0 b1 (q3 _ hr)
      have hs := kind_safe (columns := (nth (t := TTable) tables g.1).1) (e := g.2.1) (by rw [hk]; decide)
      rw [← hlen] at hs
      exact hs)]
    simp only [letD_eq, M.cut_all]
    rfl)
  rw [hfold.1, thenD_inl, List.take_of_length_le (by rw [hfold.2.1]; simp)]

theorem F.laws_eqPart_eq (x : (TPart).D) (y : (TPart).D) (h_x : Sm TPart x) (h_y : Sm TPart y) (p0 : x = y) : F.laws_eqPart x y = some (true) := by
  subst p0
  unfold F.laws_eqPart
  simp [Ty.beq, M.refl_guard, M.guardD_true]

theorem F.laws_eqPartS_eq (x : (List (TPart).D)) (y : (List (TPart).D)) (h_x : Sm (Ty.sl TPart) x) (h_y : Sm (Ty.sl TPart) y) (p0 : x = y) : F.laws_eqPartS x y = some (true) := by
  subst p0
  unfold F.laws_eqPartS
  exact M.eq_eq (fun i h0 h1 => by simp only [F.laws_eqPartS_l0, guardD_pos h1, guardD_pos True.intro, guardD_pos trivial, decide_true, Bool.not_true, cond_false, M.refl_guard])

theorem F.laws_eqGuard_eq (x : (TGuard).D) (y : (TGuard).D) (h_x : Sm TGuard x) (h_y : Sm TGuard y) (p0 : x = y) : F.laws_eqGuard x y = some (true) := by
  subst p0
  unfold F.laws_eqGuard
  simp [Ty.beq, M.refl_guard, M.guardD_true]

theorem F.laws_eqGuardS_eq (x : (List (TGuard).D)) (y : (List (TGuard).D)) (h_x : Sm (Ty.sl TGuard) x) (h_y : Sm (Ty.sl TGuard) y) (p0 : x = y) : F.laws_eqGuardS x y = some (true) := by
  subst p0
  unfold F.laws_eqGuardS
  exact M.eq_eq (fun i h0 h1 => by simp only [F.laws_eqGuardS_l0, guardD_pos h1, guardD_pos True.intro, guardD_pos trivial, decide_true, Bool.not_true, cond_false, M.refl_guard])

theorem F.laws_markPartS_eq (x : (List (TPart).D)) (k : Int) (h_x : Ln (Ty.sl TPart) x) (p0 : 0 ≤ k) (p1 : k + (M.count (Ty.sl TPart) x : Int) ≤ M.big) : F.laws_markPartS x k = some ((M.mark (Ty.sl TPart) x k, k + (M.count (Ty.sl TPart) x : Int))) := by
  unfold F.laws_markPartS
  refine M.mark_eq (e := TPart) h_x p0 p1 (fun i v i0 i1 i2 k0 kb hs => ?_)
  obtain ⟨k, a⟩ := v
  replace i2 : i < (a.length : Int) := i2
  replace k0 : 0 ≤ k := k0
  have hc : M.count TPart (nth (t := TPart) a i) = (1 + (1 + ((1 + (1 + (1 + 0))) + 0))) := rfl
  replace kb : k + (M.count TPart (nth (t := TPart) a i) : Int) ≤ M.big := kb
  rw [hc] at kb
  unfold M.big at kb
  have he : ∀ z : Ty.D TPart, nth (t := TPart) (a.set i.toNat z) i = z := fun z => M.nth_set i0 i2
  have w0 : wrap64 (k + (1 : Int)) = k + (1 : Int) := wrap64_id' (by omega) (by omega)
  have w1 : wrap64 (k + (1 : Int) + (1 : Int)) = k + (1 : Int) + (1 : Int) := wrap64_id' (by omega) (by omega)
  have w2 : wrap64 (k + (1 : Int) + (1 : Int) + (1 : Int)) = k + (1 : Int) + (1 : Int) + (1 : Int) := wrap64_id' (by omega) (by omega)
  have w3 : wrap64 (k + (1 : Int) + (1 : Int) + (1 : Int) + (1 : Int)) = k + (1 : Int) + (1 : Int) + (1 : Int) + (1 : Int) := wrap64_id' (by omega) (by omega)
  have w4 : wrap64 (k + (1 : Int) + (1 : Int) + (1 : Int) + (1 : Int) + (1 : Int)) = k + (1 : Int) + (1 : Int) + (1 : Int) + (1 : Int) + (1 : Int) := wrap64_id' (by omega) (by omega)
  simp only [F.laws_markPartS_l0, letD_eq, List.set_set, he, w0, w1, w2, w3, w4]
  repeat rw [guardD_pos (show k + (1 : Int) + (1 : Int) + (1 : Int) + (1 : Int) ≤ M.big by unfold M.big; omega)]
  try simp only [letD_eq, List.set_set, he, w0, w1, w2, w3, w4]
  rw [hc]
  refine congrArg (fun q => some (Sum.inl q)) (Prod.ext ?_ rfl)
  show k + (1 : Int) + (1 : Int) + (1 : Int) + (1 : Int) + (1 : Int) = _
  omega

theorem F.laws_markGuardS_eq (x : (List (TGuard).D)) (k : Int) (h_x : Ln (Ty.sl TGuard) x) (p0 : 0 ≤ k) (p1 : k + (M.count (Ty.sl TGuard) x : Int) ≤ M.big) : F.laws_markGuardS x k = some ((M.mark (Ty.sl TGuard) x k, k + (M.count (Ty.sl TGuard) x : Int))) := by
  unfold F.laws_markGuardS
  refine M.mark_eq (e := TGuard) h_x p0 p1 (fun i v i0 i1 i2 k0 kb hs => ?_)
  obtain ⟨k, a⟩ := v
  replace i2 : i < (a.length : Int) := i2
  replace k0 : 0 ≤ k := k0
  have hc : M.count TGuard (nth (t := TGuard) a i) = (1 + (M.count (Ty.sl TPart) ((nth (t := TGuard) a i).2.1) + 0)) := rfl
  replace kb : k + (M.count TGuard (nth (t := TGuard) a i) : Int) ≤ M.big := kb
  rw [hc] at kb
  unfold M.big at kb
  have he : ∀ z : Ty.D TGuard, nth (t := TGuard) (a.set i.toNat z) i = z := fun z => M.nth_set i0 i2
  have w0 : wrap64 (k + (1 : Int)) = k + (1 : Int) := wrap64_id' (by omega) (by omega)
  simp only [F.laws_markGuardS_l0, letD_eq, List.set_set, he, w0]
  repeat rw [guardD_pos (show Ln (Ty.sl TPart) ((nth (t := TGuard) a i).2.1) from hs.2.1)]
  repeat rw [guardD_pos (show (0 : Int) ≤ k + (1 : Int) by omega)]
  repeat rw [guardD_pos (show k + (1 : Int) + (M.count (Ty.sl TPart) ((nth (t := TGuard) a i).2.1) : Int) ≤ M.big by unfold M.big; omega)]
  rw [hc]
  refine congrArg (fun q => some (Sum.inl q)) (Prod.ext ?_ rfl)
  show k + (1 : Int) + (M.count (Ty.sl TPart) ((nth (t := TGuard) a i).2.1) : Int) = _
  omega

theorem F.laws_heldValueS_eq (x : (List (TValue).D)) (k : Int) (h_x : Ln (Ty.sl TValue) x) (p0 : 0 ≤ k) (p1 : k + (M.count (Ty.sl TValue) x : Int) ≤ M.big) (p2 : M.mark (Ty.sl TValue) x k = x) : F.laws_heldValueS x k = some (k + (M.count (Ty.sl TValue) x : Int)) := by
  unfold F.laws_heldValueS
  refine M.held_eq (e := TValue) p0 p1 p2 (fun z k k0 kb hm => ?_)
  have hc : M.count TValue z = (1 + (1 + (1 + 0))) := rfl
  rw [hc] at kb
  unfold M.big at kb
  have w0 : wrap64 (k + (1 : Int)) = k + (1 : Int) := wrap64_id' (by omega) (by omega)
  have f0 : z.1 = k := (congrArg (fun q : Ty.D TValue => q.1) hm).symm
  have w1 : wrap64 (k + (1 : Int) + (1 : Int)) = k + (1 : Int) + (1 : Int) := wrap64_id' (by omega) (by omega)
  have f1 : z.2.1 = k + (1 : Int) := (congrArg (fun q : Ty.D TValue => q.2.1) hm).symm
  have w2 : wrap64 (k + (1 : Int) + (1 : Int) + (1 : Int)) = k + (1 : Int) + (1 : Int) + (1 : Int) := wrap64_id' (by omega) (by omega)
  have f2 : z.2.2.1 = M.markText (k + (1 : Int) + (1 : Int)) := (congrArg (fun q : Ty.D TValue => q.2.2.1) hm).symm
  simp only [F.laws_heldValueS_l0, letD_eq, w0, w1, w2]
  rw [decide_eq_true f0, Bool.not_true, cond_false]
  rw [decide_eq_true f1, Bool.not_true, cond_false]
  rw [guardD_pos (show k + (1 : Int) + (1 : Int) ≤ M.big by unfold M.big; omega), decide_eq_true f2, Bool.not_true, cond_false]
  rw [hc]
  refine congrArg (fun q => some (Sum.inl q)) ?_
  omega

theorem F.laws_heldValueSS_eq (x : (List (List (TValue).D))) (k : Int) (h_x : Ln (Ty.sl (Ty.sl TValue)) x) (p0 : 0 ≤ k) (p1 : k + (M.count (Ty.sl (Ty.sl TValue)) x : Int) ≤ M.big) (p2 : M.mark (Ty.sl (Ty.sl TValue)) x k = x) : F.laws_heldValueSS x k = some (k + (M.count (Ty.sl (Ty.sl TValue)) x : Int)) := by
  unfold F.laws_heldValueSS
  refine M.held_eq (e := (Ty.sl TValue)) p0 p1 p2 (fun z k k0 kb hm => ?_)
  have hc : M.count (Ty.sl TValue) z = M.count (Ty.sl TValue) z := rfl
  rw [hc] at kb
  unfold M.big at kb
  have f0 : M.mark (Ty.sl TValue) (z) (k) = z := hm
  simp only [F.laws_heldValueSS_l0, letD_eq]
  rw [guardD_pos (by omega), guardD_pos (by unfold M.big; omega), guardD_pos f0, decide_eq_false (by omega), cond_false]

theorem F.laws_heldColumnS_eq (x : (List (TColumn).D)) (k : Int) (h_x : Ln (Ty.sl TColumn) x) (p0 : 0 ≤ k) (p1 : k + (M.count (Ty.sl TColumn) x : Int) ≤ M.big) (p2 : M.mark (Ty.sl TColumn) x k = x) : F.laws_heldColumnS x k = some (k + (M.count (Ty.sl TColumn) x : Int)) := by
  unfold F.laws_heldColumnS
  refine M.held_eq (e := TColumn) p0 p1 p2 (fun z k k0 kb hm => ?_)
  have hc : M.count TColumn z = (1 + (1 + 0)) := rfl
  rw [hc] at kb
  unfold M.big at kb
  have w0 : wrap64 (k + (1 : Int)) = k + (1 : Int) := wrap64_id' (by omega) (by omega)
  have f0 : z.1 = k := (congrArg (fun q : Ty.D TColumn => q.1) hm).symm
  have w1 : wrap64 (k + (1 : Int) + (1 : Int)) = k + (1 : Int) + (1 : Int) := wrap64_id' (by omega) (by omega)
  have f1 : z.2.1 = decide ((k + (1 : Int)).tmod (3 : Int) = (0 : Int)) := (congrArg (fun q : Ty.D TColumn => q.2.1) hm).symm
  simp only [F.laws_heldColumnS_l0, letD_eq, w0, w1]
  rw [decide_eq_true f0, Bool.not_true, cond_false]
  rw [f1, show ∀ b : Bool, Ty.beq Ty.bool b b = true from fun b => by cases b <;> rfl, Bool.not_true, cond_false]
  rw [hc]
  refine congrArg (fun q => some (Sum.inl q)) ?_
  omega

theorem F.laws_heldTableS_eq (x : (List (TTable).D)) (k : Int) (h_x : Ln (Ty.sl TTable) x) (p0 : 0 ≤ k) (p1 : k + (M.count (Ty.sl TTable) x : Int) ≤ M.big) (p2 : M.mark (Ty.sl TTable) x k = x) : F.laws_heldTableS x k = some (k + (M.count (Ty.sl TTable) x : Int)) := by
  unfold F.laws_heldTableS
  refine M.held_eq (e := TTable) p0 p1 p2 (fun z k k0 kb hm => ?_)
  have hc : M.count TTable z = (M.count (Ty.sl TColumn) z.1 + (M.count (Ty.sl (Ty.sl TValue)) z.2.1 + 0)) := rfl
  rw [hc] at kb
  unfold M.big at kb
  have f0 : M.mark (Ty.sl TColumn) (z.1) (k) = z.1 := (congrArg (fun q : Ty.D TTable => q.1) hm)
  have f1 : M.mark (Ty.sl (Ty.sl TValue)) (z.2.1) (k + (M.count (Ty.sl TColumn) z.1 : Int)) = z.2.1 := (congrArg (fun q : Ty.D TTable => q.2.1) hm)
  simp only [F.laws_heldTableS_l0, letD_eq]
  rw [guardD_pos (by omega), guardD_pos (by unfold M.big; omega), guardD_pos f0, decide_eq_false (by omega), cond_false]
  rw [guardD_pos (by omega), guardD_pos (by unfold M.big; omega), guardD_pos f1, decide_eq_false (by omega), cond_false]
  rw [hc]
  refine congrArg (fun q => some (Sum.inl q)) ?_
  omega

theorem F.laws_FnExactTablesSeen_eq (aTables : (List (TTable).D)) (aGuards : (List (TGuard).D)) (h_aTables : Ln (Ty.sl TTable) aTables) (h_aGuards : Ln (Ty.sl TGuard) aGuards) : F.laws_FnExactTablesSeen aTables aGuards = some (true) := by
  unfold F.laws_FnExactTablesSeen
  rw [guardD_pos (by decide), guardD_pos (by decide)]
  by_cases h0 : M.szS M.szTable aTables 1048576 < 0
  · rw [decide_eq_true h0]
    rfl
  rw [decide_eq_false h0, cond_false]
  have l0 := (M.szS_le M.szTable_le) aTables 1048576 (by decide)
  have u0 : M.szS M.szTable aTables 1048576 ≤ 1048576 := by omega
  have g0 : 0 ≤ M.szS M.szTable aTables 1048576 := by omega
  have s0 := (M.szS_tells M.szTable_le M.szTable_tells) aTables 1048576 (by decide) (by decide) g0
  rw [guardD_pos g0, guardD_pos u0]
  by_cases h1 : M.szS M.szGuard aGuards (M.szS M.szTable aTables 1048576) < 0
  · rw [decide_eq_true h1]
    rfl
  rw [decide_eq_false h1, cond_false]
  have l1 := (M.szS_le M.szGuard_le) aGuards (M.szS M.szTable aTables 1048576) g0
  have u1 : M.szS M.szGuard aGuards (M.szS M.szTable aTables 1048576) ≤ 1048576 := by omega
  have g1 : 0 ≤ M.szS M.szGuard aGuards (M.szS M.szTable aTables 1048576) := by omega
  have s1 := (M.szS_tells M.szGuard_le M.szGuard_tells) aGuards (M.szS M.szTable aTables 1048576) g0 u0 g1
  have sr := M.seen_sm (guards := aGuards) s0
  generalize hr : M.tablesSeen aTables aGuards = R at sr ⊢
  have c0 : M.count (Ty.sl TTable) aTables ≤ 3458766712843796480 := Nat.le_trans (M.count_le s0) (by decide)
  have c1 : M.count (Ty.sl TGuard) aGuards ≤ 5497559187456 := Nat.le_trans (M.count_le s1) (by decide)
  have cr : M.count (Ty.sl TTable) R ≤ 3458766712843796480 := Nat.le_trans (M.count_le sr) (by decide)
  simp only [letD_eq, M.cut_all, M.cut_mark, M.count_mark, hr]
  simp only [decide_true, Bool.not_true, cond_false, M.refl_guard, M.guardD_true]
  repeat rw [guardD_pos (by first | exact s0 | exact s1 | exact sr | rfl | decide | exact M.sm_ln s0 | exact M.sm_ln s1 | exact M.sm_ln sr | exact M.mark_sm (by decide) _ (M.sm_ln sr) | exact M.mark_idem _ _ _ | omega | (unfold M.big; omega))]
  have cm : cutList (M.mark (Ty.sl TTable) R 1 : List TTable.D) (some ((0 : Int), (R.length : Int))) = M.mark (Ty.sl TTable) R 1 := M.cut_mark TTable R 1
  rw [decide_eq_false (show ¬ (1 : Int) + (M.count (Ty.sl TTable) aTables : Int) + (M.count (Ty.sl TGuard) aGuards : Int) < 0 by omega), show ((false : Bool) == false) = true from rfl, cond_true]
  repeat rw [guardD_pos (by first | exact s0 | exact s1 | exact sr | rfl | decide | exact M.sm_ln s0 | exact M.sm_ln s1 | exact M.sm_ln sr | exact M.mark_sm (by decide) _ (M.sm_ln sr) | exact M.mark_idem _ _ _ | omega | (unfold M.big; omega))]
  rw [cm]
  simp only [M.count_mark]
  repeat rw [guardD_pos (by first | exact s0 | exact s1 | exact sr | rfl | decide | exact M.sm_ln s0 | exact M.sm_ln s1 | exact M.sm_ln sr | exact M.mark_sm (by decide) _ (M.sm_ln sr) | exact M.mark_idem _ _ _ | omega | (unfold M.big; omega))]
  rw [decide_eq_false (show ¬ (1 : Int) + (M.count (Ty.sl TTable) R : Int) < 0 by omega), cond_false]
  simp only [decide_true, Bool.not_true, cond_false]
  repeat rw [guardD_pos (by first | exact s0 | exact s1 | exact sr | rfl | decide | exact M.sm_ln s0 | exact M.sm_ln s1 | exact M.sm_ln sr | exact M.mark_sm (by decide) _ (M.sm_ln sr) | exact M.mark_idem _ _ _ | omega | (unfold M.big; omega))]

end Go.AE
