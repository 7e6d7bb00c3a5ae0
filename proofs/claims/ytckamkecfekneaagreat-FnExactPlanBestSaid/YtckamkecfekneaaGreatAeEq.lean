/- What the functions compute is what is said. -/
import Derived.Test.YtckamkecfekneaaGreatAeF
import Derived.Test.YtckamkecfekneaaGreatAeMQ
import Derived.Test.YtckamkecfekneaaGreatAeEqI
import Derived.Test.YtckamkecfekneaaGreatAeEqT
import Derived.Test.YtckamkecfekneaaGreatAeEqW
import Derived.Test.YtckamkecfekneaaGreatAeEqP
namespace Go.AE
open Go Go.RowKit
set_option linter.unusedVariables false
set_option linter.unusedSimpArgs false
theorem F.laws_szColumnS_eq (x : LC) (left : Int) (h_x : Ln (Ty.sl TColumn) x) (p0 : 0 ≤ left) (p1 : left ≤ 1048576) : F.laws_szColumnS x left = some (M.szLen x.length left) := by
 unfold F.laws_szColumnS M.szLen
 have h := h_x.1
 rw [wrap64_id' (n := left - (x.length : Int)) (by omega) (by omega)]
 by_cases h2 : left - (x.length : Int) < 0 <;> simp [h2]
theorem F.laws_szValue_eq (x : TValue.D) (left : Int) (h_x : Ln TValue x) (p0 : 0 ≤ left) (p1 : left ≤ 1048576) : F.laws_szValue x left = some (M.szValue x left) := by
 unfold F.laws_szValue M.szValue M.szLen
 have h : v_size_ok x := h_x.2.2.1
 unfold v_size_ok at h
 rw [wrap64_id' (n := left - (x.2.2.1.size : Int)) (by omega) (by omega)]
 by_cases h2 : left - (x.2.2.1.size : Int) < 0 <;> simp [h2]
theorem F.laws_szValueS_eq (x : LV) (left : Int) (h_x : Ln (Ty.sl TValue) x) (p0 : 0 ≤ left) (p1 : left ≤ 1048576) : F.laws_szValueS x left = some (M.szS M.szValue x left) := by
 unfold F.laws_szValueS
 exact M.szS_eq M.szValue_le h_x.1 p0 p1 (fun z l h0 h1 => by simp only [F.laws_szValueS_l0, guardD_pos h0, guardD_pos h1, cond_some])
theorem F.laws_szValueSS_eq (x : LLV) (left : Int) (h_x : Ln (Ty.sl (Ty.sl TValue)) x) (p0 : 0 ≤ left) (p1 : left ≤ 1048576) : F.laws_szValueSS x left = some (M.szS (M.szS M.szValue) x left) := by
 unfold F.laws_szValueSS
 exact M.szS_eq (M.szS_le M.szValue_le) h_x.1 p0 p1 (fun z l h0 h1 => by simp only [F.laws_szValueSS_l0, guardD_pos h0, guardD_pos h1, cond_some])
theorem F.laws_szTable_eq (x : TTable.D) (left : Int) (h_x : Ln TTable x) (p0 : 0 ≤ left) (p1 : left ≤ 1048576) : F.laws_szTable x left = some (M.szTable x left) := by
 unfold F.laws_szTable M.szTable M.szThen
 have le0 := M.szLen_le (List.length x.1) left p0
 by_cases c0 : M.szLen (List.length x.1) left < 0
 ·rw [decide_eq_true c0, if_pos c0]
  rfl
 rw [decide_eq_false c0, if_neg c0]
 simp only [cond_false]
 have g0 : 0 ≤ M.szLen (List.length x.1) left := by omega
 repeat rw [guardD_pos (by first | exact g0 | omega)]
 have le1 := (M.szS_le (M.szS_le M.szValue_le)) x.2.1 (M.szLen (List.length x.1) left) g0
 by_cases c1 : (M.szS (M.szS M.szValue)) x.2.1 (M.szLen (List.length x.1) left) < 0
 ·rw [decide_eq_true c1, if_pos c1]
  rfl
 rw [decide_eq_false c1, if_neg c1]
 try rfl
theorem F.laws_szTableS_eq (x : LTb) (left : Int) (h_x : Ln (Ty.sl TTable) x) (p0 : 0 ≤ left) (p1 : left ≤ 1048576) : F.laws_szTableS x left = some (M.szS M.szTable x left) := by
 unfold F.laws_szTableS
 exact M.szS_eq M.szTable_le h_x.1 p0 p1 (fun z l h0 h1 => by simp only [F.laws_szTableS_l0, guardD_pos h0, guardD_pos h1, cond_some])
theorem F.laws_szPart_eq (x : TPart.D) (left : Int) (h_x : Ln TPart x) (p0 : 0 ≤ left) (p1 : left ≤ 1048576) : F.laws_szPart x left = some (M.szPart x left) := by
 unfold F.laws_szPart M.szPart M.szThen
 have le0 := M.szValue_le x.2.2.1 left p0
 by_cases c0 : M.szValue x.2.2.1 left < 0
 ·rw [decide_eq_true c0, if_pos c0]
  rfl
 rw [decide_eq_false c0, if_neg c0]
 try rfl
theorem F.laws_szPartS_eq (x : LPt) (left : Int) (h_x : Ln (Ty.sl TPart) x) (p0 : 0 ≤ left) (p1 : left ≤ 1048576) : F.laws_szPartS x left = some (M.szS M.szPart x left) := by
 unfold F.laws_szPartS
 exact M.szS_eq M.szPart_le h_x.1 p0 p1 (fun z l h0 h1 => by simp only [F.laws_szPartS_l0, guardD_pos h0, guardD_pos h1, cond_some])
theorem F.laws_szIntS_eq (x : (List Int)) (left : Int) (h_x : Ln (Ty.sl (Ty.int .i64)) x) (p0 : 0 ≤ left) (p1 : left ≤ 1048576) : F.laws_szIntS x left = some (M.szLen x.length left) := by
 unfold F.laws_szIntS M.szLen
 have h := h_x.1
 rw [wrap64_id' (n := left - (x.length : Int)) (by omega) (by omega)]
 by_cases h2 : left - (x.length : Int) < 0 <;> simp [h2]
theorem F.laws_szStep_eq (x : TStep.D) (left : Int) (h_x : Ln TStep x) (p0 : 0 ≤ left) (p1 : left ≤ 1048576) : F.laws_szStep x left = some (M.szStep x left) := by
 unfold F.laws_szStep M.szStep M.szThen
 have le0 := (M.szS_le M.szPart_le) x.2.2.2.2.1 left p0
 by_cases c0 : (M.szS M.szPart) x.2.2.2.2.1 left < 0
 ·rw [decide_eq_true c0, if_pos c0]
  rfl
 rw [decide_eq_false c0, if_neg c0]
 simp only [cond_false]
 have g0 : 0 ≤ (M.szS M.szPart) x.2.2.2.2.1 left := by omega
 repeat rw [guardD_pos (by first | exact g0 | omega)]
 have le1 := M.szLen_le (List.length x.2.2.2.2.2.1) ((M.szS M.szPart) x.2.2.2.2.1 left) g0
 by_cases c1 : M.szLen (List.length x.2.2.2.2.2.1) ((M.szS M.szPart) x.2.2.2.2.1 left) < 0
 ·rw [decide_eq_true c1, if_pos c1]
  rfl
 rw [decide_eq_false c1, if_neg c1]
 try rfl
theorem F.laws_szStepS_eq (x : LS) (left : Int) (h_x : Ln (Ty.sl TStep) x) (p0 : 0 ≤ left) (p1 : left ≤ 1048576) : F.laws_szStepS x left = some (M.szS M.szStep x left) := by
 unfold F.laws_szStepS
 exact M.szS_eq M.szStep_le h_x.1 p0 p1 (fun z l h0 h1 => by simp only [F.laws_szStepS_l0, guardD_pos h0, guardD_pos h1, cond_some])
theorem F.laws_toColumn_eq (x : TColumn.D)  : F.laws_toColumn x = some x := by
 rfl
theorem F.laws_toColumnS_eq (x : LC) (h_x : Sm (Ty.sl TColumn) x) : F.laws_toColumnS x = some x := by
 unfold F.laws_toColumnS
 exact M.to_eq (t := TColumn) (fun i v h0 h1 h2 => by simp only [F.laws_toColumnS_l0, letD_eq, guardD_pos h2])
theorem F.laws_toValue_eq (x : TValue.D) (h_x : Sm TValue x) : F.laws_toValue x = some x := by
 rfl
theorem F.laws_toValueS_eq (x : LV) (h_x : Sm (Ty.sl TValue) x) : F.laws_toValueS x = some x := by
 unfold F.laws_toValueS
 exact M.to_eq (t := TValue) (fun i v h0 h1 h2 => by simp only [F.laws_toValueS_l0, letD_eq, guardD_pos h2])
theorem F.laws_toValueSS_eq (x : LLV) (h_x : Sm (Ty.sl (Ty.sl TValue)) x) : F.laws_toValueSS x = some x := by
 unfold F.laws_toValueSS
 exact M.to_eq (t := (Ty.sl TValue)) (fun i v h0 h1 h2 => by simp only [F.laws_toValueSS_l0, letD_eq, guardD_pos h2])
theorem F.laws_toTableS_eq (x : LTb) (h_x : Sm (Ty.sl TTable) x) : F.laws_toTableS x = some x := by
 unfold F.laws_toTableS
 exact M.to_eq (t := TTable) (fun i v h0 h1 h2 => by simp only [F.laws_toTableS_l0, letD_eq, guardD_pos h2])
theorem F.laws_toPart_eq (x : TPart.D) (h_x : Sm TPart x) : F.laws_toPart x = some x := by
 rfl
theorem F.laws_toPartS_eq (x : LPt) (h_x : Sm (Ty.sl TPart) x) : F.laws_toPartS x = some x := by
 unfold F.laws_toPartS
 exact M.to_eq (t := TPart) (fun i v h0 h1 h2 => by simp only [F.laws_toPartS_l0, letD_eq, guardD_pos h2])
theorem F.laws_toIntS_eq (x : (List Int)) (h_x : Sm (Ty.sl (Ty.int .i64)) x) : F.laws_toIntS x = some x := by
 unfold F.laws_toIntS
 exact M.to_eq (t := (Ty.int .i64)) (fun i v h0 h1 h2 => by simp only [F.laws_toIntS_l0, letD_eq, guardD_pos h2])
theorem F.laws_toStepS_eq (x : LS) (h_x : Sm (Ty.sl TStep) x) : F.laws_toStepS x = some x := by
 unfold F.laws_toStepS
 exact M.to_eq (t := TStep) (fun i v h0 h1 h2 => by simp only [F.laws_toStepS_l0, letD_eq, guardD_pos h2])
theorem F.laws_eqValue_eq (x : TValue.D) (y : TValue.D) (h_x : Sm TValue x) (h_y : Sm TValue y) (p0 : x = y) : F.laws_eqValue x y = some true := by
 subst p0
 unfold F.laws_eqValue
 simp [Ty.beq, M.refl_guard, M.guardD_true]
theorem F.laws_eqValueS_eq (x : LV) (y : LV) (h_x : Sm (Ty.sl TValue) x) (h_y : Sm (Ty.sl TValue) y) (p0 : x = y) : F.laws_eqValueS x y = some true := by
 subst p0
 unfold F.laws_eqValueS
 exact M.eq_eq (fun i h0 h1 => by simp only [F.laws_eqValueS_l0, guardD_pos h1, guardD_pos True.intro, guardD_pos trivial, decide_true, Bool.not_true, cond_false, M.refl_guard])
theorem F.laws_eqValueSS_eq (x : LLV) (y : LLV) (h_x : Sm (Ty.sl (Ty.sl TValue)) x) (h_y : Sm (Ty.sl (Ty.sl TValue)) y) (p0 : x = y) : F.laws_eqValueSS x y = some true := by
 subst p0
 unfold F.laws_eqValueSS
 exact M.eq_eq (fun i h0 h1 => by simp only [F.laws_eqValueSS_l0, guardD_pos h1, guardD_pos True.intro, guardD_pos trivial, decide_true, Bool.not_true, cond_false, M.refl_guard])
theorem F.laws_eqColumn_eq (x : TColumn.D) (y : TColumn.D) (p0 : x = y) : F.laws_eqColumn x y = some true := by
 subst p0
 unfold F.laws_eqColumn
 simp [Ty.beq]
theorem F.laws_eqColumnS_eq (x : LC) (y : LC) (h_x : Sm (Ty.sl TColumn) x) (h_y : Sm (Ty.sl TColumn) y) (p0 : x = y) : F.laws_eqColumnS x y = some true := by
 subst p0
 unfold F.laws_eqColumnS
 exact M.eq_eq (fun i h0 h1 => by simp only [F.laws_eqColumnS_l0, guardD_pos h1, guardD_pos True.intro, guardD_pos trivial, decide_true, Bool.not_true, cond_false, M.refl_guard])
theorem F.laws_eqTable_eq (x : TTable.D) (y : TTable.D) (h_x : Sm TTable x) (h_y : Sm TTable y) (p0 : x = y) : F.laws_eqTable x y = some true := by
 subst p0
 unfold F.laws_eqTable
 simp [Ty.beq, M.refl_guard, M.guardD_true]
theorem F.laws_eqTableS_eq (x : LTb) (y : LTb) (h_x : Sm (Ty.sl TTable) x) (h_y : Sm (Ty.sl TTable) y) (p0 : x = y) : F.laws_eqTableS x y = some true := by
 subst p0
 unfold F.laws_eqTableS
 exact M.eq_eq (fun i h0 h1 => by simp only [F.laws_eqTableS_l0, guardD_pos h1, guardD_pos True.intro, guardD_pos trivial, decide_true, Bool.not_true, cond_false, M.refl_guard])
theorem F.laws_eqIntS_eq (x : (List Int)) (y : (List Int)) (h_x : Sm (Ty.sl (Ty.int .i64)) x) (h_y : Sm (Ty.sl (Ty.int .i64)) y) (p0 : x = y) : F.laws_eqIntS x y = some true := by
 subst p0
 unfold F.laws_eqIntS
 exact M.eq_eq (fun i h0 h1 => by simp only [F.laws_eqIntS_l0, guardD_pos h1, guardD_pos True.intro, guardD_pos trivial, decide_true, Bool.not_true, cond_false, M.refl_guard])
theorem F.laws_eqPart_eq (x : TPart.D) (y : TPart.D) (h_x : Sm TPart x) (h_y : Sm TPart y) (p0 : x = y) : F.laws_eqPart x y = some true := by
 subst p0
 unfold F.laws_eqPart
 simp [Ty.beq, M.refl_guard, M.guardD_true]
theorem F.laws_eqPartS_eq (x : LPt) (y : LPt) (h_x : Sm (Ty.sl TPart) x) (h_y : Sm (Ty.sl TPart) y) (p0 : x = y) : F.laws_eqPartS x y = some true := by
 subst p0
 unfold F.laws_eqPartS
 exact M.eq_eq (fun i h0 h1 => by simp only [F.laws_eqPartS_l0, guardD_pos h1, guardD_pos True.intro, guardD_pos trivial, decide_true, Bool.not_true, cond_false, M.refl_guard])
theorem F.laws_eqStep_eq (x : TStep.D) (y : TStep.D) (h_x : Sm TStep x) (h_y : Sm TStep y) (p0 : x = y) : F.laws_eqStep x y = some true := by
 subst p0
 unfold F.laws_eqStep
 simp [Ty.beq, M.refl_guard, M.guardD_true]
theorem F.laws_eqStepS_eq (x : LS) (y : LS) (h_x : Sm (Ty.sl TStep) x) (h_y : Sm (Ty.sl TStep) y) (p0 : x = y) : F.laws_eqStepS x y = some true := by
 subst p0
 unfold F.laws_eqStepS
 exact M.eq_eq (fun i h0 h1 => by simp only [F.laws_eqStepS_l0, guardD_pos h1, guardD_pos True.intro, guardD_pos trivial, decide_true, Bool.not_true, cond_false, M.refl_guard])
theorem F.laws_markText_eq (k : Int) (p0 : k ≤ M.big) : F.laws_markText k = some (M.markText k) := by
 unfold F.laws_markText M.markText
 by_cases hk : k ≤ 0
 ·rw [decide_eq_true hk, if_pos hk]
  rfl
 rw [decide_eq_false hk, if_neg hk, cond_false, M.digits_run (fun v h63 hs => by
  have hs' : (strOf [(48 + v.1.tmod 10) % 256]).size = 1 := rfl
  unfold F.laws_markText_l0
  by_cases h0 : 0 < v.1
  ·have e1 : wrap64 ((48 : Int) + v.1.tmod 10) = 48 + v.1.tmod 10 := by
    rw [Int.tmod_eq_emod_of_nonneg (by omega)]
    exact wrap64_id' (by omega) (by omega)
   have e2 : wrap64 (v.1.tdiv 10) = v.1.tdiv 10 := by
    rw [Int.tdiv_eq_ediv_of_nonneg (by omega)]
    exact wrap64_id' (by omega) (by omega)
   rw [decide_eq_true h0, if_pos h0, e1, e2, guardD_pos (by omega)]
   rfl
  ·rw [decide_eq_false h0, if_neg h0]
   rfl) 64 k _ (by unfold M.big at p0; omega) (by unfold M.big at p0; omega) (by decide)]
 show guardD _ _ = _
 rw [guardD_pos]
 have := M.markText_size k
 unfold M.markText at this
 rw [if_neg hk, ByteArray.size_append] at this
 have e1 : (⟨#[109]⟩ : ByteArray).size = 1 := rfl
 omega
theorem F.laws_markValueS_eq (x : LV) (k : Int) (h_x : Ln (Ty.sl TValue) x) (p0 : 0 ≤ k) (p1 : k + (M.count (Ty.sl TValue) x : Int) ≤ M.big) : F.laws_markValueS x k = some (M.mark (Ty.sl TValue) x k, k + (M.count (Ty.sl TValue) x : Int)) := by
 unfold F.laws_markValueS
 refine M.mark_eq (e := TValue) h_x p0 p1 (fun i v i0 i1 i2 k0 kb hs => ?_)
 obtain ⟨k, a⟩ := v
 replace i2 : i < (a.length : Int) := i2
 replace k0 : 0 ≤ k := k0
 have hc : M.count TValue (nth (t := TValue) a i) = (1 + (1 + (1 + 0))) := rfl
 replace kb : k + (M.count TValue (nth (t := TValue) a i) : Int) ≤ M.big := kb
 rw [hc] at kb
 unfold M.big at kb
 have he : ∀ z : Ty.D TValue, nth (t := TValue) (a.set i.toNat z) i = z := fun z => M.nth_set i0 i2
 have w0 : wrap64 (k + (1 : Int)) = k + (1 : Int) := wrap64_id' (by omega) (by omega)
 have w1 : wrap64 (k + (1 : Int) + (1 : Int)) = k + (1 : Int) + (1 : Int) := wrap64_id' (by omega) (by omega)
 have w2 : wrap64 (k + (1 : Int) + (1 : Int) + (1 : Int)) = k + (1 : Int) + (1 : Int) + (1 : Int) := wrap64_id' (by omega) (by omega)
 simp only [F.laws_markValueS_l0, letD_eq, List.set_set, he, w0, w1, w2]
 repeat rw [guardD_pos (show k + (1 : Int) + (1 : Int) ≤ M.big by unfold M.big; omega)]
 try simp only [letD_eq, List.set_set, he, w0, w1, w2]
 rw [hc]
 refine congrArg (fun q => some (Sum.inl q)) (Prod.ext ?_ rfl)
 show k + (1 : Int) + (1 : Int) + (1 : Int) = _
 omega
theorem F.laws_markValueSS_eq (x : LLV) (k : Int) (h_x : Ln (Ty.sl (Ty.sl TValue)) x) (p0 : 0 ≤ k) (p1 : k + (M.count (Ty.sl (Ty.sl TValue)) x : Int) ≤ M.big) : F.laws_markValueSS x k = some (M.mark (Ty.sl (Ty.sl TValue)) x k, k + (M.count (Ty.sl (Ty.sl TValue)) x : Int)) := by
 unfold F.laws_markValueSS
 refine M.mark_eq (e := (Ty.sl TValue)) h_x p0 p1 (fun i v i0 i1 i2 k0 kb hs => ?_)
 obtain ⟨k, a⟩ := v
 replace i2 : i < (a.length : Int) := i2
 replace k0 : 0 ≤ k := k0
 have hc : M.count (Ty.sl TValue) (nth (t := (Ty.sl TValue)) a i) = M.count (Ty.sl TValue) (nth (t := (Ty.sl TValue)) a i) := rfl
 replace kb : k + (M.count (Ty.sl TValue) (nth (t := (Ty.sl TValue)) a i) : Int) ≤ M.big := kb
 rw [hc] at kb
 unfold M.big at kb
 have he : ∀ z : Ty.D (Ty.sl TValue), nth (t := (Ty.sl TValue)) (a.set i.toNat z) i = z := fun z => M.nth_set i0 i2
 simp only [F.laws_markValueSS_l0, letD_eq, List.set_set, he]
 repeat rw [guardD_pos (show Ln (Ty.sl TValue) (nth (t := (Ty.sl TValue)) a i) from hs)]
 repeat rw [guardD_pos (show (0 : Int) ≤ k by omega)]
 repeat rw [guardD_pos (show k + (M.count (Ty.sl TValue) (nth (t := (Ty.sl TValue)) a i) : Int) ≤ M.big by unfold M.big; omega)]
 all_goals rfl
theorem F.laws_markColumnS_eq (x : LC) (k : Int) (h_x : Ln (Ty.sl TColumn) x) (p0 : 0 ≤ k) (p1 : k + (M.count (Ty.sl TColumn) x : Int) ≤ M.big) : F.laws_markColumnS x k = some (M.mark (Ty.sl TColumn) x k, k + (M.count (Ty.sl TColumn) x : Int)) := by
 unfold F.laws_markColumnS
 refine M.mark_eq (e := TColumn) h_x p0 p1 (fun i v i0 i1 i2 k0 kb hs => ?_)
 obtain ⟨k, a⟩ := v
 replace i2 : i < (a.length : Int) := i2
 replace k0 : 0 ≤ k := k0
 have hc : M.count TColumn (nth (t := TColumn) a i) = (1 + (1 + 0)) := rfl
 replace kb : k + (M.count TColumn (nth (t := TColumn) a i) : Int) ≤ M.big := kb
 rw [hc] at kb
 unfold M.big at kb
 have he : ∀ z : Ty.D TColumn, nth (t := TColumn) (a.set i.toNat z) i = z := fun z => M.nth_set i0 i2
 have w0 : wrap64 (k + (1 : Int)) = k + (1 : Int) := wrap64_id' (by omega) (by omega)
 have w1 : wrap64 (k + (1 : Int) + (1 : Int)) = k + (1 : Int) + (1 : Int) := wrap64_id' (by omega) (by omega)
 simp only [F.laws_markColumnS_l0, letD_eq, List.set_set, he, w0, w1]
 try simp only [letD_eq, List.set_set, he, w0, w1]
 rw [hc]
 refine congrArg (fun q => some (Sum.inl q)) (Prod.ext ?_ rfl)
 show k + (1 : Int) + (1 : Int) = _
 omega
theorem F.laws_markTableS_eq (x : LTb) (k : Int) (h_x : Ln (Ty.sl TTable) x) (p0 : 0 ≤ k) (p1 : k + (M.count (Ty.sl TTable) x : Int) ≤ M.big) : F.laws_markTableS x k = some (M.mark (Ty.sl TTable) x k, k + (M.count (Ty.sl TTable) x : Int)) := by
 unfold F.laws_markTableS
 refine M.mark_eq (e := TTable) h_x p0 p1 (fun i v i0 i1 i2 k0 kb hs => ?_)
 obtain ⟨k, a⟩ := v
 replace i2 : i < (a.length : Int) := i2
 replace k0 : 0 ≤ k := k0
 have hc : M.count TTable (nth (t := TTable) a i) = (M.count (Ty.sl TColumn) (nth (t := TTable) a i).1 + (M.count (Ty.sl (Ty.sl TValue)) (nth (t := TTable) a i).2.1 + 0)) := rfl
 replace kb : k + (M.count TTable (nth (t := TTable) a i) : Int) ≤ M.big := kb
 rw [hc] at kb
 unfold M.big at kb
 have he : ∀ z : Ty.D TTable, nth (t := TTable) (a.set i.toNat z) i = z := fun z => M.nth_set i0 i2
 simp only [F.laws_markTableS_l0, letD_eq, List.set_set, he]
 repeat rw [guardD_pos (show Ln (Ty.sl TColumn) (nth (t := TTable) a i).1 from hs.1)]
 repeat rw [guardD_pos (show (0 : Int) ≤ k by omega)]
 repeat rw [guardD_pos (show k + (M.count (Ty.sl TColumn) (nth (t := TTable) a i).1 : Int) ≤ M.big by unfold M.big; omega)]
 repeat rw [guardD_pos (show Ln (Ty.sl (Ty.sl TValue)) (nth (t := TTable) a i).2.1 from hs.2.1)]
 repeat rw [guardD_pos (show (0 : Int) ≤ k + (M.count (Ty.sl TColumn) (nth (t := TTable) a i).1 : Int) by omega)]
 repeat rw [guardD_pos (show k + (M.count (Ty.sl TColumn) (nth (t := TTable) a i).1 : Int) + (M.count (Ty.sl (Ty.sl TValue)) (nth (t := TTable) a i).2.1 : Int) ≤ M.big by unfold M.big; omega)]
 rw [hc]
 refine congrArg (fun q => some (Sum.inl q)) (Prod.ext ?_ rfl)
 show k + (M.count (Ty.sl TColumn) (nth (t := TTable) a i).1 : Int) + (M.count (Ty.sl (Ty.sl TValue)) (nth (t := TTable) a i).2.1 : Int) = _
 omega
theorem F.laws_markIntS_eq (x : (List Int)) (k : Int) (h_x : Ln (Ty.sl (Ty.int .i64)) x) (p0 : 0 ≤ k) (p1 : k + (M.count (Ty.sl (Ty.int .i64)) x : Int) ≤ M.big) : F.laws_markIntS x k = some (M.mark (Ty.sl (Ty.int .i64)) x k, k + (M.count (Ty.sl (Ty.int .i64)) x : Int)) := by
 unfold F.laws_markIntS
 refine M.mark_eq (e := (Ty.int .i64)) h_x p0 p1 (fun i v i0 i1 i2 k0 kb hs => ?_)
 obtain ⟨k, a⟩ := v
 replace i2 : i < (a.length : Int) := i2
 replace k0 : 0 ≤ k := k0
 have hc : M.count (Ty.int .i64) (nth (t := (Ty.int .i64)) a i) = 1 := rfl
 replace kb : k + (M.count (Ty.int .i64) (nth (t := (Ty.int .i64)) a i) : Int) ≤ M.big := kb
 rw [hc] at kb
 unfold M.big at kb
 have he : ∀ z : Ty.D (Ty.int .i64), nth (t := (Ty.int .i64)) (a.set i.toNat z) i = z := fun z => M.nth_set i0 i2
 have w0 : wrap64 (k + (1 : Int)) = k + (1 : Int) := wrap64_id' (by omega) (by omega)
 simp only [F.laws_markIntS_l0, letD_eq, List.set_set, he, w0]
 try simp only [letD_eq, List.set_set, he, w0]
 rw [hc]
 refine congrArg (fun q => some (Sum.inl q)) (Prod.ext ?_ rfl)
 show k + (1 : Int) = _
 omega
theorem F.laws_markPartS_eq (x : LPt) (k : Int) (h_x : Ln (Ty.sl TPart) x) (p0 : 0 ≤ k) (p1 : k + (M.count (Ty.sl TPart) x : Int) ≤ M.big) : F.laws_markPartS x k = some (M.mark (Ty.sl TPart) x k, k + (M.count (Ty.sl TPart) x : Int)) := by
 unfold F.laws_markPartS
 refine M.mark_eq (e := TPart) h_x p0 p1 (fun i v i0 i1 i2 k0 kb hs => ?_)
 obtain ⟨k, a⟩ := v
 replace i2 : i < (a.length : Int) := i2
 replace k0 : 0 ≤ k := k0
 have hc : M.count TPart (nth (t := TPart) a i) = (1 + (1 + ((1 + (1 + (1 + 0))) + 0))) := rfl
 replace kb : k + (M.count TPart (nth (t := TPart) a i) : Int) ≤ M.big := kb
 rw [hc] at kb
 unfold M.big at kb
 have he : ∀ z : Ty.D TPart, nth (t := TPart) (a.set i.toNat z) i = z := fun z => M.nth_set i0 i2
 have w0 : wrap64 (k + (1 : Int)) = k + (1 : Int) := wrap64_id' (by omega) (by omega)
 have w1 : wrap64 (k + (1 : Int) + (1 : Int)) = k + (1 : Int) + (1 : Int) := wrap64_id' (by omega) (by omega)
 have w2 : wrap64 (k + (1 : Int) + (1 : Int) + (1 : Int)) = k + (1 : Int) + (1 : Int) + (1 : Int) := wrap64_id' (by omega) (by omega)
 have w3 : wrap64 (k + (1 : Int) + (1 : Int) + (1 : Int) + (1 : Int)) = k + (1 : Int) + (1 : Int) + (1 : Int) + (1 : Int) := wrap64_id' (by omega) (by omega)
 have w4 : wrap64 (k + (1 : Int) + (1 : Int) + (1 : Int) + (1 : Int) + (1 : Int)) = k + (1 : Int) + (1 : Int) + (1 : Int) + (1 : Int) + (1 : Int) := wrap64_id' (by omega) (by omega)
 simp only [F.laws_markPartS_l0, letD_eq, List.set_set, he, w0, w1, w2, w3, w4]
 repeat rw [guardD_pos (show k + (1 : Int) + (1 : Int) + (1 : Int) + (1 : Int) ≤ M.big by unfold M.big; omega)]
 try simp only [letD_eq, List.set_set, he, w0, w1, w2, w3, w4]
 rw [hc]
 refine congrArg (fun q => some (Sum.inl q)) (Prod.ext ?_ rfl)
 show k + (1 : Int) + (1 : Int) + (1 : Int) + (1 : Int) + (1 : Int) = _
 omega
theorem F.laws_markStepS_eq (x : LS) (k : Int) (h_x : Ln (Ty.sl TStep) x) (p0 : 0 ≤ k) (p1 : k + (M.count (Ty.sl TStep) x : Int) ≤ M.big) : F.laws_markStepS x k = some (M.mark (Ty.sl TStep) x k, k + (M.count (Ty.sl TStep) x : Int)) := by
 unfold F.laws_markStepS
 refine M.mark_eq (e := TStep) h_x p0 p1 (fun i v i0 i1 i2 k0 kb hs => ?_)
 obtain ⟨k, a⟩ := v
 replace i2 : i < (a.length : Int) := i2
 replace k0 : 0 ≤ k := k0
 have hc : M.count TStep (nth (t := TStep) a i) = (1 + (1 + (1 + (1 + (M.count (Ty.sl TPart) (nth (t := TStep) a i).2.2.2.2.1 + (M.count (Ty.sl (Ty.int .i64)) (nth (t := TStep) a i).2.2.2.2.2.1 + 0)))))) := rfl
 replace kb : k + (M.count TStep (nth (t := TStep) a i) : Int) ≤ M.big := kb
 rw [hc] at kb
 unfold M.big at kb
 have he : ∀ z : Ty.D TStep, nth (t := TStep) (a.set i.toNat z) i = z := fun z => M.nth_set i0 i2
 have w0 : wrap64 (k + (1 : Int)) = k + (1 : Int) := wrap64_id' (by omega) (by omega)
 have w1 : wrap64 (k + (1 : Int) + (1 : Int)) = k + (1 : Int) + (1 : Int) := wrap64_id' (by omega) (by omega)
 have w2 : wrap64 (k + (1 : Int) + (1 : Int) + (1 : Int)) = k + (1 : Int) + (1 : Int) + (1 : Int) := wrap64_id' (by omega) (by omega)
 have w3 : wrap64 (k + (1 : Int) + (1 : Int) + (1 : Int) + (1 : Int)) = k + (1 : Int) + (1 : Int) + (1 : Int) + (1 : Int) := wrap64_id' (by omega) (by omega)
 simp only [F.laws_markStepS_l0, letD_eq, List.set_set, he, w0, w1, w2, w3]
 repeat rw [guardD_pos (show Ln (Ty.sl TPart) (nth (t := TStep) a i).2.2.2.2.1 from hs.2.2.2.2.1)]
 repeat rw [guardD_pos (show (0 : Int) ≤ k + (1 : Int) + (1 : Int) + (1 : Int) + (1 : Int) by omega)]
 repeat rw [guardD_pos (show k + (1 : Int) + (1 : Int) + (1 : Int) + (1 : Int) + (M.count (Ty.sl TPart) (nth (t := TStep) a i).2.2.2.2.1 : Int) ≤ M.big by unfold M.big; omega)]
 repeat rw [guardD_pos (show Ln (Ty.sl (Ty.int .i64)) (nth (t := TStep) a i).2.2.2.2.2.1 from hs.2.2.2.2.2.1)]
 repeat rw [guardD_pos (show (0 : Int) ≤ k + (1 : Int) + (1 : Int) + (1 : Int) + (1 : Int) + (M.count (Ty.sl TPart) (nth (t := TStep) a i).2.2.2.2.1 : Int) by omega)]
 repeat rw [guardD_pos (show k + (1 : Int) + (1 : Int) + (1 : Int) + (1 : Int) + (M.count (Ty.sl TPart) (nth (t := TStep) a i).2.2.2.2.1 : Int) + (M.count (Ty.sl (Ty.int .i64)) (nth (t := TStep) a i).2.2.2.2.2.1 : Int) ≤ M.big by unfold M.big; omega)]
 rw [hc]
 refine congrArg (fun q => some (Sum.inl q)) (Prod.ext ?_ rfl)
 show k + (1 : Int) + (1 : Int) + (1 : Int) + (1 : Int) + (M.count (Ty.sl TPart) (nth (t := TStep) a i).2.2.2.2.1 : Int) + (M.count (Ty.sl (Ty.int .i64)) (nth (t := TStep) a i).2.2.2.2.2.1 : Int) = _
 omega
theorem F.laws_heldIntS_eq (x : (List Int)) (k : Int) (h_x : Ln (Ty.sl (Ty.int .i64)) x) (p0 : 0 ≤ k) (p1 : k + (M.count (Ty.sl (Ty.int .i64)) x : Int) ≤ M.big) (p2 : M.mark (Ty.sl (Ty.int .i64)) x k = x) : F.laws_heldIntS x k = some (k + (M.count (Ty.sl (Ty.int .i64)) x : Int)) := by
 unfold F.laws_heldIntS
 refine M.held_eq (e := (Ty.int .i64)) p0 p1 p2 (fun z k k0 kb hm => ?_)
 have hc : M.count (Ty.int .i64) z = 1 := rfl
 rw [hc] at kb
 unfold M.big at kb
 have w0 : wrap64 (k + (1 : Int)) = k + (1 : Int) := wrap64_id' (by omega) (by omega)
 have f0 : z = k := hm.symm
 simp only [F.laws_heldIntS_l0, letD_eq, w0]
 rw [decide_eq_true f0, Bool.not_true, cond_false]
 rw [hc]
 refine congrArg (fun q => some (Sum.inl q)) ?_
 omega
theorem F.laws_heldPartS_eq (x : LPt) (k : Int) (h_x : Ln (Ty.sl TPart) x) (p0 : 0 ≤ k) (p1 : k + (M.count (Ty.sl TPart) x : Int) ≤ M.big) (p2 : M.mark (Ty.sl TPart) x k = x) : F.laws_heldPartS x k = some (k + (M.count (Ty.sl TPart) x : Int)) := by
 unfold F.laws_heldPartS
 refine M.held_eq (e := TPart) p0 p1 p2 (fun z k k0 kb hm => ?_)
 have hc : M.count TPart z = (1 + (1 + ((1 + (1 + (1 + 0))) + 0))) := rfl
 rw [hc] at kb
 unfold M.big at kb
 have w0 : wrap64 (k + (1 : Int)) = k + (1 : Int) := wrap64_id' (by omega) (by omega)
 have f0 : z.1 = k := (congrArg (fun q : Ty.D TPart => q.1) hm).symm
 have w1 : wrap64 (k + (1 : Int) + (1 : Int)) = k + (1 : Int) + (1 : Int) := wrap64_id' (by omega) (by omega)
 have f1 : z.2.1 = k + (1 : Int) := (congrArg (fun q : Ty.D TPart => q.2.1) hm).symm
 have w2 : wrap64 (k + (1 : Int) + (1 : Int) + (1 : Int)) = k + (1 : Int) + (1 : Int) + (1 : Int) := wrap64_id' (by omega) (by omega)
 have f2 : z.2.2.1.1 = k + (1 : Int) + (1 : Int) := (congrArg (fun q : Ty.D TPart => q.2.2.1.1) hm).symm
 have w3 : wrap64 (k + (1 : Int) + (1 : Int) + (1 : Int) + (1 : Int)) = k + (1 : Int) + (1 : Int) + (1 : Int) + (1 : Int) := wrap64_id' (by omega) (by omega)
 have f3 : z.2.2.1.2.1 = k + (1 : Int) + (1 : Int) + (1 : Int) := (congrArg (fun q : Ty.D TPart => q.2.2.1.2.1) hm).symm
 have w4 : wrap64 (k + (1 : Int) + (1 : Int) + (1 : Int) + (1 : Int) + (1 : Int)) = k + (1 : Int) + (1 : Int) + (1 : Int) + (1 : Int) + (1 : Int) := wrap64_id' (by omega) (by omega)
 have f4 : z.2.2.1.2.2.1 = M.markText (k + (1 : Int) + (1 : Int) + (1 : Int) + (1 : Int)) := (congrArg (fun q : Ty.D TPart => q.2.2.1.2.2.1) hm).symm
 simp only [F.laws_heldPartS_l0, letD_eq, w0, w1, w2, w3, w4]
 rw [decide_eq_true f0, Bool.not_true, cond_false]
 rw [decide_eq_true f1, Bool.not_true, cond_false]
 rw [decide_eq_true f2, Bool.not_true, cond_false]
 rw [decide_eq_true f3, Bool.not_true, cond_false]
 rw [guardD_pos (show k + (1 : Int) + (1 : Int) + (1 : Int) + (1 : Int) ≤ M.big by unfold M.big; omega), decide_eq_true f4, Bool.not_true, cond_false]
 rw [hc]
 refine congrArg (fun q => some (Sum.inl q)) ?_
 omega
theorem F.laws_heldStepS_eq (x : LS) (k : Int) (h_x : Ln (Ty.sl TStep) x) (p0 : 0 ≤ k) (p1 : k + (M.count (Ty.sl TStep) x : Int) ≤ M.big) (p2 : M.mark (Ty.sl TStep) x k = x) : F.laws_heldStepS x k = some (k + (M.count (Ty.sl TStep) x : Int)) := by
 unfold F.laws_heldStepS
 refine M.held_eq (e := TStep) p0 p1 p2 (fun z k k0 kb hm => ?_)
 have hc : M.count TStep z = (1 + (1 + (1 + (1 + (M.count (Ty.sl TPart) z.2.2.2.2.1 + (M.count (Ty.sl (Ty.int .i64)) z.2.2.2.2.2.1 + 0)))))) := rfl
 rw [hc] at kb
 unfold M.big at kb
 have w0 : wrap64 (k + (1 : Int)) = k + (1 : Int) := wrap64_id' (by omega) (by omega)
 have f0 : z.1 = k := (congrArg (fun q : Ty.D TStep => q.1) hm).symm
 have w1 : wrap64 (k + (1 : Int) + (1 : Int)) = k + (1 : Int) + (1 : Int) := wrap64_id' (by omega) (by omega)
 have f1 : z.2.1 = k + (1 : Int) := (congrArg (fun q : Ty.D TStep => q.2.1) hm).symm
 have w2 : wrap64 (k + (1 : Int) + (1 : Int) + (1 : Int)) = k + (1 : Int) + (1 : Int) + (1 : Int) := wrap64_id' (by omega) (by omega)
 have f2 : z.2.2.1 = k + (1 : Int) + (1 : Int) := (congrArg (fun q : Ty.D TStep => q.2.2.1) hm).symm
 have w3 : wrap64 (k + (1 : Int) + (1 : Int) + (1 : Int) + (1 : Int)) = k + (1 : Int) + (1 : Int) + (1 : Int) + (1 : Int) := wrap64_id' (by omega) (by omega)
 have f3 : z.2.2.2.1 = k + (1 : Int) + (1 : Int) + (1 : Int) := (congrArg (fun q : Ty.D TStep => q.2.2.2.1) hm).symm
 have f4 : M.mark (Ty.sl TPart) z.2.2.2.2.1 (k + (1 : Int) + (1 : Int) + (1 : Int) + (1 : Int)) = z.2.2.2.2.1 := (congrArg (fun q : Ty.D TStep => q.2.2.2.2.1) hm)
 have f5 : M.mark (Ty.sl (Ty.int .i64)) z.2.2.2.2.2.1 (k + (1 : Int) + (1 : Int) + (1 : Int) + (1 : Int) + (M.count (Ty.sl TPart) z.2.2.2.2.1 : Int)) = z.2.2.2.2.2.1 := (congrArg (fun q : Ty.D TStep => q.2.2.2.2.2.1) hm)
 simp only [F.laws_heldStepS_l0, letD_eq, w0, w1, w2, w3]
 rw [decide_eq_true f0, Bool.not_true, cond_false]
 rw [decide_eq_true f1, Bool.not_true, cond_false]
 rw [decide_eq_true f2, Bool.not_true, cond_false]
 rw [decide_eq_true f3, Bool.not_true, cond_false]
 rw [guardD_pos (by omega), guardD_pos (by unfold M.big; omega), guardD_pos f4, decide_eq_false (by omega), cond_false]
 rw [guardD_pos (by omega), guardD_pos (by unfold M.big; omega), guardD_pos f5, decide_eq_false (by omega), cond_false]
 rw [hc]
 refine congrArg (fun q => some (Sum.inl q)) ?_
 omega
theorem F.spec_l1In_eq (n : Int) (low : Int) (high : Int)  : F.spec_l1In n low high = some (M.inR n low high) := by
 unfold F.spec_l1In M.inR
 cases decide (low ≤ n) <;> rfl
theorem F.spec_l6Fields_eq (s : TStep.D) (h_s : Sm TStep s) : F.spec_l6Fields s = some (M.fieldsOk s) := by
 unfold F.spec_l6Fields M.fieldsOk M.two
 generalize decide (s.2.1 = (0 : Int)) = a0
 generalize decide (s.2.2.1 = (0 : Int)) = b0
 generalize decide (s.2.2.2.1 = (0 : Int)) = n0
 generalize decide ((s.2.2.2.2.1.length : Int) = (0 : Int)) = e0
 generalize decide ((s.2.2.2.2.2.1.length : Int) = (0 : Int)) = l0
 by_cases h1 : s.1 = (1 : Int)
 ·simp only [h1, Int.reduceEq, decide_true, decide_false]
  cases a0 <;> cases b0 <;> cases n0 <;> cases e0 <;> cases l0 <;> rfl
 by_cases h2 : s.1 = (2 : Int)
 ·simp only [h2, Int.reduceEq, decide_true, decide_false]
  cases a0 <;> cases b0 <;> cases n0 <;> cases e0 <;> cases l0 <;> rfl
 by_cases h3 : s.1 = (3 : Int)
 ·simp only [h3, Int.reduceEq, decide_true, decide_false]
  cases a0 <;> cases b0 <;> cases n0 <;> cases e0 <;> cases l0 <;> rfl
 by_cases h4 : s.1 = (4 : Int)
 ·simp only [h4, Int.reduceEq, decide_true, decide_false]
  cases a0 <;> cases b0 <;> cases n0 <;> cases e0 <;> cases l0 <;> rfl
 by_cases h5 : s.1 = (5 : Int)
 ·simp only [h5, Int.reduceEq, decide_true, decide_false]
  cases a0 <;> cases b0 <;> cases n0 <;> cases e0 <;> cases l0 <;> rfl
 simp only [h1, h2, h3, h4, h5, decide_false]
 cases a0 <;> cases b0 <;> cases n0 <;> cases e0 <;> cases l0 <;> rfl
theorem F.spec_ColumnsOk_eq (columns : LC) (h_columns : Sm (Ty.sl TColumn) columns) : F.spec_ColumnsOk columns = some (M.columnsOk columns) := by
 unfold F.spec_ColumnsOk M.columnsOk
 rw [then_all M.columnOk () (fun x _ => by simp only [F.spec_ColumnsOk_l0, cond_notb, cond_some] <;> rfl), show decide ((columns.length : Int) ≤ 4) = decide (columns.length ≤ 4) from decide_eq_decide.2 (by omega)]
 cases columns.all M.columnOk <;> simp
theorem F.spec_l1Text_eq (s : ByteArray) (h_s : Sm Ty.str s) : F.spec_l1Text s = some (M.text s) := by
 unfold F.spec_l1Text M.text M.lower
 have key : ∀ c : Int, (cond ((decide (c < 97)) == false) (cond (decide (122 < c)) (some (Sum.inr ())) (some (Sum.inl ()))) (some (Sum.inr ())) : Option (Sum Unit Unit)) = some (cond (M.inR c 97 122) (.inl ()) (.inr ())) := by
  intro c
  unfold M.inR
  by_cases h2 : c < 97
  ·simp [h2, show ¬ 97 ≤ c by omega]
  ·by_cases h3 : 122 < c
   ·simp [h2, h3, show 97 ≤ c by omega, show ¬ c ≤ 122 by omega]
   ·simp [h2, h3, show 97 ≤ c by omega, show c ≤ 122 by omega]
 rw [then_all (fun i => M.inR (nth (t := .int .u8) (byteInts s) i) 97 122) () (fun i hi => by
  obtain ⟨h0, h1⟩ := mem_rangeI.1 hi
  simp only [F.spec_l1Text_l0, get_byteInts h0 h1]
  exact key _)]
 rw [← byteInts_length, all_range (t := .int .u8) (byteInts s) (fun n => M.inR n 97 122), show decide (((byteInts s).length : Int) ≤ 6) = decide ((byteInts s).length ≤ 6) from decide_eq_decide.2 (by omega)]
 cases (byteInts s).all fun n => M.inR n 97 122 <;> simp
theorem F.spec_ValueOk_eq (v : TValue.D) (h_v : Sm TValue v) : F.spec_ValueOk v = some (M.valueOk v) := by
 unfold F.spec_ValueOk M.valueOk
 simp only [cond_andb]
 simp only [cond_some]
theorem F.spec_l4Step_eq (columns : LC) (kinds : (List Int)) (p : TPart.D) (h_columns : Sm (Ty.sl TColumn) columns) (h_kinds : Sm (Ty.sl (Ty.int .i64)) kinds) (h_p : Sm TPart p) (p0 : kinds.length ≤ 1000) : F.spec_l4Step columns kinds p = some (M.l4Step columns kinds p) := by
 obtain ⟨o, s, e, _⟩ := spec_step_is (columns := columns) p p0 h_columns.1
 unfold M.l4Step
 rw [e]
 rfl
theorem F.spec_ExprKind_eq (columns : LC) (e : LPt) (h_columns : Sm (Ty.sl TColumn) columns) (h_e : Sm (Ty.sl TPart) e) : F.spec_ExprKind columns e = some (M.exprKind columns e) := by
 unfold F.spec_ExprKind M.exprKind
 cases M.columnsOk columns
 ·rfl
 by_cases hl : e.length ≤ 12
 ·rw [decide_eq_false (show ¬ (12 : Int) < (e.length : Int) by omega), decide_eq_true hl]
  obtain ⟨o, s, h1, h2⟩ := spec_kind_run (columns := columns) (E := e) (by omega) h_columns.1 e.length 0 [] (by omega) (by omega) (by simp; omega)
  rw [show (0 : Int) = ((0 : Nat) : Int) from rfl, h1]
  rw [List.drop_zero] at h2
  unfold StepIs at h2
  cases hk : M.kindRun columns e [] with
  | none =>
   rw [hk] at h2
   simp only at h2
   subst h2
   rfl
  | some s' =>
   rw [hk] at h2
   obtain ⟨rfl, rfl⟩ := h2
   match s with
   | [] => rfl
   | [a] => exact guardD_pos (by simp)
   | a :: b :: l =>
    have : ¬ ((a :: b :: l).length : Int) = 1 := by simp; omega
    simp only [Option.bind_some, this, decide_false]
    rfl
 ·rw [decide_eq_true (show (12 : Int) < (e.length : Int) by omega), decide_eq_false hl]
  rfl
theorem F.spec_l6Columns_eq (tables : LTb) (ahead : LLC) (s : TStep.D) (h_tables : Sm (Ty.sl TTable) tables) (h_ahead : Sm (Ty.sl (Ty.sl TColumn)) ahead) (h_s : Sm TStep s) : F.spec_l6Columns tables ahead s = some (M.l6Columns tables ahead s) := by
 obtain ⟨r, h1, _⟩ := spec_l6_is h_tables h_ahead h_s
 unfold M.l6Columns
 rw [h1]
 rfl
theorem F.spec_l6Made_eq (ahead : (List Int)) (s : TStep.D) (h_ahead : Sm (Ty.sl (Ty.int .i64)) ahead) (h_s : Sm TStep s) (p0 : M.stepIn (ahead.length : Int) s) : F.spec_l6Made ahead s = some (M.stepMost ahead s) := by
 unfold F.spec_l6Made M.stepMost
 by_cases h1 : s.1 = (1 : Int)
 ·simp only [h1, decide_true, cond_true]
 obtain ⟨⟨a0, a1⟩, ⟨b0, b1⟩⟩ := p0 h1
 rw [decide_eq_false h1]
 repeat rw [guardD_pos a0]
 repeat rw [guardD_pos a1]
 repeat rw [guardD_pos b0]
 repeat rw [guardD_pos b1]
 cases decide (s.1 = (4 : Int)) <;> cases decide (s.1 = (5 : Int)) <;> rfl
theorem F.spec_l6All_eq (tables : LTb) (plan : LS) (h_tables : Sm (Ty.sl TTable) tables) (h_plan : Sm (Ty.sl TStep) plan) : F.spec_l6All tables plan = some (M.planAll tables plan) := by
 unfold F.spec_l6All M.planAll M.planRun
 obtain ⟨o, h1, h2⟩ := M.range_rel (f := F.spec_l6All_l0 tables plan) (M.planStep tables) (fun t => t) (fun n (st : PlanSt) => st.1.length = n ∧ st.2.length = n ∧ ∀ x ∈ st.1, x.length ≤ 1048576) plan plan [] ([], []) rfl ⟨rfl, rfl, fun x h => by cases h⟩ (fun m st hm hI => by
  obtain ⟨l1, l2, hx⟩ := hI
  have hp := h_plan.1
  have hc : Sm (.sl (.sl TColumn)) st.1 := ⟨by omega, fun x h => M.col_sm (hx x h)⟩
  have hstep := sm_nth h_plan (m : Int)
  have hl6 := l6_is h_tables hc hstep
  unfold F.spec_l6All_l0 M.planStep
  rw [guardD_pos hc, letD_eq, ← hl6]
  cases hb : (M.l6Columns tables st.1 (nth (t := TStep) plan (m : Int))).2 with
  | false => exact ⟨.inr (), rfl, rfl⟩
  | true =>
   rw [hb, cond_true] at hl6
   have hin := M.stepCols_in hl6.symm
   have hsm := M.stepCols_sm h_tables hx hl6.symm
   have e12 : (st.1.length : Int) = (st.2.length : Int) := by omega
   rw [e12] at hin
   simp only [Bool.not_true, cond_false, cond_true]
   rw [guardD_pos (by unfold lim; simp; omega), guardD_pos (show Sm (.sl (.int .i64)) st.2 from ⟨by omega, fun x _ => trivial⟩), guardD_pos hin, guardD_pos (by unfold lim; simp; omega), guardD_pos (by simp; omega)]
   have hn : nth (t := .int .i64) (st.2 ++ [M.stepMost st.2 (nth (t := TStep) plan (m : Int))]) (m : Int) = M.stepMost st.2 (nth (t := TStep) plan (m : Int)) := by
    unfold nth
    rw [List.getD_eq_getElem?_getD]
    simp [← l2]
   rw [hn]
   cases hd : decide ((300 : Int) < M.stepMost st.2 (nth (t := TStep) plan (m : Int))) with
   | true => exact ⟨.inr (), rfl, rfl⟩
   | false =>
    refine ⟨_, rfl, rfl, by simp [l1], by simp [l2], fun x h => ?_⟩
    rcases List.mem_append.1 h with h | h
    ·exact hx x h
    ·cases List.mem_singleton.1 h
     exact hsm)
 rw [show (rangeI (0 : Int) (plan.length : Int)) = rangeI ((([] : List TStep.D).length : Nat) : Int) (plan.length : Int) from rfl, h1]
 match o with
 | .inl st =>
  simp only at h2
  rw [h2.1]
  rfl
 | .inr _ =>
  simp only at h2
  rw [h2]
  rfl
theorem F.spec_RowOk_eq (row : LV) (h_row : Sm (Ty.sl TValue) row) : F.spec_RowOk row = some (M.rowOk row) := by
 unfold F.spec_RowOk M.rowOk
 rw [then_all M.valueOk () (fun x _ => by simp only [F.spec_RowOk_l0, cond_notb, cond_some] <;> rfl), show decide ((row.length : Int) ≤ 4) = decide (row.length ≤ 4) from decide_eq_decide.2 (by omega)]
 cases row.all M.valueOk <;> simp
theorem F.spec_RowFits_eq (columns : LC) (row : LV) (h_columns : Sm (Ty.sl TColumn) columns) (h_row : Sm (Ty.sl TValue) row) : F.spec_RowFits columns row = some (M.rowFits columns row) := by
 unfold F.spec_RowFits M.rowFits
 cases M.columnsOk columns
 ·rfl
 cases M.rowOk row
 ·rfl
 by_cases hl : row.length = columns.length
 ·rw [then_all (M.fitsAt columns row) () (fun i hi => by
   obtain ⟨h0, h1⟩ := mem_rangeI.1 hi
   have h2 : i < (columns.length : Int) := by omega
   simp only [F.spec_RowFits_l0, guardD_pos h2]
   unfold M.fitsAt
   cases decide ((nth (t := TValue) row i).1 = (nth (t := TColumn) columns i).1) <;> cases decide ((nth (t := TValue) row i).1 = (0 : Int)) <;> cases (nth (t := TColumn) columns i).2.1 <;> rfl)]
  simp only [hl, Bool.not_true, decide_true, Bool.true_and, cond_true, cond_false]
  cases (rangeI 0 (columns.length : Int)).all (M.fitsAt columns row) <;> rfl
 ·have h3 : ¬ (row.length : Int) = (columns.length : Int) := by omega
  simp [hl, h3]
theorem F.spec_RowsOk_eq (columns : LC) (rows : LLV) (h_columns : Sm (Ty.sl TColumn) columns) (h_rows : Sm (Ty.sl (Ty.sl TValue)) rows) : F.spec_RowsOk columns rows = some (M.rowsOk columns rows) := by
 unfold F.spec_RowsOk M.rowsOk
 rw [then_all (M.rowFits columns) () (fun x _ => by simp only [F.spec_RowsOk_l0, cond_notb, cond_some])]
 cases rows.all (M.rowFits columns) <;> simp
theorem F.spec_TablesOk_eq (tables : LTb) (h_tables : Sm (Ty.sl TTable) tables) : F.spec_TablesOk tables = some (M.tablesOk tables) := by
 unfold F.spec_TablesOk M.tablesOk
 rw [then_all M.tableOk () (fun x _ => by
  simp only [F.spec_TablesOk_l0]
  unfold M.tableOk
  by_cases h : x.2.1.length ≤ 6
  ·have h2 : ¬ (6 : Int) < (x.2.1.length : Int) := by omega
   simp only [h2, h, decide_true, decide_false, Bool.true_and]
   cases M.rowsOk x.1 x.2.1 <;> rfl
  ·have h2 : (6 : Int) < (x.2.1.length : Int) := by omega
   simp [h2, h]), show decide ((tables.length : Int) ≤ 3) = decide (tables.length ≤ 3) from decide_eq_decide.2 (by omega)]
 cases tables.all M.tableOk <;> simp
theorem F.spec_PlanOk_eq (tables : LTb) (plan : LS) (h_tables : Sm (Ty.sl TTable) tables) (h_plan : Sm (Ty.sl TStep) plan) : F.spec_PlanOk tables plan = some (M.planOk tables plan) := by
 unfold F.spec_PlanOk M.planOk
 rw [letD_eq]
 cases (M.planAll tables plan).2 <;> cases M.tablesOk tables <;> rfl
theorem F.spec_l7Both_eq (a : LPt) (b : LPt) (h_a : Sm (Ty.sl TPart) a) (h_b : Sm (Ty.sl TPart) b) : F.spec_l7Both a b = some (M.bothE a b) := by
 unfold F.spec_l7Both
 have ha := h_a.1
 have hb := h_b.1
 rw [guardD_pos (by unfold lim; simp; omega), guardD_pos (by unfold lim; simp; omega)]
 rfl
theorem F.spec_ExprMoved_eq (columns : LC) (e : LPt) (to : (List Int)) (h_columns : Sm (Ty.sl TColumn) columns) (h_e : Sm (Ty.sl TPart) e) (h_to : Sm (Ty.sl (Ty.int .i64)) to) : F.spec_ExprMoved columns e to = some (M.exprMoved columns e to) := by
 unfold F.spec_ExprMoved M.exprMoved
 by_cases hk : M.exprKind columns e < 0
 ·rw [decide_eq_true hk]
  rfl
 rw [decide_eq_false hk]
 simp only [show ((false : Bool) == false) = true from rfl, cond_true, cond_false]
 have hc := M.kind_cols (Int.not_lt.1 hk)
 have hl := h_e.1
 cases hd : decide ((to.length : Int) = (columns.length : Int)) with
 | false => rfl
 | true =>
  have hd' := of_decide_eq_true hd
  simp only [Bool.not_true, cond_false]
  rw [then_any (fun z => !(M.inR z 0 3)) () (fun x _ => by unfold F.spec_ExprMoved_l0; rw [cond_some]), each_tailL (M.movedP to) e [] (fun z hz v hv => by
   simp only [List.length_nil, Nat.zero_add] at hv
   unfold F.spec_ExprMoved_l2 M.movedP
   by_cases h2 : z.1 = (2 : Int)
   ·obtain ⟨c0, c1⟩ := hc z hz h2
    rw [decide_eq_true h2]
    simp only [cond_true]
    rw [guardD_pos c0, guardD_pos (by rw [hd']; exact c1), guardD_pos (by unfold lim; simp; omega)]
   ·rw [decide_eq_false h2]
    simp only [cond_false]
    rw [guardD_pos (by unfold lim; simp; omega)]), thenD_inl, cond_some]
  rfl
theorem F.spec_l7New_eq (columns : LLC) (plan : LS) (at_ : Int) (rule : Int) (h_columns : Sm (Ty.sl (Ty.sl TColumn)) columns) (h_plan : Sm (Ty.sl TStep) plan) (p0 : M.turnSafe plan at_) (p1 : M.turnCols columns plan at_) : F.spec_l7New columns plan at_ rule = some (M.newSteps plan at_ rule) := by
 unfold F.spec_l7New M.newSteps
 obtain ⟨⟨a0, a1⟩, hsafe⟩ := p0
 rw [guardD_pos a0, guardD_pos a1]
 have sS := sm_nth h_plan at_
 obtain ⟨_, _, _, _, _, ⟨sl, _⟩, _⟩ := sS
 unfold M.turnCols M.colsOf at p1
 generalize hs : nth (t := TStep) plan at_ = s at *
 generalize hj : nth (t := TStep) plan s.2.1 = j at *
 obtain ⟨q1, q2, q3⟩ := hsafe
 by_cases h1 : s.1 = (1 : Int)
 ·have h2 : ¬ s.1 = (2 : Int) := by rw [h1]; decide
  have h3 : ¬ s.1 = (3 : Int) := by rw [h1]; decide
  have h6 : ¬ s.1 = (6 : Int) := by rw [h1]; decide
  unfold M.newOf
  rw [decide_eq_true h1, decide_eq_false h2, decide_eq_false h3, decide_eq_false h6]
  cases decide (rule = (1 : Int)) <;> cases decide (rule = (2 : Int)) <;> cases decide (rule = (3 : Int)) <;> cases decide (rule = (4 : Int)) <;> cases decide (rule = (5 : Int)) <;> cases decide (rule = (6 : Int)) <;> cases decide (rule = (7 : Int)) <;> rfl
 rw [decide_eq_false h1, cond_false, guardD_pos (q1 h1).1, guardD_pos (q1 h1).2]
 unfold M.newOf
 by_cases r1 : rule = (1 : Int)
 ·rw [decide_eq_true r1]
  cases decide (s.1 = (2 : Int)) <;> cases decide (j.1 = (2 : Int)) <;> rfl
 rw [decide_eq_false r1]
 simp only [cond_false, show ((false : Bool) == true) = false from rfl]
 by_cases r2 : rule = (2 : Int)
 ·rw [decide_eq_true r2]
  cases decide (s.1 = (2 : Int)) <;> cases decide (j.1 = (4 : Int)) <;> rfl
 rw [decide_eq_false r2]
 simp only [cond_false, show ((false : Bool) == true) = false from rfl]
 by_cases r3 : rule = (3 : Int)
 ·rw [decide_eq_true r3]
  by_cases s2 : s.1 = (2 : Int)
  ·by_cases j2 : j.1 = (3 : Int)
   ·rw [decide_eq_true s2, decide_eq_true j2]
    simp only [cond_true, Bool.and_self, show ((true : Bool) == true) = true from rfl]
    rw [guardD_pos (p1 s2 j2).1, letD_eq, (p1 s2 j2).2]
    rfl
   ·rw [decide_eq_true s2, decide_eq_false j2]
    rfl
  ·rw [decide_eq_false s2]
   rfl
 rw [decide_eq_false r3]
 simp only [cond_false, show ((false : Bool) == true) = false from rfl]
 by_cases r4 : rule = (4 : Int)
 ·rw [decide_eq_true r4]
  cases decide (s.1 = (2 : Int)) <;> cases decide (j.1 = (6 : Int)) <;> rfl
 rw [decide_eq_false r4]
 simp only [cond_false, show ((false : Bool) == true) = false from rfl]
 by_cases r5 : rule = (5 : Int)
 ·rw [decide_eq_true r5]
  cases decide (s.1 = (2 : Int)) <;> cases decide (j.1 = (5 : Int)) <;> rfl
 rw [decide_eq_false r5]
 simp only [cond_false, show ((false : Bool) == true) = false from rfl]
 by_cases r6 : rule = (6 : Int)
 ·rw [decide_eq_true r6]
  by_cases s2 : s.1 = (3 : Int)
  ·by_cases j2 : j.1 = (3 : Int)
   ·rw [decide_eq_true s2, decide_eq_true j2]
    simp only [cond_true, Bool.and_self, show ((true : Bool) == true) = true from rfl]
    rw [each_tailL (fun z => nth (t := .int .i64) j.2.2.2.2.2.1 z) s.2.2.2.2.2.1 [] (fun z hz v hv => by
     simp only [List.length_nil, Nat.zero_add] at hv
     have hz2 := q3 s2 j2 z hz
     unfold F.spec_l7New_l1
     rw [hs, hj, guardD_pos hz2.1, guardD_pos hz2.2, guardD_pos (by unfold lim; simp; omega)]), thenD_inl]
    rfl
   ·rw [decide_eq_true s2, decide_eq_false j2]
    rfl
  ·rw [decide_eq_false s2]
   rfl
 rw [decide_eq_false r6]
 simp only [cond_false, show ((false : Bool) == true) = false from rfl]
 by_cases r7 : rule = (7 : Int)
 ·rw [decide_eq_true r7]
  cases decide (s.1 = (6 : Int)) <;> cases decide (j.1 = (6 : Int)) <;> rfl
 rw [decide_eq_false r7]
 rfl
theorem F.spec_l7Own_eq (plan : LS) (h_plan : Sm (Ty.sl TStep) plan) : F.spec_l7Own plan = some plan := by
 unfold F.spec_l7Own
 rw [each_map (fun r => r) (fun x hx s hs => by
  have hl := h_plan.1
  simp only [F.spec_l7Own_l0, List.nil_append]
  rw [guardD_pos (by unfold lim; simp; omega)]), M.map_self]
 rfl
theorem F.spec_l7Put_eq (plan : LS) (at_ : Int) (steps : LS) (h_plan : Sm (Ty.sl TStep) plan) (h_steps : Sm (Ty.sl TStep) steps) (p0 : 0 ≤ at_) (p1 : at_ < (plan.length : Int)) : F.spec_l7Put plan at_ steps = some (M.putSteps plan at_ steps) := by
 unfold F.spec_l7Put M.putSteps
 have hl := h_plan.1
 have hn := h_steps.1
 rw [letD_eq, guardD_pos p0, guardD_pos (Int.le_of_lt p1)]
 simp only [cut_head]
 have ht : (plan.take at_.toNat).length ≤ 1048576 := Nat.le_trans (List.length_take_le' _ _) hl
 rw [guardD_pos (by unfold lim; simp; omega), guardD_pos (by unfold lim; simp; omega), guardD_pos (by unfold top63; omega), wrap64_id' (n := at_ + (1 : Int)) (by omega) (by omega), guardD_pos (by omega)]
 have := each_tailR (t := TStep) (β := TStep.D) (ρ := Unit) (M.shift at_ (wrap64 ((steps.length : Int) - 1))) plan 4000000 (plan.drop (at_.toNat + 1)) (plan.take (at_.toNat + 1)) (f := F.spec_l7Put_l0 plan at_ steps plan) (plan.take at_.toNat ++ steps) (List.take_append_drop _ _).symm (by simp; omega) (fun i v i0 i1 hv => by
  have hlim : ∀ s : TStep.D, (v.length + [s].length) * 80 ≤ lim := fun s => by unfold lim; simp; omega
  unfold F.spec_l7Put_l0 M.shift M.two
  generalize nth (t := TStep) plan i = s
  by_cases h1 : s.1 = (1 : Int)
  ·rw [decide_eq_true h1, decide_eq_false (show ¬ s.1 = (4 : Int) by rw [h1]; decide), decide_eq_false (show ¬ s.1 = (5 : Int) by rw [h1]; decide)]
   cases decide (at_ ≤ s.2.1) <;> cases decide (at_ ≤ s.2.2.1) <;> simp only [cond_true, cond_false, Bool.and_self, Bool.and_true, Bool.true_and, Bool.and_false, Bool.false_and, Bool.or_self, Bool.or_true, Bool.true_or, Bool.or_false, Bool.false_or, Bool.not_true, Bool.not_false, show ((true : Bool) == true) = true from rfl, show ((false : Bool) == true) = false from rfl, show ((false : Bool) == false) = true from rfl, show ((true : Bool) == false) = false from rfl] <;> rw [guardD_pos (hlim _)]
  ·rw [decide_eq_false h1]
   cases decide (s.1 = (4 : Int)) <;> cases decide (s.1 = (5 : Int)) <;> cases decide (at_ ≤ s.2.1) <;> cases decide (at_ ≤ s.2.2.1) <;> simp only [cond_true, cond_false, Bool.and_self, Bool.and_true, Bool.true_and, Bool.and_false, Bool.false_and, Bool.or_self, Bool.or_true, Bool.true_or, Bool.or_false, Bool.false_or, Bool.not_true, Bool.not_false, show ((true : Bool) == true) = true from rfl, show ((false : Bool) == true) = false from rfl, show ((false : Bool) == false) = true from rfl, show ((true : Bool) == false) = false from rfl] <;> rw [guardD_pos (hlim _)])
 rw [show (((plan.take (at_.toNat + 1)).length : Nat) : Int) = at_ + 1 by rw [List.length_take]; omega] at this
 rw [List.nil_append, this]
 rfl
theorem F.spec_PlanTurned_eq (tables : LTb) (plan : LS) (at_ : Int) (rule : Int) (h_tables : Sm (Ty.sl TTable) tables) (h_plan : Sm (Ty.sl TStep) plan) : F.spec_PlanTurned tables plan at_ rule = some (M.planTurned tables plan at_ rule) := by
 unfold F.spec_PlanTurned M.planTurned
 cases hp : M.planOk tables plan
 ·rfl
 cases ha : M.inR at_ 0 (wrap64 ((plan.length : Int) - (1 : Int)))
 ·rfl
 cases hr : M.inR rule 1 7
 ·rfl
 have a0 := inR_lo ha
 have a1 := inR_hi ha
 simp only [Bool.not_true, cond_true, cond_false, Bool.and_self, show ((false : Bool) == false) = true from rfl]
 have facts := M.turn_facts hp h_plan a0 a1
 have h6 := M.plan_six hp
 obtain ⟨f1, f2, f3, f4, f5⟩ := facts
 have hn := f5 rule
 have h3 : (M.newSteps plan at_ rule).length ≤ 3 := M.new_len _ _ _ _
 unfold M.turned
 have hcs : Sm (.sl (.sl TColumn)) (M.planAll tables plan).1 := ⟨show (M.planAll tables plan).1.length ≤ 1048576 by omega, fun x hx => M.col_sm (Nat.le_trans (f3 x hx) (by decide))⟩
 rw [letD_eq, guardD_pos hcs, guardD_pos f1, guardD_pos f2, letD_eq]
 generalize M.newSteps plan at_ rule = N at *
 cases decide ((N.length : Int) = (0 : Int)) with
 | true => rfl
 | false =>
  simp only [cond_false, letD_eq]
  rw [guardD_pos hn, guardD_pos (M.put_sm h_plan h6 hn h3), cond_some, cond_notb]
theorem F.spec_PlanTidy_eq (tables : LTb) (plan : LS) (h_tables : Sm (Ty.sl TTable) tables) (h_plan : Sm (Ty.sl TStep) plan) : F.spec_PlanTidy tables plan = some (M.planTidy tables plan) := by
 unfold F.spec_PlanTidy M.planTidy
 cases hp : M.planOk tables plan
 ·rfl
 have p0 := M.planOk_refs hp
 have hl := h_plan.1
 have hw : wrap64 ((plan.length : Int) - (1 : Int)) = (plan.length : Int) - 1 := wrap_pred _ hl
 have h0 := p0.1
 simp only [Bool.not_true, cond_true, cond_false, letD_eq]
 rw [hw, guardD_pos (by omega), guardD_pos (by simp; omega)]
 have e1 : (plan.length : Int).toNat = plan.length := by simp
 have e2 : ((plan.length : Int) - 1).toNat = plan.length - 1 := by omega
 rw [e1, e2, (M.while_down (M.needStep plan) (fun u : List Bool => u.length = plan.length) plan.length (fun k u k0 k1 hI => by
   refine ⟨?_, by rw [M.needStep_len]; exact hI⟩
   unfold F.spec_PlanTidy_l0 M.needStep
   have hin := p0.2 k k0 k1
   have hu : k < (u.length : Int) := by rw [hI]; exact k1
   simp only
   rw [decide_eq_true k0, cond_true, guardD_pos k0, guardD_pos k1, guardD_pos hu, wrap64_id' (n := k - 1) (by omega) (by omega)]
   cases nth (t := .bool) u k
   ·rfl
   by_cases h1 : (nth (t := TStep) plan k).1 = (1 : Int)
   ·rw [decide_eq_true h1]
    rfl
   obtain ⟨⟨a0, a1⟩, ⟨b0, b1⟩⟩ := hin h1
   have a2 : (nth (t := TStep) plan k).2.1 < (u.length : Int) := by rw [hI]; exact Int.lt_trans a1 k1
   have b2 : (nth (t := TStep) plan k).2.2.1 < ((u.set (nth (t := TStep) plan k).2.1.toNat true).length : Int) := by rw [List.length_set, hI]; exact Int.lt_trans b1 k1
   rw [decide_eq_false h1]
   simp only [Bool.not_false, Bool.and_true, cond_true, letD_eq, show ((true : Bool) == true) = true from rfl]
   rw [guardD_pos a0, guardD_pos a2]
   rw [guardD_pos b0, guardD_pos b2]
   have hsame := M.set_same (t := .bool) (u := u.set (nth (t := TStep) plan k).2.1.toNat true) b0 b2
   unfold M.two
   cases hb : nth (t := .bool) (u.set (nth (t := TStep) plan k).2.1.toNat true) (nth (t := TStep) plan k).2.2.1 with
   | false =>
    rw [hb] at hsame
    cases decide ((nth (t := TStep) plan k).1 = (4 : Int)) <;> cases decide ((nth (t := TStep) plan k).1 = (5 : Int)) <;> simp [hsame]
   | true =>
    rw [hb] at hsame
    cases decide ((nth (t := TStep) plan k).1 = (4 : Int)) <;> cases decide ((nth (t := TStep) plan k).1 = (5 : Int)) <;> simp [hsame]) (fun u hI => rfl) plan.length _ (Nat.le_refl _) (by simp)).1]
 show thenD (eachD (F.spec_PlanTidy_l2 tables plan (M.needs plan) plan) _ _) _ _ = _
 have hfold := M.each_idx (f := F.spec_PlanTidy_l2 tables plan (M.needs plan) plan) (M.tidyStep plan (M.needs plan)) (fun k v => v.1.length = plan.length ∧ (v.2.length : Int) ≤ k ∧ ∀ s ∈ v.2, Sm TStep s) plan.length (s := (List.replicate plan.length (0 : Int), [])) ⟨by simp, by simp, fun s h => by cases h⟩ (fun k v k0 k1 hI => by
   have hnext := M.tidy_inv (need := M.needs plan) h_plan (st := v) k0 hI
   refine ⟨?_, hnext⟩
   clear hnext
   have hin := p0.2 k k0 k1
   obtain ⟨hI1, hI2, hI3⟩ := hI
   have hs1 : k < (v.1.length : Int) := by rw [hI1]; exact k1
   have hnd : k < ((M.needs plan).length : Int) := by rw [M.needs_len]; exact k1
   have hl := h_plan.1
   unfold F.spec_PlanTidy_l2 M.tidyStep M.ren
   rw [guardD_pos hnd]
   cases nth (t := .bool) (M.needs plan) k
   ·rfl
   simp only [cond_true]
   rw [guardD_pos k1]
   have hlim : ∀ s : TStep.D, (v.2.length + [s].length) * 80 ≤ lim := fun s => by unfold lim; simp; omega
   by_cases h1 : (nth (t := TStep) plan k).1 = (1 : Int)
   ·have ht : M.two (1 : Int) = false := rfl
    rw [decide_eq_true h1]
    simp only [Bool.not_true, cond_true, cond_false]
    rw [guardD_pos hs1, guardD_pos (hlim _)]
    have e : M.two (nth (t := TStep) plan k).1 = false := by rw [h1]; rfl
    rw [e]
    rfl
   obtain ⟨⟨a0, a1⟩, ⟨b0, b1⟩⟩ := hin h1
   have a2 : (nth (t := TStep) plan k).2.1 < (v.1.length : Int) := by rw [hI1]; exact Int.lt_trans a1 k1
   have b2 : (nth (t := TStep) plan k).2.2.1 < (v.1.length : Int) := by rw [hI1]; exact Int.lt_trans b1 k1
   rw [decide_eq_false h1]
   simp only [Bool.not_false, cond_true, cond_false]
   rw [guardD_pos a0, guardD_pos a2]
   unfold M.two
   cases decide ((nth (t := TStep) plan k).1 = (4 : Int)) <;> cases decide ((nth (t := TStep) plan k).1 = (5 : Int)) <;> simp only [cond_true, cond_false, Bool.or_self, Bool.or_true, Bool.or_false, Bool.false_or, Bool.true_or, show ((false : Bool) == false) = true from rfl, show ((true : Bool) == false) = false from rfl] <;> (repeat rw [guardD_pos b0]) <;> (repeat rw [guardD_pos b2]) <;> rw [guardD_pos hs1, guardD_pos (hlim _)] <;> rfl)
 rw [hfold.1]
 rfl
theorem F.spec_PlanBest_eq (tables : LTb) (plan : LS) (h_tables : Sm (Ty.sl TTable) tables) (h_plan : Sm (Ty.sl TStep) plan) : F.spec_PlanBest tables plan = some (M.planBest tables plan) := by
 unfold F.spec_PlanBest M.planBest M.planTidy
 cases hp : M.planOk tables plan
 ·simp only [cond_false, letD_eq]
  rw [whileD_step]
  rfl
 have hg := M.tidy_good ⟨hp, h_plan⟩
 simp only [cond_true, letD_eq]
 have inner : ∀ (c rule : Int) (p : List TStep.D), M.Good tables p → 1 ≤ rule → rule ≤ 7 → ∀ (n : Nat) (k : Int), ((p.length : Int) - k).toNat = n → 0 ≤ k →
   whileD (F.spec_PlanBest_l4 tables plan c rule) (p, false, k) = some (match firstO (M.betterTo tables p rule) (rangeI k (p.length : Int)) with | some q => (q, true) | none => (p, false)) := by
  intro c rule p hg r0 r1 n
  have h6 := M.plan_six hg.1
  induction n with
  | zero =>
   intro k hk k1
   rw [whileD_step, M.first_none _ k _ (by omega)]
   unfold F.spec_PlanBest_l4
   simp only
   rw [decide_eq_false (by omega)]
   rfl
  | succ n ih =>
   intro k hk k1
   have hlt : k < (p.length : Int) := by omega
   rw [whileD_step, M.first_range _ k _ hlt]
   have hq := M.turned_good hg k1 hlt rule
   have hw : wrap64 (k + 1) = k + 1 := wrap64_id' (by omega) (by omega)
   have e : F.spec_PlanBest_l4 tables plan c rule (p, false, k) = some (match M.betterTo tables p rule k with | some q => .inl (q, true, k + 1) | none => .inl (p, false, k + 1)) := by
    unfold F.spec_PlanBest_l4 M.betterTo
    simp only
    rw [decide_eq_true hlt, M.planTurned_eq hg k1 hlt r0 r1, guardD_pos hg.2, letD_eq, hw]
    cases (M.turned tables p k rule).2 with
    | false => rfl
    | true =>
     simp only [cond_true, Bool.not_false, show ((true : Bool) == true) = true from rfl]
     rw [guardD_pos hq.2, letD_eq]
     unfold M.planTidy
     rw [hq.1]
     rfl
   rw [e]
   cases M.betterTo tables p rule k with
   | some q =>
    show whileD _ (q, true, k + 1) = _
    rw [whileD_step]
    unfold F.spec_PlanBest_l4
    cases decide (k + 1 < (q.length : Int)) <;> rfl
   | none => exact ih (k + 1) (by omega) (by omega)
 have outer : ∀ (c : Int) (p : List TStep.D), M.Good tables p → ∀ (n : Nat) (k : Int), (8 - k).toNat = n → 1 ≤ k →
   whileD (F.spec_PlanBest_l2 tables plan c) (p, false, k) = some (match firstO (M.betterAt tables p) (rangeI k 8) with | some q => (q, true) | none => (p, false)) := by
  intro c p hg n
  induction n with
  | zero =>
   intro k hk k1
   rw [whileD_step, M.first_none _ k _ (by omega)]
   unfold F.spec_PlanBest_l2
   simp only
   rw [decide_eq_false (by omega)]
   rfl
  | succ n ih =>
   intro k hk k1
   rw [whileD_step, M.first_range _ k _ (by omega)]
   have hw : wrap64 (k + 1) = k + 1 := wrap64_id' (by omega) (by omega)
   have e : F.spec_PlanBest_l2 tables plan c (p, false, k) = some (match M.betterAt tables p k with | some q => .inl (q, true, k + 1) | none => .inl (p, false, k + 1)) := by
    unfold F.spec_PlanBest_l2 M.betterAt
    simp only
    rw [decide_eq_true (show k ≤ 7 by omega), inner c k p hg k1 (by omega) _ 0 rfl (by decide), hw]
    cases firstO (M.betterTo tables p k) (rangeI 0 (p.length : Int)) <;> rfl
   rw [e]
   cases M.betterAt tables p k with
   | some q =>
    show whileD _ (q, true, k + 1) = _
    rw [whileD_step]
    unfold F.spec_PlanBest_l2
    cases decide (k + 1 ≤ (7 : Int)) <;> rfl
   | none => exact ih (k + 1) (by omega) (by omega)
 have last : ∀ (n : Nat) (k : Int) (p : List TStep.D), (12 - k).toNat = n → 0 ≤ k → M.Good tables p →
   whileD (F.spec_PlanBest_l0 tables plan) (p, k) = some (.inl (M.bestRun tables n p)) ∨ whileD (F.spec_PlanBest_l0 tables plan) (p, k) = some (.inr (M.bestRun tables n p)) := by
  intro n
  induction n with
  | zero =>
   intro k p hk k1 hg
   left
   rw [whileD_step]
   unfold F.spec_PlanBest_l0
   simp only
   rw [decide_eq_false (by omega)]
   rfl
  | succ n ih =>
   intro k p hk k1 hg
   rw [whileD_step]
   have hw : wrap64 (k + 1) = k + 1 := wrap64_id' (by omega) (by omega)
   have hpos := (M.planOk_refs hg.1).1
   unfold M.bestRun
   have e : F.spec_PlanBest_l0 tables plan (p, k) = some (match M.betterO tables p with | some q => .inl (q, k + 1) | none => .inr (.inr p)) := by
    unfold F.spec_PlanBest_l0 M.betterO
    simp only
    rw [decide_eq_true (show k < 12 by omega), decide_eq_true (show (0 : Int) < (p.length : Int) by omega), outer k p hg _ 1 rfl (by decide), hw]
    cases firstO (M.betterAt tables p) (rangeI 1 8) <;> rfl
   rw [e]
   cases hb : M.betterO tables p with
   | none => right; rfl
   | some q => exact ih (k + 1) q (by omega) (by omega) (M.better_good hg hb)
 rcases last 12 0 _ rfl (by decide) hg with h | h <;> rw [h] <;> rfl
theorem F.impl_between_eq (n : Int) (low : Int) (high : Int)  : F.impl_between n low high = some (M.inR n low high) := by
 unfold F.impl_between M.inR
 cases decide (low ≤ n) <;> rfl
theorem F.impl_ColumnsOk_1_eq (c : TColumn.D)  : F.impl_ColumnsOk_1 c = some (!M.columnOk c) := by
 rfl
theorem F.IndexFunc_impl_ColumnsOk_1_eq (xs : LC) (h_xs : Sm (Ty.sl TColumn) xs) : F.IndexFunc_impl_ColumnsOk_1 xs = some (M.idx (t := TColumn) (fun e => !M.columnOk e) xs) := by
 exact indexFunc_eq (t := TColumn) (p := (fun e => !M.columnOk e)) (fun i h0 h1 => by simp only [F.IndexFunc_impl_ColumnsOk_1_l0, cond_some])
theorem F.ContainsFunc_impl_ColumnsOk_1_eq (xs : LC) (h_xs : Sm (Ty.sl TColumn) xs) : F.ContainsFunc_impl_ColumnsOk_1 xs = some (List.any xs (fun e => !M.columnOk e)) := by
 unfold F.ContainsFunc_impl_ColumnsOk_1
 exact containsFunc_eq (t := TColumn)
theorem F.impl_ColumnsOk_eq (columns : LC) (h_columns : Sm (Ty.sl TColumn) columns) : F.impl_ColumnsOk columns = some (M.columnsOk columns) := by
 unfold F.impl_ColumnsOk M.columnsOk
 rw [cond_andb, show decide ((columns.length : Int) ≤ 4) = decide (columns.length ≤ 4) from decide_eq_decide.2 (by omega)]
 rw [List.all_eq_not_any_not]
theorem F.impl_letters_eq (s : ByteArray) (h_s : Sm Ty.str s) : F.impl_letters s = some (M.lower (byteInts s)) := by
 unfold F.impl_letters M.lower
 rw [then_all (fun n => M.inR n 97 122) () (fun x hx => by
  obtain ⟨h0, h1⟩ := byte_mem hx
  simp only [F.impl_letters_l0, cond_notb, cond_some, wrap64_id' (n := x) (by omega) (by omega)])]
 cases (byteInts s).all fun n => M.inR n 97 122 <;> rfl
theorem F.impl_Value_ok_eq (v : TValue.D) (h_v : Sm TValue v) : F.impl_Value_ok v = some (M.valueOk v) := by
 unfold F.impl_Value_ok M.valueOk M.text
 simp only [cond_andb]
 rw [show decide ((v.2.2.1.size : Int) ≤ 6) = decide (v.2.2.1.size ≤ 6) from decide_eq_decide.2 (by omega)]
 simp only [Ty.beq]
 cases h0 : decide (v.1 = (0 : Int))
 ·generalize decide (v.1 = (1 : Int)) = b1
  generalize decide (v.1 = (2 : Int)) = b2
  generalize decide (v.1 = (3 : Int)) = b3
  generalize decide (v.2.1 = (0 : Int)) = c0
  generalize decide (v.2.2.1.size ≤ 6) = c6
  generalize M.inR v.2.1 (-9999) 9999 = c1
  generalize M.inR v.2.1 0 1 = c3
  generalize decide (v.2.2.1 = M.none_) = e0
  cases b1 <;> cases b2 <;> cases b3 <;> cases c0 <;> cases c6 <;> cases c1 <;> cases c3 <;> cases e0 <;> rfl
 ·simp only [cond_true, Bool.true_and, Bool.and_true]
theorem F.impl_RowOk_1_eq (v : TValue.D) (h_v : Sm TValue v) : F.impl_RowOk_1 v = some (!M.valueOk v) := by
 rfl
theorem F.IndexFunc_impl_RowOk_1_eq (xs : LV) (h_xs : Sm (Ty.sl TValue) xs) : F.IndexFunc_impl_RowOk_1 xs = some (M.idx (t := TValue) (fun e => !M.valueOk e) xs) := by
 exact indexFunc_eq (t := TValue) (p := (fun e => !M.valueOk e)) (fun i h0 h1 => by simp only [F.IndexFunc_impl_RowOk_1_l0, cond_some])
theorem F.ContainsFunc_impl_RowOk_1_eq (xs : LV) (h_xs : Sm (Ty.sl TValue) xs) : F.ContainsFunc_impl_RowOk_1 xs = some (List.any xs (fun e => !M.valueOk e)) := by
 unfold F.ContainsFunc_impl_RowOk_1
 exact containsFunc_eq (t := TValue)
theorem F.impl_RowOk_eq (row : LV) (h_row : Sm (Ty.sl TValue) row) : F.impl_RowOk row = some (M.rowOk row) := by
 unfold F.impl_RowOk M.rowOk
 rw [cond_andb, show decide ((row.length : Int) ≤ 4) = decide (row.length ≤ 4) from decide_eq_decide.2 (by omega)]
 rw [List.all_eq_not_any_not]
theorem F.impl_RowFits_eq (columns : LC) (row : LV) (h_columns : Sm (Ty.sl TColumn) columns) (h_row : Sm (Ty.sl TValue) row) : F.impl_RowFits columns row = some (M.rowFits columns row) := by
 unfold F.impl_RowFits M.rowFits
 cases M.columnsOk columns
 ·rfl
 cases M.rowOk row
 ·rfl
 by_cases hl : row.length = columns.length
 ·rw [then_all (M.fitsAt columns row) () (fun i hi => by
   obtain ⟨h0, h1⟩ := mem_rangeI.1 hi
   have h2 : i < (columns.length : Int) := by omega
   simp only [F.impl_RowFits_l0, guardD_pos h2]
   unfold M.fitsAt
   cases decide ((nth (t := TValue) row i).1 = (nth (t := TColumn) columns i).1) <;> cases decide ((nth (t := TValue) row i).1 = (0 : Int)) <;> cases (nth (t := TColumn) columns i).2.1 <;> rfl)]
  simp only [hl, Bool.not_true, decide_true, Bool.true_and, cond_true, cond_false]
  cases (rangeI 0 (columns.length : Int)).all (M.fitsAt columns row) <;> rfl
 ·have h3 : ¬ (row.length : Int) = (columns.length : Int) := by omega
  simp [hl, h3]
theorem F.impl_RowsOk_1_eq (r : LV) (columns : LC) (h_r : Sm (Ty.sl TValue) r) (h_columns : Sm (Ty.sl TColumn) columns) : F.impl_RowsOk_1 r columns = some (!M.rowFits columns r) := by
 rfl
theorem F.IndexFunc_impl_RowsOk_1_eq (xs : LLV) (k0 : LC) (h_xs : Sm (Ty.sl (Ty.sl TValue)) xs) (h_k0 : Sm (Ty.sl TColumn) k0) : F.IndexFunc_impl_RowsOk_1 xs k0 = some (M.idx (t := (Ty.sl TValue)) (fun e => !M.rowFits k0 e) xs) := by
 exact indexFunc_eq (t := (Ty.sl TValue)) (p := (fun e => !M.rowFits k0 e)) (fun i h0 h1 => by simp only [F.IndexFunc_impl_RowsOk_1_l0, cond_some])
theorem F.ContainsFunc_impl_RowsOk_1_eq (xs : LLV) (k0 : LC) (h_xs : Sm (Ty.sl (Ty.sl TValue)) xs) (h_k0 : Sm (Ty.sl TColumn) k0) : F.ContainsFunc_impl_RowsOk_1 xs k0 = some (List.any xs (fun e => !M.rowFits k0 e)) := by
 unfold F.ContainsFunc_impl_RowsOk_1
 exact containsFunc_eq (t := (Ty.sl TValue))
theorem F.impl_RowsOk_eq (columns : LC) (rows : LLV) (h_columns : Sm (Ty.sl TColumn) columns) (h_rows : Sm (Ty.sl (Ty.sl TValue)) rows) : F.impl_RowsOk columns rows = some (M.rowsOk columns rows) := by
 unfold F.impl_RowsOk M.rowsOk
 rw [cond_andb, List.all_eq_not_any_not]
theorem F.impl_TablesOk_1_eq (t : TTable.D) (h_t : Sm TTable t) : F.impl_TablesOk_1 t = some (!M.tableOk t) := by
 unfold F.impl_TablesOk_1 M.tableOk
 cases hc : M.columnsOk t.1
 ·have : M.rowsOk t.1 t.2.1 = false := by unfold M.rowsOk; rw [hc]; rfl
  rw [this]
  simp
 by_cases h : t.2.1.length ≤ 6
 ·have h2 : ¬ (6 : Int) < (t.2.1.length : Int) := by omega
  simp [h2, h]
 ·have h2 : (6 : Int) < (t.2.1.length : Int) := by omega
  simp [h2, h]
theorem F.IndexFunc_impl_TablesOk_1_eq (xs : LTb) (h_xs : Sm (Ty.sl TTable) xs) : F.IndexFunc_impl_TablesOk_1 xs = some (M.idx (t := TTable) (fun e => !M.tableOk e) xs) := by
 exact indexFunc_eq (t := TTable) (p := (fun e => !M.tableOk e)) (fun i h0 h1 => by simp only [F.IndexFunc_impl_TablesOk_1_l0, cond_some])
theorem F.ContainsFunc_impl_TablesOk_1_eq (xs : LTb) (h_xs : Sm (Ty.sl TTable) xs) : F.ContainsFunc_impl_TablesOk_1 xs = some (List.any xs (fun e => !M.tableOk e)) := by
 unfold F.ContainsFunc_impl_TablesOk_1
 exact containsFunc_eq (t := TTable)
theorem F.impl_TablesOk_eq (tables : LTb) (h_tables : Sm (Ty.sl TTable) tables) : F.impl_TablesOk tables = some (M.tablesOk tables) := by
 unfold F.impl_TablesOk M.tablesOk
 rw [cond_andb, show decide ((tables.length : Int) ≤ 3) = decide (tables.length ≤ 3) from decide_eq_decide.2 (by omega)]
 rw [List.all_eq_not_any_not]
theorem F.impl_Step_plain_eq (s : TStep.D) (h_s : Sm TStep s) : F.impl_Step_plain s = some (M.fieldsOk s) := by
 unfold F.impl_Step_plain M.fieldsOk M.two
 generalize decide (s.2.1 = (0 : Int)) = a0
 generalize decide (s.2.2.1 = (0 : Int)) = b0
 generalize decide (s.2.2.2.1 = (0 : Int)) = n0
 generalize decide ((s.2.2.2.2.1.length : Int) = (0 : Int)) = e0
 generalize decide ((s.2.2.2.2.2.1.length : Int) = (0 : Int)) = l0
 by_cases h1 : s.1 = (1 : Int)
 ·simp only [h1, Int.reduceEq, decide_true, decide_false]
  cases a0 <;> cases b0 <;> cases n0 <;> cases e0 <;> cases l0 <;> rfl
 by_cases h2 : s.1 = (2 : Int)
 ·simp only [h2, Int.reduceEq, decide_true, decide_false]
  cases a0 <;> cases b0 <;> cases n0 <;> cases e0 <;> cases l0 <;> rfl
 by_cases h3 : s.1 = (3 : Int)
 ·simp only [h3, Int.reduceEq, decide_true, decide_false]
  cases a0 <;> cases b0 <;> cases n0 <;> cases e0 <;> cases l0 <;> rfl
 by_cases h4 : s.1 = (4 : Int)
 ·simp only [h4, Int.reduceEq, decide_true, decide_false]
  cases a0 <;> cases b0 <;> cases n0 <;> cases e0 <;> cases l0 <;> rfl
 by_cases h5 : s.1 = (5 : Int)
 ·simp only [h5, Int.reduceEq, decide_true, decide_false]
  cases a0 <;> cases b0 <;> cases n0 <;> cases e0 <;> cases l0 <;> rfl
 simp only [h1, h2, h3, h4, h5, decide_false]
 cases a0 <;> cases b0 <;> cases n0 <;> cases e0 <;> cases l0 <;> rfl
theorem F.impl_Part_takes_eq (p : TPart.D) (h_p : Sm TPart p) : F.impl_Part_takes p = some (M.takes p) := by
 unfold F.impl_Part_takes M.takes
 generalize decide (p.1 = (3 : Int)) = c3
 generalize decide (p.1 = (4 : Int)) = c4
 generalize decide (p.1 = (5 : Int)) = c5
 generalize decide (p.1 = (6 : Int)) = c6
 generalize decide (p.1 = (7 : Int)) = c7
 generalize decide (p.1 = (8 : Int)) = c8
 cases c3 <;> cases c4 <;> cases c5 <;> cases c6 <;> cases c7 <;> cases c8 <;> rfl
theorem F.impl_Part_tells_eq (p : TPart.D) (columns : LC) (h_p : Sm TPart p) (h_columns : Sm (Ty.sl TColumn) columns) : F.impl_Part_tells p columns = some (M.tells p columns) := by
 unfold F.impl_Part_tells M.tells M.noV
 rw [wrap_pred _ h_columns.1]
 simp only [cond_andb, show Ty.beq TValue p.2.2.1 ((0 : Int), (0 : Int), (⟨#[]⟩ : ByteArray), ()) = Ty.beq TValue p.2.2.1 M.zeroV from rfl]
 generalize Ty.beq TValue p.2.2.1 M.zeroV = nv
 by_cases e1 : p.1 = (1 : Int)
 ·simp only [e1, decide_true, cond_true]
 by_cases e2 : p.1 = (2 : Int)
 ·simp only [e2, decide_true, cond_true, Int.reduceEq, decide_false, cond_false]
 by_cases e4 : p.1 = (4 : Int)
 ·simp only [e4, decide_true, cond_true, Int.reduceEq, decide_false, cond_false]
 by_cases e3 : p.1 = (3 : Int)
 ·simp only [e3, decide_true, cond_true, Int.reduceEq, decide_false, cond_false]
  rfl
 by_cases e5 : p.1 = (5 : Int)
 ·simp only [e5, decide_true, cond_true, Int.reduceEq, decide_false, cond_false]
  rfl
 by_cases e6 : p.1 = (6 : Int)
 ·simp only [e6, decide_true, cond_true, Int.reduceEq, decide_false, cond_false]
  rfl
 by_cases e7 : p.1 = (7 : Int)
 ·simp only [e7, decide_true, cond_true, Int.reduceEq, decide_false, cond_false]
  rfl
 by_cases e8 : p.1 = (8 : Int)
 ·simp only [e8, decide_true, cond_true, Int.reduceEq, decide_false, cond_false]
  rfl
 simp only [e1, e2, e3, e4, e5, e6, e7, e8, decide_false, cond_false, inR_out e3 e4 e5 e6 e7 e8]
theorem F.impl_Part_kind_1_1_eq (k : Int) (kind : Int)  : F.impl_Part_kind_1_1 k kind = some (!decide (k = kind)) := by
 rfl
theorem F.IndexFunc_impl_Part_kind_1_1_eq (xs : (List Int)) (k0 : Int) (h_xs : Sm (Ty.sl (Ty.int .i64)) xs) : F.IndexFunc_impl_Part_kind_1_1 xs k0 = some (M.idx (t := (Ty.int .i64)) (fun e => !decide (e = k0)) xs) := by
 exact indexFunc_eq (t := (Ty.int .i64)) (p := (fun e => !decide (e = k0))) (fun i h0 h1 => by simp only [F.IndexFunc_impl_Part_kind_1_1_l0, cond_some])
theorem F.ContainsFunc_impl_Part_kind_1_1_eq (xs : (List Int)) (k0 : Int) (h_xs : Sm (Ty.sl (Ty.int .i64)) xs) : F.ContainsFunc_impl_Part_kind_1_1 xs k0 = some (List.any xs (fun e => !decide (e = k0))) := by
 unfold F.ContainsFunc_impl_Part_kind_1_1
 exact containsFunc_eq (t := (Ty.int .i64))
theorem F.impl_Part_kind_1_eq (kind : Int) (ins : (List Int)) (h_ins : Sm (Ty.sl (Ty.int .i64)) ins) : F.impl_Part_kind_1 kind ins = some (List.all ins (fun k => decide (k = kind))) := by
 unfold F.impl_Part_kind_1
 rw [List.all_eq_not_any_not]
theorem F.impl_Part_kind_eq (p : TPart.D) (columns : LC) (inp : (List Int)) (h_p : Sm TPart p) (h_columns : Sm (Ty.sl TColumn) columns) (h_inp : Sm (Ty.sl (Ty.int .i64)) inp) (p0 : M.tells p columns = true) (p1 : (inp.length : Int) = M.takes p) : F.impl_Part_kind p columns inp = some (M.partKind p columns inp) := by
 unfold F.impl_Part_kind M.partKind
 obtain ⟨_, hc⟩ := tells_kind p0
 by_cases e1 : p.1 = (1 : Int)
 ·simp only [e1, decide_true, cond_true]
 by_cases e2 : p.1 = (2 : Int)
 ·obtain ⟨c0, c1⟩ := hc e2
  simp only [e2, decide_true, cond_true, Int.reduceEq, decide_false, cond_false]
  rw [guardD_pos c0, guardD_pos c1]
 by_cases e4 : p.1 = (4 : Int)
 ·rw [takes_two (.inr (.inl e4))] at p1
  simp only [e4, decide_true, cond_true, Int.reduceEq, decide_false, cond_false]
  repeat rw [guardD_pos (by omega)]
 cases decide (p.1 = (3 : Int)) <;> cases decide (p.1 = (8 : Int)) <;> simp [e1, e2, e4]
theorem F.impl_ExprKind_eq (columns : LC) (e : LPt) (h_columns : Sm (Ty.sl TColumn) columns) (h_e : Sm (Ty.sl TPart) e) : F.impl_ExprKind columns e = some (M.exprKind columns e) := by
 unfold F.impl_ExprKind M.exprKind
 cases M.columnsOk columns
 ·rfl
 by_cases hl : e.length ≤ 12
 ·rw [decide_eq_false (show ¬ (12 : Int) < (e.length : Int) by omega), decide_eq_true hl]
  rw [impl_kind_run e [] (by simp; omega)]
  cases M.kindRun columns e [] with
  | none => rfl
  | some s =>
   match s with
   | [] => rfl
   | [a] => exact guardD_pos (by simp)
   | a :: b :: l =>
    have : ¬ ((a :: b :: l).length : Int) = 1 := by simp; omega
    simp only [this, decide_false]
    rfl
 ·rw [decide_eq_true (show (12 : Int) < (e.length : Int) by omega), decide_eq_false hl]
  rfl
theorem F.Grow_TColumn_eq (n : Int) (p0 : 0 ≤ n) (p1 : n ≤ 1099511627776) : F.Grow_TColumn n = some ([] : List TColumn.D) := by
 unfold F.Grow_TColumn
 have e : wrap64 (n - wrap64 ((0 : Int) - (0 : Int))) = n := by
  rw [show wrap64 ((0 : Int) - (0 : Int)) = 0 by decide, Int.sub_zero]
  exact wrap64_id' (by omega) (by omega)
 rw [decide_eq_false (by omega), e]
 by_cases h : 0 < n
 ·rw [decide_eq_true h]
  simp only [cond_true, cond_false]
  rw [guardD_pos p0, guardD_pos (by unfold lim; omega)]
  rfl
 ·rw [decide_eq_false h]
  rfl
theorem F.Concat_TColumn_eq (xss : LLC) (h_xss : Sm (Ty.sl (Ty.sl TColumn)) xss) : F.Concat_TColumn xss = some (List.flatten xss) := by
 unfold F.Concat_TColumn
 exact M.concat_eq_ (t := TColumn) h_xss (fun z v h0 h1 => by
  unfold F.Concat_TColumn_l0
  rw [wrap64_id' (n := v + (z.length : Int)) (by omega) (by omega), decide_eq_false (by omega)]
  rfl) (fun z v h1 => by
  unfold F.Concat_TColumn_l2
  rw [guardD_pos (by unfold lim; omega)])
theorem F.clone_TColumn_eq (xs : LC) (h_xs : Sm (Ty.sl TColumn) xs) : F.clone_TColumn xs = some xs := by
 exact M.clone2_eq (t := TColumn)
theorem F.impl_Step_make_eq (s : TStep.D) (tables : LTb) (ahead : (List TMade.D)) (h_s : Sm TStep s) (h_tables : Sm (Ty.sl TTable) tables) (h_ahead : Sm (Ty.sl TMade) ahead) : F.impl_Step_make s tables ahead = some (M.make s tables ahead) := by
 obtain ⟨r, h1, _⟩ := impl_make_is h_s h_tables h_ahead
 unfold M.make
 rw [h1]
 rfl
theorem F.impl_makes_eq (tables : LTb) (plan : LS) (h_tables : Sm (Ty.sl TTable) tables) (h_plan : Sm (Ty.sl TStep) plan) : F.impl_makes tables plan = some (M.makes tables plan) := by
 obtain ⟨r, h1, _⟩ := impl_makes_is h_tables h_plan
 unfold M.makes
 rw [h1]
 rfl
theorem F.impl_PlanOk_eq (tables : LTb) (plan : LS) (h_tables : Sm (Ty.sl TTable) tables) (h_plan : Sm (Ty.sl TStep) plan) : F.impl_PlanOk tables plan = some (M.planOk tables plan) := by
 unfold F.impl_PlanOk
 rw [letD_eq]
 exact congrArg some (makes_ok h_tables h_plan)
theorem F.impl_needs_eq (plan : LS) (h_plan : Sm (Ty.sl TStep) plan) (p0 : M.refsOk plan) : F.impl_needs plan = some (M.needs plan) := by
 unfold F.impl_needs M.needs
 have hl := h_plan.1
 have hw : wrap64 ((plan.length : Int) - (1 : Int)) = (plan.length : Int) - 1 := wrap_pred _ hl
 have h0 := p0.1
 rw [hw, guardD_pos (by omega), guardD_pos (by simp; omega), letD_eq]
 have e1 : (plan.length : Int).toNat = plan.length := by simp
 have e2 : ((plan.length : Int) - 1).toNat = plan.length - 1 := by omega
 rw [e1, e2, (M.while_down (M.needStep plan) (fun u : List Bool => u.length = plan.length) plan.length (fun k u k0 k1 hI => by
   refine ⟨?_, by rw [M.needStep_len]; exact hI⟩
   unfold F.impl_needs_l0 M.needStep
   have hin := p0.2 k k0 k1
   have hu : k < (u.length : Int) := by rw [hI]; exact k1
   simp only
   rw [decide_eq_true k0, cond_true, guardD_pos k0, guardD_pos k1, guardD_pos hu, wrap64_id' (n := k - 1) (by omega) (by omega)]
   cases nth (t := .bool) u k
   ·rfl
   by_cases h1 : (nth (t := TStep) plan k).1 = (1 : Int)
   ·rw [decide_eq_true h1]
    rfl
   obtain ⟨⟨a0, a1⟩, ⟨b0, b1⟩⟩ := hin h1
   have a2 : (nth (t := TStep) plan k).2.1 < (u.length : Int) := by rw [hI]; exact Int.lt_trans a1 k1
   have b2 : (nth (t := TStep) plan k).2.2.1 < ((u.set (nth (t := TStep) plan k).2.1.toNat true).length : Int) := by rw [List.length_set, hI]; exact Int.lt_trans b1 k1
   rw [decide_eq_false h1]
   simp only [Bool.not_false, Bool.and_true, cond_true, letD_eq, show ((true : Bool) == true) = true from rfl]
   rw [guardD_pos a0, guardD_pos a2]
   repeat rw [guardD_pos b0]
   repeat rw [guardD_pos b2]
   unfold M.two
   cases decide ((nth (t := TStep) plan k).1 = (4 : Int)) <;> cases decide ((nth (t := TStep) plan k).1 = (5 : Int)) <;> rfl) (fun u hI => rfl) plan.length _ (Nat.le_refl _) (by simp)).1]
 rfl
theorem F.clone_Inti64_eq (xs : (List Int)) (h_xs : Sm (Ty.sl (Ty.int .i64)) xs) : F.clone_Inti64 xs = some xs := by
 exact M.clone2_eq (t := (Ty.int .i64))
theorem F.clone_TPart_eq (xs : LPt) (h_xs : Sm (Ty.sl TPart) xs) : F.clone_TPart xs = some xs := by
 exact M.clone2_eq (t := TPart)
theorem F.impl_names2_eq (kind : Int)  : F.impl_names2 kind = some (M.two kind) := by
 unfold F.impl_names2 M.two
 cases decide (kind = (4 : Int)) <;> rfl
theorem F.impl_tidy_eq (plan : LS) (h_plan : Sm (Ty.sl TStep) plan) (p0 : M.refsOk plan) : F.impl_tidy plan = some (M.tidy plan) := by
 unfold F.impl_tidy M.tidy
 have hl := h_plan.1
 have e1 : (plan.length : Int).toNat = plan.length := by simp
 rw [letD_eq, M.needs_len, guardD_pos (by unfold top63; omega), e1]
 have hfold := M.each_idx (f := F.impl_tidy_l0 plan (plan.length : Int) (M.needs plan)) (fun (v : List TStep.D × List Int) k => ((M.tidyStep plan (M.needs plan) (v.2, v.1) k).2, (M.tidyStep plan (M.needs plan) (v.2, v.1) k).1)) (fun k v => v.2.length = plan.length ∧ (v.1.length : Int) ≤ k ∧ ∀ s ∈ v.1, Sm TStep s) plan.length (s := ([], List.replicate plan.length (0 : Int))) ⟨by simp, by simp, fun s h => by cases h⟩ (fun k v k0 k1 hI => by
   have hnext := M.tidy_inv (need := M.needs plan) h_plan (st := (v.2, v.1)) k0 hI
   refine ⟨?_, hnext⟩
   clear hnext
   have hin := p0.2 k k0 k1
   obtain ⟨hI1, hI2, hI3⟩ := hI
   have hs1 : k < (v.2.length : Int) := by rw [hI1]; exact k1
   have hnd : k < ((M.needs plan).length : Int) := by rw [M.needs_len]; exact k1
   have hl := h_plan.1
   unfold F.impl_tidy_l0 M.tidyStep M.ren
   rw [guardD_pos hnd]
   cases nth (t := .bool) (M.needs plan) k
   ·rfl
   simp only [cond_true]
   rw [guardD_pos hs1, guardD_pos k1]
   simp only [letD_eq, M.cut_all]
   have hlim : ∀ s : TStep.D, (v.1.length + [s].length) * 80 ≤ lim := fun s => by unfold lim; simp; omega
   by_cases h1 : (nth (t := TStep) plan k).1 = (1 : Int)
   ·have ht : M.two (1 : Int) = false := rfl
    rw [decide_eq_true h1, h1, ht]
    simp only [Bool.not_true, cond_true, cond_false]
    rw [guardD_pos (hlim _), ← h1]
   obtain ⟨⟨a0, a1⟩, ⟨b0, b1⟩⟩ := hin h1
   have a2 : (nth (t := TStep) plan k).2.1 < ((v.2.set k.toNat (v.1.length : Int)).length : Int) := by rw [List.length_set, hI1]; exact Int.lt_trans a1 k1
   have b2 : (nth (t := TStep) plan k).2.2.1 < ((v.2.set k.toNat (v.1.length : Int)).length : Int) := by rw [List.length_set, hI1]; exact Int.lt_trans b1 k1
   rw [decide_eq_false h1, M.nth_set_ne (t := .int .i64) k0 a0 (Int.ne_of_gt a1)]
   simp only [Bool.not_false, cond_true, cond_false]
   rw [guardD_pos a0, guardD_pos a2]
   cases M.two (nth (t := TStep) plan k).1
   ·simp only [cond_false]
    rw [guardD_pos (hlim _)]
   ·simp only [cond_true]
    rw [M.nth_set_ne (t := .int .i64) k0 b0 (Int.ne_of_gt b1), guardD_pos b0, guardD_pos b2, guardD_pos (hlim _)])
 rw [hfold.1, thenD_inl, M.foldl_swap (M.tidyStep plan (M.needs plan)) (fun (v : List TStep.D × List Int) k => ((M.tidyStep plan (M.needs plan) (v.2, v.1) k).2, (M.tidyStep plan (M.needs plan) (v.2, v.1) k).1)) (fun a b x => rfl)]
 simp only [M.take_all]
theorem F.Grow_TPart_eq (n : Int) (p0 : 0 ≤ n) (p1 : n ≤ 1099511627776) : F.Grow_TPart n = some ([] : List TPart.D) := by
 unfold F.Grow_TPart
 have e : wrap64 (n - wrap64 ((0 : Int) - (0 : Int))) = n := by
  rw [show wrap64 ((0 : Int) - (0 : Int)) = 0 by decide, Int.sub_zero]
  exact wrap64_id' (by omega) (by omega)
 rw [decide_eq_false (by omega), e]
 by_cases h : 0 < n
 ·rw [decide_eq_true h]
  simp only [cond_true, cond_false]
  rw [guardD_pos p0, guardD_pos (by unfold lim; omega)]
  rfl
 ·rw [decide_eq_false h]
  rfl
theorem F.Concat_TPart_eq (xss : (List LPt)) (h_xss : Sm (Ty.sl (Ty.sl TPart)) xss) : F.Concat_TPart xss = some (List.flatten xss) := by
 unfold F.Concat_TPart
 exact M.concat_eq_ (t := TPart) h_xss (fun z v h0 h1 => by
  unfold F.Concat_TPart_l0
  rw [wrap64_id' (n := v + (z.length : Int)) (by omega) (by omega), decide_eq_false (by omega)]
  rfl) (fun z v h1 => by
  unfold F.Concat_TPart_l2
  rw [guardD_pos (by unfold lim; omega)])
theorem F.impl_both_eq (a : LPt) (b : LPt) (h_a : Sm (Ty.sl TPart) a) (h_b : Sm (Ty.sl TPart) b) : F.impl_both a b = some (M.bothE a b) := by
 unfold F.impl_both
 have hA : Sm TPart M.andP := ⟨trivial, trivial, ⟨trivial, trivial, Nat.zero_le _, trivial⟩, trivial⟩
 have hS : Sm (.sl (.sl TPart)) [a, b, [M.andP]] := by
  refine ⟨show 3 ≤ 1048576 by decide, fun x hx => ?_⟩
  rcases List.mem_cons.1 hx with rfl | hx
  ·exact h_a
  rcases List.mem_cons.1 hx with rfl | hx
  ·exact h_b
  rw [List.mem_singleton.1 hx]
  exact ⟨show 1 ≤ 1048576 by decide, fun y hy => by rw [List.mem_singleton.1 hy]; exact hA⟩
 refine (guardD_pos hS).trans ?_
 show some (List.flatten [a, b, [M.andP]]) = some (a ++ b ++ [M.andP])
 simp
theorem F.impl_exprMoved_eq (e : LPt) (to : (List Int)) (h_e : Sm (Ty.sl TPart) e) (h_to : Sm (Ty.sl (Ty.int .i64)) to) (p0 : M.colsIn e to.length) : F.impl_exprMoved e to = some (M.moved e to) := by
 unfold F.impl_exprMoved
 have hl := h_e.1
 rw [letD_eq, guardD_pos (by unfold top63; omega)]
 have := each_inplace (t := TPart) (ρ := Unit) (M.movedP to) e.length (f := F.impl_exprMoved_l0 e to (e.length : Int) (e.length : Int) (e.length : Int)) e [] (by simp) (fun x hx A R hA => by
  unfold F.impl_exprMoved_l0
  rw [guardD_pos (by omega), nth_mid]
  unfold M.movedP
  by_cases h2 : x.1 = (2 : Int)
  ·obtain ⟨c0, c1⟩ := p0 x hx h2
   rw [decide_eq_true h2]
   simp only [cond_true]
   rw [guardD_pos c0, guardD_pos c1, guardD_pos (by omega), letD_eq, set_mid]
  ·rw [decide_eq_false h2]
   rfl)
 simp only [List.length_nil, List.nil_append] at this
 rw [show ((0 : Nat) : Int) = 0 from rfl] at this
 rw [this, thenD_inl]
 show some ((M.moved e to).take _) = some (M.moved e to)
 rw [List.take_of_length_le (by unfold M.moved; simp)]
theorem F.impl_turn_eq (all : (List TMade.D)) (plan : LS) (at_ : Int) (rule : Int) (h_all : Sm (Ty.sl TMade) all) (h_plan : Sm (Ty.sl TStep) plan) (p0 : M.turnSafe plan at_) (p1 : 1 ≤ rule ∧ rule ≤ 7) : F.impl_turn all plan at_ rule = some (M.newSteps plan at_ rule) := by
 unfold F.impl_turn M.newSteps
 obtain ⟨⟨a0, a1⟩, hsafe⟩ := p0
 rw [guardD_pos a0, guardD_pos a1]
 have sS := sm_nth h_plan at_
 obtain ⟨_, _, _, _, _, ⟨sl, _⟩, _⟩ := sS
 
 generalize hs : nth (t := TStep) plan at_ = s at *
 generalize hj : nth (t := TStep) plan s.2.1 = j at *
 obtain ⟨q1, q2, q3⟩ := hsafe
 unfold M.newOf
 by_cases r1 : rule = (1 : Int)
 ·have hO : mgetZ (Ty.int .i64) (mput (mput (mput (mput (mput (mput (mput ([] : List (Int × Int)) (1 : Int) (2 : Int)) (2 : Int) (2 : Int)) (3 : Int) (2 : Int)) (4 : Int) (2 : Int)) (5 : Int) (2 : Int)) (6 : Int) (3 : Int)) (7 : Int) (6 : Int)) rule = (2 : Int) := by rw [r1]; rfl
  have hI : mgetZ (Ty.int .i64) (mput (mput (mput (mput (mput (mput (mput ([] : List (Int × Int)) (1 : Int) (2 : Int)) (2 : Int) (4 : Int)) (3 : Int) (3 : Int)) (4 : Int) (6 : Int)) (5 : Int) (5 : Int)) (6 : Int) (3 : Int)) (7 : Int) (6 : Int)) rule = (2 : Int) := by rw [r1]; rfl
  rw [decide_eq_true r1, hO, hI]
  by_cases s2 : s.1 = (2 : Int)
  ·have h1 : ¬ s.1 = (1 : Int) := by rw [s2]; decide
   rw [decide_eq_true s2]
   simp only [Bool.not_true, cond_true, Bool.true_and, show ((false : Bool) == false) = true from rfl]
   rw [guardD_pos (q1 h1).1, guardD_pos (q1 h1).2]
   by_cases j2 : j.1 = (2 : Int)
   ·rw [decide_eq_true j2]
    simp only [Bool.not_true, cond_false, cond_true]
    rfl
   ·rw [decide_eq_false j2]
    rfl
  ·rw [decide_eq_false s2]
   rfl
 rw [decide_eq_false r1]
 simp only [cond_false]
 by_cases r2 : rule = (2 : Int)
 ·have hO : mgetZ (Ty.int .i64) (mput (mput (mput (mput (mput (mput (mput ([] : List (Int × Int)) (1 : Int) (2 : Int)) (2 : Int) (2 : Int)) (3 : Int) (2 : Int)) (4 : Int) (2 : Int)) (5 : Int) (2 : Int)) (6 : Int) (3 : Int)) (7 : Int) (6 : Int)) rule = (2 : Int) := by rw [r2]; rfl
  have hI : mgetZ (Ty.int .i64) (mput (mput (mput (mput (mput (mput (mput ([] : List (Int × Int)) (1 : Int) (2 : Int)) (2 : Int) (4 : Int)) (3 : Int) (3 : Int)) (4 : Int) (6 : Int)) (5 : Int) (5 : Int)) (6 : Int) (3 : Int)) (7 : Int) (6 : Int)) rule = (4 : Int) := by rw [r2]; rfl
  rw [decide_eq_true r2, hO, hI]
  by_cases s2 : s.1 = (2 : Int)
  ·have h1 : ¬ s.1 = (1 : Int) := by rw [s2]; decide
   rw [decide_eq_true s2]
   simp only [Bool.not_true, cond_true, Bool.true_and, show ((false : Bool) == false) = true from rfl]
   rw [guardD_pos (q1 h1).1, guardD_pos (q1 h1).2]
   by_cases j2 : j.1 = (4 : Int)
   ·rw [decide_eq_true j2]
    simp only [Bool.not_true, cond_false, cond_true]
    rfl
   ·rw [decide_eq_false j2]
    rfl
  ·rw [decide_eq_false s2]
   rfl
 rw [decide_eq_false r2]
 simp only [cond_false]
 by_cases r3 : rule = (3 : Int)
 ·have hO : mgetZ (Ty.int .i64) (mput (mput (mput (mput (mput (mput (mput ([] : List (Int × Int)) (1 : Int) (2 : Int)) (2 : Int) (2 : Int)) (3 : Int) (2 : Int)) (4 : Int) (2 : Int)) (5 : Int) (2 : Int)) (6 : Int) (3 : Int)) (7 : Int) (6 : Int)) rule = (2 : Int) := by rw [r3]; rfl
  have hI : mgetZ (Ty.int .i64) (mput (mput (mput (mput (mput (mput (mput ([] : List (Int × Int)) (1 : Int) (2 : Int)) (2 : Int) (4 : Int)) (3 : Int) (3 : Int)) (4 : Int) (6 : Int)) (5 : Int) (5 : Int)) (6 : Int) (3 : Int)) (7 : Int) (6 : Int)) rule = (3 : Int) := by rw [r3]; rfl
  rw [decide_eq_true r3, hO, hI]
  by_cases s2 : s.1 = (2 : Int)
  ·have h1 : ¬ s.1 = (1 : Int) := by rw [s2]; decide
   rw [decide_eq_true s2]
   simp only [Bool.not_true, cond_true, Bool.true_and, show ((false : Bool) == false) = true from rfl]
   rw [guardD_pos (q1 h1).1, guardD_pos (q1 h1).2]
   by_cases j2 : j.1 = (3 : Int)
   ·rw [decide_eq_true j2]
    simp only [Bool.not_true, cond_false, cond_true]
    rw [guardD_pos (q2 s2 j2), letD_eq, M.cut_all]
    rfl
   ·rw [decide_eq_false j2]
    rfl
  ·rw [decide_eq_false s2]
   rfl
 rw [decide_eq_false r3]
 simp only [cond_false]
 by_cases r4 : rule = (4 : Int)
 ·have hO : mgetZ (Ty.int .i64) (mput (mput (mput (mput (mput (mput (mput ([] : List (Int × Int)) (1 : Int) (2 : Int)) (2 : Int) (2 : Int)) (3 : Int) (2 : Int)) (4 : Int) (2 : Int)) (5 : Int) (2 : Int)) (6 : Int) (3 : Int)) (7 : Int) (6 : Int)) rule = (2 : Int) := by rw [r4]; rfl
  have hI : mgetZ (Ty.int .i64) (mput (mput (mput (mput (mput (mput (mput ([] : List (Int × Int)) (1 : Int) (2 : Int)) (2 : Int) (4 : Int)) (3 : Int) (3 : Int)) (4 : Int) (6 : Int)) (5 : Int) (5 : Int)) (6 : Int) (3 : Int)) (7 : Int) (6 : Int)) rule = (6 : Int) := by rw [r4]; rfl
  rw [decide_eq_true r4, hO, hI]
  by_cases s2 : s.1 = (2 : Int)
  ·have h1 : ¬ s.1 = (1 : Int) := by rw [s2]; decide
   rw [decide_eq_true s2]
   simp only [Bool.not_true, cond_true, Bool.true_and, show ((false : Bool) == false) = true from rfl]
   rw [guardD_pos (q1 h1).1, guardD_pos (q1 h1).2]
   by_cases j2 : j.1 = (6 : Int)
   ·rw [decide_eq_true j2]
    simp only [Bool.not_true, cond_false, cond_true]
    rfl
   ·rw [decide_eq_false j2]
    rfl
  ·rw [decide_eq_false s2]
   rfl
 rw [decide_eq_false r4]
 simp only [cond_false]
 by_cases r5 : rule = (5 : Int)
 ·have hO : mgetZ (Ty.int .i64) (mput (mput (mput (mput (mput (mput (mput ([] : List (Int × Int)) (1 : Int) (2 : Int)) (2 : Int) (2 : Int)) (3 : Int) (2 : Int)) (4 : Int) (2 : Int)) (5 : Int) (2 : Int)) (6 : Int) (3 : Int)) (7 : Int) (6 : Int)) rule = (2 : Int) := by rw [r5]; rfl
  have hI : mgetZ (Ty.int .i64) (mput (mput (mput (mput (mput (mput (mput ([] : List (Int × Int)) (1 : Int) (2 : Int)) (2 : Int) (4 : Int)) (3 : Int) (3 : Int)) (4 : Int) (6 : Int)) (5 : Int) (5 : Int)) (6 : Int) (3 : Int)) (7 : Int) (6 : Int)) rule = (5 : Int) := by rw [r5]; rfl
  rw [decide_eq_true r5, hO, hI]
  by_cases s2 : s.1 = (2 : Int)
  ·have h1 : ¬ s.1 = (1 : Int) := by rw [s2]; decide
   rw [decide_eq_true s2]
   simp only [Bool.not_true, cond_true, Bool.true_and, show ((false : Bool) == false) = true from rfl]
   rw [guardD_pos (q1 h1).1, guardD_pos (q1 h1).2]
   by_cases j2 : j.1 = (5 : Int)
   ·rw [decide_eq_true j2]
    simp only [Bool.not_true, cond_false, cond_true]
    rfl
   ·rw [decide_eq_false j2]
    rfl
  ·rw [decide_eq_false s2]
   rfl
 rw [decide_eq_false r5]
 simp only [cond_false]
 by_cases r6 : rule = (6 : Int)
 ·have hO : mgetZ (Ty.int .i64) (mput (mput (mput (mput (mput (mput (mput ([] : List (Int × Int)) (1 : Int) (2 : Int)) (2 : Int) (2 : Int)) (3 : Int) (2 : Int)) (4 : Int) (2 : Int)) (5 : Int) (2 : Int)) (6 : Int) (3 : Int)) (7 : Int) (6 : Int)) rule = (3 : Int) := by rw [r6]; rfl
  have hI : mgetZ (Ty.int .i64) (mput (mput (mput (mput (mput (mput (mput ([] : List (Int × Int)) (1 : Int) (2 : Int)) (2 : Int) (4 : Int)) (3 : Int) (3 : Int)) (4 : Int) (6 : Int)) (5 : Int) (5 : Int)) (6 : Int) (3 : Int)) (7 : Int) (6 : Int)) rule = (3 : Int) := by rw [r6]; rfl
  rw [decide_eq_true r6, hO, hI]
  by_cases s2 : s.1 = (3 : Int)
  ·have h1 : ¬ s.1 = (1 : Int) := by rw [s2]; decide
   rw [decide_eq_true s2]
   simp only [Bool.not_true, cond_true, Bool.true_and, show ((false : Bool) == false) = true from rfl]
   rw [guardD_pos (q1 h1).1, guardD_pos (q1 h1).2]
   by_cases j2 : j.1 = (3 : Int)
   ·rw [decide_eq_true j2]
    simp only [Bool.not_true, cond_false, cond_true]
    rw [each_tailL (fun z => nth (t := .int .i64) j.2.2.2.2.2.1 z) s.2.2.2.2.2.1 [] (fun z hz v hv => by
     simp only [List.length_nil, Nat.zero_add] at hv
     have hz2 := q3 s2 j2 z hz
     unfold F.impl_turn_l1
     rw [hs, hj, guardD_pos hz2.1, guardD_pos hz2.2, guardD_pos (by unfold lim; simp; omega)]), thenD_inl]
    rfl
   ·rw [decide_eq_false j2]
    rfl
  ·rw [decide_eq_false s2]
   rfl
 rw [decide_eq_false r6]
 simp only [cond_false]
 by_cases r7 : rule = (7 : Int)
 ·have hO : mgetZ (Ty.int .i64) (mput (mput (mput (mput (mput (mput (mput ([] : List (Int × Int)) (1 : Int) (2 : Int)) (2 : Int) (2 : Int)) (3 : Int) (2 : Int)) (4 : Int) (2 : Int)) (5 : Int) (2 : Int)) (6 : Int) (3 : Int)) (7 : Int) (6 : Int)) rule = (6 : Int) := by rw [r7]; rfl
  have hI : mgetZ (Ty.int .i64) (mput (mput (mput (mput (mput (mput (mput ([] : List (Int × Int)) (1 : Int) (2 : Int)) (2 : Int) (4 : Int)) (3 : Int) (3 : Int)) (4 : Int) (6 : Int)) (5 : Int) (5 : Int)) (6 : Int) (3 : Int)) (7 : Int) (6 : Int)) rule = (6 : Int) := by rw [r7]; rfl
  rw [decide_eq_true r7, hO, hI]
  by_cases s2 : s.1 = (6 : Int)
  ·have h1 : ¬ s.1 = (1 : Int) := by rw [s2]; decide
   rw [decide_eq_true s2]
   simp only [Bool.not_true, cond_true, Bool.true_and, show ((false : Bool) == false) = true from rfl]
   rw [guardD_pos (q1 h1).1, guardD_pos (q1 h1).2]
   by_cases j2 : j.1 = (6 : Int)
   ·rw [decide_eq_true j2]
    simp only [Bool.not_true, cond_false, cond_true]
    rfl
   ·rw [decide_eq_false j2]
    rfl
  ·rw [decide_eq_false s2]
   rfl
 exact absurd p1 (by omega)
theorem F.impl_planCopy_eq (plan : LS) (h_plan : Sm (Ty.sl TStep) plan) : F.impl_planCopy plan = some plan := by
 unfold F.impl_planCopy
 rw [each_map (fun r => r) (fun x hx s hs => by
  have hl := h_plan.1
  simp only [F.impl_planCopy_l0, letD_eq, M.cut_all]
  rw [guardD_pos (by unfold lim; simp; omega)]), M.map_self, thenD_inl, M.take_all]
theorem F.impl_turned_eq (tables : LTb) (plan : LS) (at_ : Int) (rule : Int) (h_tables : Sm (Ty.sl TTable) tables) (h_plan : Sm (Ty.sl TStep) plan) (p0 : M.planOk tables plan = true) (p1 : 0 ≤ at_) (p2 : at_ < (plan.length : Int)) (p3 : 1 ≤ rule ∧ rule ≤ 7) : F.impl_turned tables plan at_ rule = some (M.turned tables plan at_ rule) := by
 have facts := M.turn_facts p0 h_plan p1 p2
 have h6 := M.plan_six p0
 have refs := (M.planOk_refs p0).2
 unfold F.impl_turned M.turned
 rw [letD_eq, guardD_pos (makes_sm h_tables h_plan), guardD_pos facts.1, letD_eq]
 have hn := facts.2.2.2.2 rule
 have h3 : (M.newSteps plan at_ rule).length ≤ 3 := M.new_len _ _ _ _
 generalize M.newSteps plan at_ rule = N at *
 cases decide ((N.length : Int) = (0 : Int)) with
 | true => rfl
 | false =>
  simp only [cond_false, letD_eq]
  have ht : (plan.take at_.toNat).length ≤ 6 := Nat.le_trans (List.length_take_le' _ _) h6
  rw [guardD_pos p1, guardD_pos (Int.le_of_lt p2), cut_head, guardD_pos (by unfold lim; simp; omega), wrap64_id' (n := at_ + (1 : Int)) (by omega) (by omega), guardD_pos (by omega), guardD_pos (by omega), cut_tail plan (by omega) (by omega), show (at_ + 1).toNat = at_.toNat + 1 by omega]
  rw [each_tailL (M.shift at_ (wrap64 ((N.length : Int) - 1))) (plan.drop (at_.toNat + 1)) (plan.take at_.toNat ++ N) (fun z hz v hv => by
   have hmem := List.mem_of_mem_drop hz
   obtain ⟨k, hk, e⟩ := List.getElem_of_mem hmem
   have hin := refs (k : Int) (by omega) (by omega)
   have e2 : nth (t := TStep) plan (k : Int) = z := by
    rw [nth_eq (by omega) (by omega)]
    simpa using e
   rw [e2] at hin
   have hlv : v.length ≤ 20 := by
    simp only [List.length_append, List.length_drop] at hv
    omega
   have hlim : ∀ s : TStep.D, (v.length + [s].length) * 80 ≤ lim := fun s => by unfold lim; simp; omega
   have hw : ∀ x : Int, 0 ≤ x → x < (k : Int) → wrap64 (wrap64 (x + (N.length : Int)) - (1 : Int)) = wrap64 (x + wrap64 ((N.length : Int) - 1)) := fun x x0 x1 => by
    rw [wrap64_id' (n := x + (N.length : Int)) (by omega) (by omega), wrap64_id' (n := (N.length : Int) - 1) (by omega) (by omega), show x + (N.length : Int) - 1 = x + ((N.length : Int) - 1) by omega]
   have hc : ∀ x : Int, decide (at_ ≤ x) = !decide (x < at_) := fun x => by
    by_cases h : x < at_
    ·rw [decide_eq_true h, decide_eq_false (by omega)]; rfl
    ·rw [decide_eq_false h, decide_eq_true (by omega)]; rfl
   unfold F.impl_turned_l0 M.shift
   simp only [letD_eq, M.cut_all]
   rw [hc z.2.1, hc z.2.2.1]
   by_cases h1 : z.1 = (1 : Int)
   ·have h2 : M.two z.1 = false := by rw [h1]; rfl
    rw [decide_eq_true h1, h2]
    exact guardD_pos (hlim _)
   ·obtain ⟨⟨z0, z1⟩, w0, w1⟩ := hin h1
    rw [decide_eq_false h1, hw _ z0 z1, hw _ w0 w1]
    cases M.two z.1 <;> cases decide (z.2.1 < at_) <;> cases decide (z.2.2.1 < at_) <;> simp only [cond_true, cond_false, Bool.and_self, Bool.and_true, Bool.true_and, Bool.and_false, Bool.false_and, Bool.or_self, Bool.or_true, Bool.true_or, Bool.or_false, Bool.false_or, Bool.not_true, Bool.not_false, show ((true : Bool) == true) = true from rfl, show ((false : Bool) == true) = false from rfl, show ((false : Bool) == false) = true from rfl, show ((true : Bool) == false) = false from rfl] <;> rw [guardD_pos (hlim _)]), thenD_inl]
  show guardD (Sm (.sl TStep) (M.putSteps plan at_ N)) (cond (!(M.planOk tables (M.putSteps plan at_ N))) (some (plan, false)) (some (M.putSteps plan at_ N, true))) = _
  rw [guardD_pos (M.put_sm h_plan h6 hn h3), cond_some, cond_notb]
theorem F.impl_better_eq (tables : LTb) (plan : LS) (h_tables : Sm (Ty.sl TTable) tables) (h_plan : Sm (Ty.sl TStep) plan) (p0 : M.planOk tables plan = true) : F.impl_better tables plan = some (M.better tables plan) := by
 unfold F.impl_better M.better M.betterO
 have hg : M.Good tables plan := ⟨p0, h_plan⟩
 have key : ∀ (n : Nat) (k : Int), (8 - k).toNat = n → 1 ≤ k → whileD (F.impl_better_l0 tables plan) k = some (match firstO (M.betterAt tables plan) (rangeI k 8) with | some q => .inr q | none => .inl ()) := by
  intro n
  induction n with
  | zero =>
   intro k hk k1
   rw [whileD_step, M.first_none _ k 8 (by omega)]
   unfold F.impl_better_l0
   rw [decide_eq_false (by omega)]
   rfl
  | succ n ih =>
   intro k hk k1
   have e : F.impl_better_l0 tables plan k = some (match M.betterAt tables plan k with | some q => .inr (.inr q) | none => .inl (k + 1)) := by
    unfold F.impl_better_l0 M.betterAt
    rw [decide_eq_true (show k ≤ 7 by omega), cond_true, wrap64_id' (n := k + 1) (by omega) (by omega), then_first (M.betterTo tables plan k) (fun i hi => by
     obtain ⟨i0, i1⟩ := mem_rangeI.1 hi
     have hq := M.turned_good hg i0 i1 k
     unfold F.impl_better_l2 M.betterTo
     rw [guardD_pos p0, guardD_pos (⟨k1, by omega⟩ : 1 ≤ k ∧ k ≤ 7), letD_eq]
     cases (M.turned tables plan i k).2 with
     | false => rfl
     | true =>
      simp only [cond_true]
      rw [guardD_pos hq.2, guardD_pos (M.planOk_refs hq.1), letD_eq])]
    cases firstO (M.betterTo tables plan k) (rangeI 0 (plan.length : Int)) <;> rfl
   rw [whileD_step, M.first_range _ k 8 (by omega), e]
   cases M.betterAt tables plan k with
   | some q => rfl
   | none => exact ih (k + 1) (by omega) (by omega)
 rw [key 7 1 rfl (by decide)]
 cases firstO (M.betterAt tables plan) (rangeI 1 8) <;> rfl
theorem F.impl_PlanBest_eq (tables : LTb) (plan : LS) (h_tables : Sm (Ty.sl TTable) tables) (h_plan : Sm (Ty.sl TStep) plan) : F.impl_PlanBest tables plan = some (M.planBest tables plan) := by
 unfold F.impl_PlanBest M.planBest
 cases hp : M.planOk tables plan
 ·rfl
 have hg := M.tidy_good ⟨hp, h_plan⟩
 simp only [Bool.not_true, cond_false, cond_true]
 rw [guardD_pos (M.planOk_refs hp), letD_eq]
 have key : ∀ (n : Nat) (k : Int) (p : List TStep.D), (12 - k).toNat = n → M.Good tables p → brk1D (eachD (F.impl_PlanBest_l0 tables plan) (rangeI k 12) p) (fun v => v) = some (M.bestRun tables n p) := by
  intro n
  induction n with
  | zero =>
   intro k p hk hg
   rw [rangeI_nil (by omega)]
   rfl
  | succ n ih =>
   intro k p hk hg
   rw [rangeI_cons (by omega), eachD_cons]
   unfold M.bestRun
   have e : F.impl_PlanBest_l0 tables plan k p = some (match M.betterO tables p with | some q => .inl q | none => .inr p) := by
    unfold F.impl_PlanBest_l0 M.better
    rw [guardD_pos hg.2, guardD_pos hg.1, letD_eq]
    cases M.betterO tables p <;> rfl
   rw [e]
   cases hb : M.betterO tables p with
   | none => rfl
   | some q => exact ih (k + 1) q (by omega) (M.better_good hg hb)
 rw [key 12 0 _ rfl hg]
 rfl
theorem F.laws_FnExactPlanBest_eq (aTables : LTb) (aPlan : LS) (h_aTables : Ln (Ty.sl TTable) aTables) (h_aPlan : Ln (Ty.sl TStep) aPlan) : F.laws_FnExactPlanBest aTables aPlan = some true := by
 unfold F.laws_FnExactPlanBest
 rw [guardD_pos (by decide), guardD_pos (by decide)]
 by_cases h0 : M.szS M.szTable aTables 1048576 < 0
 ·rw [decide_eq_true h0]
  rfl
 rw [decide_eq_false h0, cond_false]
 have l0 := (M.szS_le M.szTable_le) aTables 1048576 (by decide)
 have u0 : M.szS M.szTable aTables 1048576 ≤ 1048576 := by omega
 have g0 : 0 ≤ M.szS M.szTable aTables 1048576 := by omega
 have s0 := (M.szS_tells M.szTable_le M.szTable_tells) aTables 1048576 (by decide) (by decide) g0
 rw [guardD_pos g0, guardD_pos u0]
 by_cases h1 : M.szS M.szStep aPlan (M.szS M.szTable aTables 1048576) < 0
 ·rw [decide_eq_true h1]
  rfl
 rw [decide_eq_false h1, cond_false]
 have l1 := (M.szS_le M.szStep_le) aPlan (M.szS M.szTable aTables 1048576) g0
 have u1 : M.szS M.szStep aPlan (M.szS M.szTable aTables 1048576) ≤ 1048576 := by omega
 have g1 : 0 ≤ M.szS M.szStep aPlan (M.szS M.szTable aTables 1048576) := by omega
 have s1 := (M.szS_tells M.szStep_le M.szStep_tells) aPlan (M.szS M.szTable aTables 1048576) g0 u0 g1
 have sr := M.planBest_sm (tables := aTables) s1
 generalize hr : M.planBest aTables aPlan = R at sr ⊢
 have c0 : M.count (Ty.sl TTable) aTables ≤ 3458766712843796480 := Nat.le_trans (M.count_le s0) (by decide)
 have c1 : M.count (Ty.sl TStep) aPlan ≤ 6597073960960 := Nat.le_trans (M.count_le s1) (by decide)
 have cr : M.count (Ty.sl TStep) R ≤ 6597073960960 := Nat.le_trans (M.count_le sr) (by decide)
 simp only [letD_eq, M.cut_all, M.cut_mark, M.count_mark, hr]
 simp only [decide_true, Bool.not_true, cond_false, M.refl_guard, M.guardD_true]
 repeat rw [guardD_pos (by first | exact s0 | exact s1 | exact sr | rfl | decide | exact M.sm_ln s0 | exact M.sm_ln s1 | exact M.sm_ln sr | exact M.mark_sm (by decide) _ (M.sm_ln sr) | exact M.mark_idem _ _ _ | omega | (unfold M.big; omega))]
 rw [decide_eq_false (show ¬ (1 : Int) + (M.count (Ty.sl TTable) aTables : Int) + (M.count (Ty.sl TStep) aPlan : Int) < 0 by omega), show ((false : Bool) == false) = true from rfl, cond_true]
 rw [decide_eq_false (show ¬ (1 : Int) + (M.count (Ty.sl TStep) R : Int) < 0 by omega), cond_false]
end Go.AE
