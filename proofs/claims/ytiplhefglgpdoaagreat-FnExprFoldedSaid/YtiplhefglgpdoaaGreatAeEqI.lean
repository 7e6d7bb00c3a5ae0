/- Tables and bonds. -/
import Derived.Test.YtiplhefglgpdoaaGreatAeEqH
namespace Go.AE
open Go Go.RowKit
set_option linter.unusedSimpArgs false
set_option linter.unusedVariables false
theorem inR_of {n a b : Int} (h : M.inR n a b = true) : a ≤ n ∧ n ≤ b := by
 unfold M.inR at h
 simp only [Bool.and_eq_true, decide_eq_true_eq] at h
 exact h
theorem row_len {tables : List TTable.D} (h : M.tablesOk tables = true) {t : TTable.D} (ht : t ∈ tables) {r : List TValue.D} (hr : r ∈ t.2.1) : r.length = t.1.length := by
 unfold M.tablesOk at h
 rw [Bool.and_eq_true, List.all_eq_true] at h
 have h2 := h.2 t ht
 unfold M.tableOk M.rowsOk at h2
 rw [Bool.and_eq_true, Bool.and_eq_true, List.all_eq_true] at h2
 have h3 := h2.2.2 r hr
 unfold M.rowFits at h3
 simp only [Bool.and_eq_true, decide_eq_true_eq] at h3
 exact h3.2.2.1
end Go.AE
