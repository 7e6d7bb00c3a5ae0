/- Tables and bonds. -/
import Derived.Test.YtiplhefglgpdoaaGreatAeEqH
namespace Go.AE
open Go Go.RowKit
set_option linter.unusedSimpArgs false
set_option linter.unusedVariables false
theorem Bm {tables:List ax.D} (h:M.bN tables=true) {t:ax.D} (ht:t∈tables) {r:List aa.D} (hr:r∈t.2.1):r.length=t.1.length:=by
 unfold M.bN at h
 rw[Bool.and_eq_true,List.all_eq_true] at h
 have h2:=h.2 t ht
 unfold M.cY M.gb at h2
 rw[Bool.and_eq_true,Bool.and_eq_true,List.all_eq_true] at h2
 have h3:=h2.2.2 r hr
 unfold M.cA at h3
 simp only[Bool.and_eq_true,decide_eq_true_eq] at h3
 exact h3.2.2.1
end Go.AE
