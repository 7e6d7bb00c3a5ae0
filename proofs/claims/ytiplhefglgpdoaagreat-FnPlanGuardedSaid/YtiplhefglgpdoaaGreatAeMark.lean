/- What a law writes into slices, to see whose they are: plain Lean. -/
import Derived.Test.YtiplhefglgpdoaaGreatAeLem
namespace Go.AE
open Go Go.RowKit
set_option linter.unusedVariables false
namespace M
theorem AY {t:Ty} {a:List t.D} {i:Int} {z:t.D} (h0:0<=i) (h1:i<(a.length:Int)):nth (t:=t) (a.set i.toNat z) i=z:=by
 have:i.toNat<a.length:=by omega
 unfold nth
 rw[List.getD_eq_getElem?_getD,List.getElem?_set_self this]
 rfl
end M
end Go.AE
