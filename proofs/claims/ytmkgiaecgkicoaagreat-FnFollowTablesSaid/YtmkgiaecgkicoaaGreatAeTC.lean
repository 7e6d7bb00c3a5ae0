/- Tables and bonds that are drawn: plain Lean. -/
import Derived.Test.YtmkgiaecgkicoaaGreatAeTB
import Derived.Test.YtmkgiaecgkicoaaGreatAeMD
namespace Go.AE
open Go Go.RowKit
set_option linter.unusedVariables false
namespace M
theorem sN {A:List ag.D} {b:ah.D} (h:0<=aJ A b):0<=b.2.1/\b.2.1<(A.length:Int)/\aJ A b<((rowsOf A b.2.1).length:Int)/\(rowsOf A b.2.1).length<=6:=by
 unfold aJ at h ⊢
 cases hk:aF A&&aN A b with
 | false=>
  rw[hk] at h
  have:(0:Int)<=-2:=h
  omega
 | true=>
  rw[hk,cond_true] at h
  rw[cond_true]
  rw[Bool.and_eq_true] at hk
  obtain⟨h0,h1⟩:=(kz hk.2).1
  exact⟨h0,h1,(xE h).1,(pZ hk.1 h0 h1).1⟩
theorem Gp {A:List ag.D} {b:ah.D} (h:0<=aJ A b) :
  (A.set b.2.1.toNat ((nth (t:=ag) A b.2.1).1,((([]++(aC ((nth (t:=ag) A b.2.1).2.1) (some ((0:Int),aJ A b))))++(aC ((nth (t:=ag) A b.2.1).2.1) (some (wrap64 (aJ A b+(1:Int)),((nth (t:=ag) A b.2.1).2.1.length:Int))))),())))=dU A b.2.1 (aJ A b):=by
 obtain⟨_,_,h2,h3⟩:=sN h
 unfold rowsOf at h2 h3
 rw[aO (n:=aJ A b+(1:Int)) (by omega) (by omega),zI,vj _ (by omega) (by omega),show (aJ A b+1).toNat=(aJ A b).toNat+1 by omega]
 rfl
theorem CJ {A:List ag.D} {b:ah.D} (h:0<=aJ A b):0<=wrap64 (aJ A b+(1:Int))/\wrap64 (aJ A b+(1:Int))<=((nth (t:=ag) A b.2.1).2.1.length:Int)/\aJ A b<=((nth (t:=ag) A b.2.1).2.1.length:Int)/\((nth (t:=ag) A b.2.1).2.1).length<=6 ∧
  (([]:List (Ty.sl aa).D).length+(aC ((nth (t:=ag) A b.2.1).2.1) (some ((0:Int),aJ A b))).length) * 24<=lim ∧
  (([]++(aC ((nth (t:=ag) A b.2.1).2.1) (some ((0:Int),aJ A b)))).length+(aC ((nth (t:=ag) A b.2.1).2.1) (some (wrap64 (aJ A b+(1:Int)),((nth (t:=ag) A b.2.1).2.1.length:Int)))).length) * 24<=lim:=by
 obtain⟨_,_,h2,h3⟩:=sN h
 unfold rowsOf at h2 h3
 have c1:=yM ((nth (t:=ag) A b.2.1).2.1) (some ((0:Int),aJ A b))
 have c2:=yM ((nth (t:=ag) A b.2.1).2.1) (some (wrap64 (aJ A b+(1:Int)),((nth (t:=ag) A b.2.1).2.1.length:Int)))
 rw[aO (n:=aJ A b+(1:Int)) (by omega) (by omega)] at c2 ⊢
 refine⟨by omega,by omega,by omega,h3,?_,?_⟩
 ·simp only[List.length_nil,lim]
  omega
 ·simp only[List.nil_append,lim]
  omega
theorem wO {P:ag.D->Prop} {A:List ag.D} {i n:Int} (h0:0<=i) (h1:i<(A.length:Int)) (h:∀t∈A,P t) (hp:∀(c:List ax.D) (r w:List (List aa.D)),P (c,(r,()))->w.Sublist r->P (c,(w,()))):∀t∈dU A i n,P t:=by
 intro t ht
 unfold dU at ht
 rcases List.mem_or_eq_of_mem_set ht with ht | rfl
 ·exact h t ht
 ·exact hp _ _ _ (h _ (cF (t:=ag) h0 h1)) (qA _ _)
theorem Ee {A:List ag.D} {b:ah.D} (h:0<=aJ A b) (d:∀t∈A,eC t) (e:∀t∈A,fu t) (f:∀t∈A,jC t) :
  (∀t∈dU A b.2.1 (aJ A b),eC t)/\(∀t∈dU A b.2.1 (aJ A b),fu t)/\(∀t∈dU A b.2.1 (aJ A b),jC t)/\(dU A b.2.1 (aJ A b)).length=A.length/\size (dU A b.2.1 (aJ A b))+1=size A:=by
 obtain⟨h0,h1,h2,h3⟩:=sN h
 refine⟨wO h0 h1 d fun c r w hp hw=>⟨hp.1,Nat.le_trans hw.length_le hp.2.1,fun x hx=>hp.2.2 x (hw.subset hx)⟩,wO h0 h1 e fun c r w hp hw=>⟨hp.1,Nat.le_trans hw.length_le hp.2.1,fun x hx=>hp.2.2 x (hw.subset hx)⟩,wO h0 h1 f fun c r w hp hw=>hp,List.length_set,sO h0 h1 h h2⟩
end M
end Go.AE
