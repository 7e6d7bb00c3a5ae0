/- A new shelf: plain Lean. -/
import Derived.Test.YtgfopdekfopmcaaGreatAeMN
namespace Go.AE
open Go Go.RowKit
set_option linter.unusedVariables false
def M.cv (tables:List aj.D):aE.D:=cond (M.bt tables) (tables,(List.replicate tables.length (0:Int),([],()))) ([],([],([],())))
def M.kH (s:aE.D):Bool:=M.bt s.1&&(decide ((s.2.1.length:Int)=(s.1.length:Int))&&s.2.1.all fun m=>M.inR m 0 1000)
namespace M
theorem vA {tables:List aj.D} (h:Sm (.sl aj) tables):Sm aE (cv tables):=by
 unfold cv
 cases bt tables with
 | false=>exact⟨lK _,lK _,lK _,trivial⟩
 | true=>exact⟨h,⟨by show (List.replicate tables.length (0:Int)).length<=1048576;rw[List.length_replicate];exact h.1,fun _ _=>trivial⟩,lK _,trivial⟩
theorem mL (tables:List aj.D):(cv tables).2.2.1=[]:=by
 unfold cv
 cases bt tables<;>rfl
theorem vF {tables:List aj.D} (h:bt tables=true):kH (cv tables)=true:=by
 unfold kH cv
 rw[h,cond_true]
 simp only[h,List.length_replicate,decide_true,Bool.true_and]
 refine List.all_eq_true.2 fun m hm=>?_
 rw[List.eq_of_mem_replicate hm]
 rfl
theorem sg {ρ:Type} {f:Int->Option (Sum Int (Sum Unit ρ))} {n:Nat} (hn:n<=1048576) (h:∀v:Int,0<=v->v<(n:Int)->f v=some (.inl (wrap64 (v+(1:Int))))) (he:f (n:Int)=some (.inr (.inl ()))) :
  ∀(d k:Nat),k+d=n->bM f (k:Int)=some (.inl ())
 | 0,k,hk=>by
  rw[show k=n by omega,fC,he]
  rfl
 | d+1,k,hk=>by
  rw[fC,h (k:Int) (by omega) (by omega),eT,aO (by omega) (by omega)]
  exact sg hn h he d (k+1) (by omega)
end M
end Go.AE
