/- Rows of plans that are made tidy: plain Lean. -/
import Derived.Test.YtiplhefglgpdoaaGreatAeMR
import Derived.Test.YtiplhefglgpdoaaGreatAeMV
namespace Go.AE
open Go Go.RowKit
set_option linter.unusedVariables false
namespace M
theorem pM (tables:List ax.D) (xs:List ah.D) (s:ah.D):cw tables (xs++[s])=cw tables xs++[bZ tables (cw tables xs) s]:=by
 unfold cw
 rw[List.foldl_append]
 rfl
theorem wo (tables:List ax.D):∀(xs:List ah.D),(cw tables xs).length=xs.length:=by
 have key:∀(xs:List ah.D) (a:List (List (List aa.D))),(xs.foldl (eW tables) a).length=a.length+xs.length:=by
  intro xs
  induction xs with
  | nil=>intro a;simp
  | cons x xs ih=>intro a;rw[List.foldl_cons,ih];unfold eW;simp;omega
 intro xs
 have:=key xs []
 unfold cw
 simpa using this
theorem Fq {k:Int} (h:two k=true):¬k=(1:Int):=fun z=>by rw[z] at h;cases h
theorem Dw {tables:List ax.D} {ahead ahead':List (List (List aa.D))} {s s':ah.D} (h1:s'.1=s.1) (h2:s'.2.2.2=s.2.2.2) (hA:¬s.1=(1:Int)->nth (t:=.sl (.sl aa)) ahead' s'.2.1=nth (t:=.sl (.sl aa)) ahead s.2.1)
  (hB:two s.1=true->nth (t:=.sl (.sl aa)) ahead' s'.2.2.1=nth (t:=.sl (.sl aa)) ahead s.2.2.1):bZ tables ahead' s'=bZ tables ahead s:=by
 unfold bZ
 rw[h1,h2]
 by_cases k1:s.1=(1:Int)
 ·rw[decide_eq_true k1]
  rfl
 rw[hA k1]
 cases ht:two s.1 with
 | true=>rw[hB ht]
 | false=>
  unfold two at ht
  obtain⟨k4,k5⟩:=Bool.or_eq_false_iff.1 ht
  rw[k4,k5]
  rfl
theorem BZ {tables:List ax.D} {ahead ahead':List (List (List aa.D))} {to:List Int} {s:ah.D} (hA:¬s.1=(1:Int)->nth (t:=.sl (.sl aa)) ahead' (nth (t:=.int .i64) to s.2.1)=nth (t:=.sl (.sl aa)) ahead s.2.1)
  (hB:two s.1=true->nth (t:=.sl (.sl aa)) ahead' (nth (t:=.int .i64) to s.2.2.1)=nth (t:=.sl (.sl aa)) ahead s.2.2.1):bZ tables ahead' (ren to s)=bZ tables ahead s:=by
 refine Dw rfl rfl (fun k1=>?_) (fun ht=>?_)
 ·rw[<-hA k1]
  unfold ren
  rw[decide_eq_false k1]
  rfl
 ·rw[<-hB ht]
  unfold ren
  rw[ht]
  rfl
theorem take_one {plan:List ah.D} {n:Nat} (h:n<plan.length):plan.take (n+1)=plan.take n++[nth (t:=ah) plan (n:Int)]:=vN (t:=ah) h
theorem BM (n:Nat):aQ 0 ((n+1:Nat):Int)=aQ 0 (n:Int)++[(n:Int)]:=by
 unfold aQ
 have e1:(((n+1:Nat):Int)-0).toNat=n+1:=by omega
 have e2:((n:Int)-0).toNat=n:=by omega
 rw[e1,e2,List.range_succ,List.map_append]
 simp
end M
end Go.AE
