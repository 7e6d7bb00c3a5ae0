/- What holds of the columns of plans that are drawn. -/
import Derived.Test.YtiplhefglgpdoaaGreatAeMD
namespace Go.AE
open Go Go.RowKit
set_option linter.unusedVariables false
namespace M
theorem Be {tables:List ax.D} {ahead:List (List ag.D)} {s:ah.D} {c:List ag.D} (ht:∀t∈tables,lJ t) (ha:∀x∈ahead,x.length<=6) (h:bJ tables ahead s=some c):c.length<=6:=by
 have hn:=fun i=>lE ha i
 unfold bJ at h
 obtain⟨_,h⟩:=aR h
 cases h1:decide (s.1=(1:Int)) with
 | true=>
  rw[h1,cond_true] at h
  obtain⟨_,h⟩:=aR h
  cases h
  exact(tC (t:=ax) (P:=lJ) ht ⟨Nat.zero_le _,Nat.zero_le _,fun _ h=>by cases h⟩ _).1
 | false=>
  rw[h1,cond_false] at h
  obtain⟨_,h⟩:=aR h
  cases h2:decide (s.1=(2:Int)) with
  | true=>
   rw[h2,cond_true] at h
   obtain⟨_,h⟩:=aR h
   cases h
   exact hn _
  | false=>
   rw[h2,cond_false] at h
   cases h3:decide (s.1=(3:Int)) with
   | true=>
    rw[h3,cond_true] at h
    obtain⟨hb,h⟩:=aR h
    cases h
    have:=of_decide_eq_true (Bool.and_eq_true_iff.1 hb).2
    rw[List.length_map]
    omega
   | false=>
    rw[h3,cond_false] at h
    cases h4:decide (s.1=(4:Int)) with
    | true=>
     rw[h4,cond_true] at h
     obtain⟨hb,h⟩:=aR h
     cases h
     have:=of_decide_eq_true (Bool.and_eq_true_iff.1 hb).1
     omega
    | false=>
     rw[h4,cond_false] at h
     cases h5:decide (s.1=(5:Int)) with
     | true=>
      rw[h5,cond_true] at h
      unfold both at h
      obtain⟨_,h⟩:=aR h
      rw[kG h]
      exact hn _
     | false=>
      rw[h5,cond_false] at h
      obtain⟨_,h⟩:=aR h
      cases h
      exact hn _
theorem Az {tables:List ax.D} (ht:∀t∈tables,lJ t):∀(xs:List ah.D) (st st':eL),(∀x∈st.1,x.length<=6)->cT (br tables) xs st=some st'->∀x∈st'.1,x.length<=6
 | [],st,st',ha,h=>by cases h;exact ha
 | x::xs,st,st',ha,h=>by
  unfold cT at h
  cases hp:br tables st x with
  | none=>rw[hp] at h;cases h
  | some st1=>
   rw[hp] at h
   obtain⟨c,hc,_,rfl⟩:=iF hp
   refine Az ht xs _ st' (fun y hy=>?_) h
   rcases List.mem_append.1 hy with hy | hy
   ·exact ha y hy
   ·rw[List.mem_singleton.1 hy]
    exact Be ht ha hc
theorem wk {tables:List ax.D}:∀(xs:List ah.D) (st st':eL),cT (br tables) xs st=some st'->st'.1.length=st.1.length+xs.length
 | [],st,st',h=>by cases h;exact(Nat.add_zero _).symm
 | x::xs,st,st',h=>by
  unfold cT at h
  cases hp:br tables st x with
  | none=>rw[hp] at h;cases h
  | some st1=>
   rw[hp] at h
   obtain⟨c,_,_,rfl⟩:=iF hp
   rw[wk xs _ st' h]
   simp
   omega
theorem Cd {tables:List ax.D} {plan:List ah.D} {r:List (List ag.D)×Bool} (e:r=cQ tables plan) (h:(!r.2)=false):r.1.length=plan.length:=by
 subst e
 unfold cQ iL at *
 cases hr:cT (br tables) plan ([],[]) with
 | none=>rw[hr] at h;cases h
 | some st=>
  have:=wk plan _ st hr
  simpa using this
theorem AL {tables:List ax.D} {plan:List ah.D} {r:List (List ag.D)×Bool} (ht:∀t∈tables,lJ t) (e:r=cQ tables plan):∀c∈r.1,c.length<=6:=by
 subst e
 unfold cQ iL
 cases hr:cT (br tables) plan ([],[]) with
 | none=>intro c h;cases h
 | some st=>exact Az ht plan ([],[]) st (fun _ h=>by cases h) hr
end M
end Go.AE
