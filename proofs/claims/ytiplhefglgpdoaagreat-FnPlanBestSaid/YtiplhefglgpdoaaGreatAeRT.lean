/- Plans that are turned yield the same rows: plain Lean. -/
import Derived.Test.YtiplhefglgpdoaaGreatAeRB
import Derived.Test.YtiplhefglgpdoaaGreatAeMV
import Derived.Test.YtiplhefglgpdoaaGreatAeMR
section
namespace Go.AE
open Go Go.RowKit
set_option linter.unusedVariables false
namespace M
abbrev TRs:Ty:=.sl (.sl af)
theorem vA (tables:List az.D):∀(ys:List aa.D) (all:List (List (List af.D))) {k:Int},0<=k->k<(all.length:Int)->nth (t:=TRs) (ys.foldl (eO tables) all) k=nth (t:=TRs) all k
 | [],_,_,_,_=>rfl
 | y::ys,all,k,k0,k1=>by
  rw[List.foldl_cons,vA tables ys _ k0 (by unfold eO;simp;omega)]
  exact dX (t:=TRs) k0 k1
theorem ow (tables:List az.D) (xs ys:List aa.D) {k:Int} (k0:0<=k) (k1:k<(xs.length:Int)):nth (t:=TRs) (bZ tables (xs++ys)) k=nth (t:=TRs) (bZ tables xs) k:=by
 unfold bZ
 rw[List.foldl_append]
 refine vA tables ys _ k0 ?_
 have:=oE tables xs
 unfold bZ at this
 rw[this]
 exact k1
theorem Dd {tables:List az.D} {a b:List (List (List af.D))} {s:aa.D} {n:Int} (hs:gi n s) (h:∀k:Int,0<=k->k<n->nth (t:=TRs) a k=nth (t:=TRs) b k):bQ tables a s=bQ tables b s:=
 tU rfl rfl (fun k1=>h _ (hs k1).1.1 (hs k1).1.2) (fun ht=>h _ (hs (nJ ht)).2.1 (hs (nJ ht)).2.2)
theorem wo {tables:List az.D} {plan:List aa.D} (hrf:jS plan) {i:Int} (i0:0<=i) (i1:i<(plan.length:Int)) :
  nth (t:=TRs) (bZ tables plan) i=bQ tables (bZ tables plan) (nth (t:=aa) plan i):=by
 have hk:i.toNat<plan.length:=by omega
 have e:plan=(plan.take i.toNat++[nth (t:=aa) plan i])++plan.drop (i.toNat+1):=by
  have:=take_one hk
  rw[show ((i.toNat:Nat):Int)=i by omega] at this
  rw[<-this,List.take_append_drop]
 have hl:(plan.take i.toNat).length=i.toNat:=by rw[List.length_take];omega
 have h1:nth (t:=TRs) (bZ tables plan) i=nth (t:=TRs) (bZ tables (plan.take i.toNat++[nth (t:=aa) plan i])) i:=by
  conv=>lhs;rw[e]
  exact ow tables _ _ i0 (by rw[List.length_append,hl];simp;omega)
 rw[h1,qx,ir (t:=TRs) (by rw[oE,hl];omega)]
 refine Dd (hrf.2 i i0 i1) fun k k0 k1=>?_
 have h2:nth (t:=TRs) (bZ tables plan) k=nth (t:=TRs) (bZ tables (plan.take i.toNat)) k:=by
  conv=>lhs;rw[show plan=plan.take i.toNat++plan.drop i.toNat by rw[List.take_append_drop]]
  exact ow tables _ _ k0 (by rw[hl];omega)
 exact h2.symm
theorem GH {tables:List az.D} {plan:List aa.D} (hp:aQ tables plan=true) {i:Int} (i0:0<=i) (i1:i<(plan.length:Int)):∃a c,bF tables a (nth (t:=aa) plan i)=some c:=by
 unfold aQ at hp
 have h:=(Bool.and_eq_true_iff.1 hp).1
 unfold aX at h
 cases hr:fO tables plan with
 | none=>rw[hr] at h;cases h
 | some st=>
  obtain⟨a,h1,_,_⟩:=uY plan ([],[]) st hr i i0 i1
  exact⟨a,_,h1⟩
theorem CN {t:Ty} {xs ys:List t.D} {n i:Int} (h:n=(xs.length:Int)) (h0:0<=i):nth (t:=t) (xs++ys) (n+i)=nth (t:=t) ys i:=by
 subst h
 unfold nth
 rw[List.getD_eq_getElem?_getD,List.getD_eq_getElem?_getD,List.getElem?_append_right (by omega)]
 rw[show ((xs.length:Int)+i).toNat-xs.length=i.toNat by omega]
theorem Fj {t:Ty} {xs:List t.D} {n:Nat} {i:Int} (h0:0<=i) (h1:i<(n:Int)):nth (t:=t) (xs.take n) i=nth (t:=t) xs i:=by
 unfold nth
 rw[List.getD_eq_getElem?_getD,List.getD_eq_getElem?_getD,List.getElem?_take_of_lt (by omega)]
theorem JK {t:Ty} {xs:List t.D} {n:Nat} {i:Int} (h0:0<=i):nth (t:=t) (xs.drop n) i=nth (t:=t) xs ((n:Int)+i):=by
 unfold nth
 rw[List.getD_eq_getElem?_getD,List.getD_eq_getElem?_getD,List.getElem?_drop]
 rw[show ((n:Int)+i).toNat=n+i.toNat by omega]
theorem Jr {f:aa.D->aa.D} {xs:List aa.D} {i:Int} (h0:0<=i) (h1:i<(xs.length:Int)):nth (t:=aa) (xs.map f) i=f (nth (t:=aa) xs i):=by
 rw[iq (t:=aa) h0 (by rw[List.length_map];exact h1),iq (t:=aa) h0 h1,List.getElem_map]
section
variable {plan new:List aa.D} {a:Nat} (ha:a<plan.length)
include ha
theorem wk:(bC plan (a:Int) new).length=plan.length+new.length-1:=by
 unfold bC
 simp only[List.length_append,List.length_take,List.length_map,List.length_drop,Int.toNat_natCast]
 omega
theorem ID {k:Int} (k0:0<=k) (k1:k<(a:Int)):nth (t:=aa) (bC plan (a:Int) new) k=nth (t:=aa) plan k:=by
 unfold bC
 have hl:(plan.take (a:Int).toNat).length=a:=by rw[List.length_take];omega
 rw[List.append_assoc,dX (t:=aa) k0 (by rw[hl];exact k1)]
 exact Fj (t:=aa) k0 (by omega)
theorem Ht {i:Int} (i0:0<=i) (i1:i<(new.length:Int)):nth (t:=aa) (bC plan (a:Int) new) ((a:Int)+i)=nth (t:=aa) new i:=by
 unfold bC
 have hl:(plan.take (a:Int).toNat).length=a:=by rw[List.length_take];omega
 rw[List.append_assoc,CN (t:=aa) (by rw[hl]) i0]
 exact dX (t:=aa) i0 i1
theorem Co {k:Int} (k0:(a:Int)<k) (k1:k<(plan.length:Int)):nth (t:=aa) (bC plan (a:Int) new) (k+((new.length:Int)-1))=shift (a:Int) (wrap64 ((new.length:Int)-1)) (nth (t:=aa) plan k):=by
 unfold bC
 have hl:(plan.take (a:Int).toNat++new).length=a+new.length:=by rw[List.length_append,List.length_take];omega
 rw[show k+((new.length:Int)-1)=((a+new.length:Nat):Int)+(k-a-1) by omega,CN (t:=aa) (by rw[hl]) (by omega),Jr (by omega) (by rw[List.length_drop];omega),JK (t:=aa) (by omega)]
 rw[show (((a:Int).toNat+1:Nat):Int)+(k-a-1)=k by omega]
theorem Hv {tables:List az.D} {k:Int} (k0:0<=k) (k1:k<(a:Int)):nth (t:=TRs) (bZ tables (bC plan (a:Int) new)) k=nth (t:=TRs) (bZ tables plan) k:=by
 have hl:(plan.take a).length=a:=by rw[List.length_take];omega
 have h1:nth (t:=TRs) (bZ tables plan) k=nth (t:=TRs) (bZ tables (plan.take a)) k:=by
  conv=>lhs;rw[show plan=plan.take a++plan.drop a by rw[List.take_append_drop]]
  exact ow tables _ _ k0 (by rw[hl];exact k1)
 rw[h1]
 unfold bC
 rw[List.append_assoc]
 exact ow tables _ _ k0 (by show k<((plan.take a).length:Int);rw[hl];exact k1)
theorem FM {tables:List az.D} (hrf:jS plan) (hrq:jS (bC plan (a:Int) new)) (h6:plan.length<=6) (hn:0<new.length) (h3:new.length<=3)
  (hB:nth (t:=TRs) (bZ tables (bC plan (a:Int) new)) ((a:Int)+((new.length:Int)-1))=nth (t:=TRs) (bZ tables plan) (a:Int)) :
  ∀(n:Nat) (k:Int),k=(a:Int)+n->k<(plan.length:Int)->nth (t:=TRs) (bZ tables (bC plan (a:Int) new)) (k+((new.length:Int)-1))=nth (t:=TRs) (bZ tables plan) k:=by
 intro n
 induction n using Nat.strongRecOn with
 | ind n ih=>
  intro k hk k1
  by_cases hn0:n=0
  ·rw[show k=(a:Int) by omega]
   exact hB
  have hak:(a:Int)<k:=by omega
  have hql:=wk (new:=new) ha
  rw[wo hrq (by omega) (by omega),wo hrf (by omega) k1,Co ha hak k1]
  have hin:=hrf.2 k (by omega) k1
  generalize nth (t:=aa) plan k=s at *
  have hw:wrap64 ((new.length:Int)-1)=(new.length:Int)-1:=aH (by omega) (by omega)
  have to:∀z:Int,0<=z->z<k->nth (t:=TRs) (bZ tables (bC plan (a:Int) new)) (cond (decide ((a:Int)<=z)) (wrap64 (z+((new.length:Int)-1))) z)=nth (t:=TRs) (bZ tables plan) z:=by
   intro z z0 z1
   by_cases hz:(a:Int)<=z
   ·rw[decide_eq_true hz,cond_true,aH (by omega) (by omega)]
    exact ih (z-a).toNat (by omega) z (by omega) (by omega)
   ·rw[decide_eq_false hz,cond_false]
    exact Hv ha z0 (by omega)
  rw[hw]
  refine tU rfl rfl (fun q=>?_) (fun q=>?_)
  ·have:=to _ (hin q).1.1 (hin q).1.2
   rw[<-this]
   unfold shift
   simp only
   rw[decide_eq_false q,Bool.not_false,Bool.true_and]
  ·have q1:=nJ q
   have:=to _ (hin q1).2.1 (hin q1).2.2
   rw[<-this]
   unfold shift
   simp only
   rw[q,Bool.true_and]
end
theorem rX {s j:aa.D} {a rule:Int} (h:0<(fj s j a rule).length) :
  (s.1=(2:Int)/\j.1=(2:Int)/\fj s j a rule=[mkS 2 j.2.1 0 (gv j.2.2.2.2.1 s.2.2.2.2.1) []]) ∨
  (s.1=(2:Int)/\j.1=(4:Int)/\fj s j a rule=[mkS 4 j.2.1 j.2.2.1 (gv j.2.2.2.2.1 s.2.2.2.2.1) []]) ∨
  (s.1=(2:Int)/\j.1=(3:Int)/\fj s j a rule=[mkS 2 j.2.1 0 (mG s.2.2.2.2.1 j.2.2.2.2.2.1) [],mkS 3 a 0 [] j.2.2.2.2.2.1]) ∨
  (s.1=(2:Int)/\j.1=(6:Int)/\fj s j a rule=[mkS 2 j.2.1 0 s.2.2.2.2.1 [],mkS 6 a 0 [] []]) ∨
  (s.1=(2:Int)/\j.1=(5:Int)/\fj s j a rule=[mkS 2 j.2.1 0 s.2.2.2.2.1 [],mkS 2 j.2.2.1 0 s.2.2.2.2.1 [],mkS 5 a (wrap64 (a+(1:Int))) [] []]) ∨
  (s.1=(3:Int)/\j.1=(3:Int)/\fj s j a rule=[mkS 3 j.2.1 0 [] (s.2.2.2.2.2.1.map fun z=>nth (t:=.int .i64) j.2.2.2.2.2.1 z)]) ∨
  (s.1=(6:Int)/\j.1=(6:Int)/\fj s j a rule=[mkS 6 j.2.1 0 [] []]):=by
 have pick:∀{p q:Prop} [Decidable p] [Decidable q] {l:List aa.D},0<(cond (decide p&&decide q) l []).length->p/\q/\cond (decide p&&decide q) l []=l:=by
  intro p q _ _ l h
  cases hb:(decide p&&decide q) with
  | false=>rw[hb] at h;simp at h
  | true=>
   obtain⟨h1,h2⟩:=Bool.and_eq_true_iff.1 hb
   exact⟨of_decide_eq_true h1,of_decide_eq_true h2,rfl⟩
 unfold fj at h ⊢
 by_cases c1:rule=1
 ·rw[decide_eq_true c1,cond_true] at h ⊢
  exact .inl (pick h)
 rw[decide_eq_false c1,cond_false] at h ⊢
 by_cases c2:rule=2
 ·rw[decide_eq_true c2,cond_true] at h ⊢
  exact .inr (.inl (pick h))
 rw[decide_eq_false c2,cond_false] at h ⊢
 by_cases c3:rule=3
 ·rw[decide_eq_true c3,cond_true] at h ⊢
  exact .inr (.inr (.inl (pick h)))
 rw[decide_eq_false c3,cond_false] at h ⊢
 by_cases c4:rule=4
 ·rw[decide_eq_true c4,cond_true] at h ⊢
  exact .inr (.inr (.inr (.inl (pick h))))
 rw[decide_eq_false c4,cond_false] at h ⊢
 by_cases c5:rule=5
 ·rw[decide_eq_true c5,cond_true] at h ⊢
  exact .inr (.inr (.inr (.inr (.inl (pick h)))))
 rw[decide_eq_false c5,cond_false] at h ⊢
 by_cases c6:rule=6
 ·rw[decide_eq_true c6,cond_true] at h ⊢
  exact .inr (.inr (.inr (.inr (.inr (.inl (pick h))))))
 rw[decide_eq_false c6,cond_false] at h ⊢
 by_cases c7:rule=7
 ·rw[decide_eq_true c7,cond_true] at h ⊢
  exact .inr (.inr (.inr (.inr (.inr (.inr (pick h))))))
 rw[decide_eq_false c7,cond_false] at h
 exact absurd h (Nat.lt_irrefl 0)
section
variable {tables:List az.D} {R:List (List (List af.D))}
theorem mX {s:aa.D} (h:s.1=(2:Int)):bQ tables R s=List.filter (fun r=>holds r s.2.2.2.2.1) (nth (t:=TRs) R s.2.1):=by unfold bQ;rw[h];rfl
theorem zD {s:aa.D} (h:s.1=(3:Int)):bQ tables R s=List.map (fun r=>taken r s.2.2.2.2.2.1) (nth (t:=TRs) R s.2.1):=by unfold bQ;rw[h];rfl
theorem Jd {s:aa.D} (h:s.1=(4:Int)):bQ tables R s=List.flatMap (fun r=>joined s.2.2.2.2.1 r (nth (t:=TRs) R s.2.2.1)) (nth (t:=TRs) R s.2.1):=by unfold bQ;rw[h];rfl
theorem JO {s:aa.D} (h:s.1=(5:Int)):bQ tables R s=(nth (t:=TRs) R s.2.1++nth (t:=TRs) R s.2.2.1:List (List af.D)):=by unfold bQ;rw[h];rfl
theorem zW {s:aa.D} (h:s.1=(6:Int)):bQ tables R s=cX (nth (t:=TRs) R s.2.1):=by unfold bQ;rw[h];rfl
end
theorem HG {tables:List az.D} {R R':List (List (List af.D))} {s j:aa.D} {a rule:Int} (ha:0<=a) (ha2:a<=1000) (hn:0<(fj s j a rule).length)
  (hnew:∀i:Int,0<=i->i<((fj s j a rule).length:Int)->nth (t:=TRs) R' (a+i)=bQ tables R' (nth (t:=aa) (fj s j a rule) i)) (hrj:nth (t:=TRs) R s.2.1=bQ tables R j) (hji:gi s.2.1 j)
  (eA:∀z:Int,0<=z/\z<s.2.1->nth (t:=TRs) R' z=nth (t:=TRs) R z) (ks:s.1=(2:Int)->∃c,bE c s.2.2.2.2.1=3) (kj:j.1=(2:Int)\/j.1=(4:Int)->∃c,bE c j.2.2.2.2.1=3)
  (hs2:s.1=(2:Int)->j.1=(3:Int)->pE s.2.2.2.2.1 j.2.2.2.2.2.1.length) (hs3:s.1=(3:Int)->j.1=(3:Int)->∀z∈s.2.2.2.2.2.1,0<=z/\z<(j.2.2.2.2.2.1.length:Int)) :
  nth (t:=TRs) R' (a+(((fj s j a rule).length:Int)-1))=bQ tables R s:=by
 rcases rX hn with⟨k1,k2,hN⟩ | ⟨k1,k2,hN⟩ | ⟨k1,k2,hN⟩ | ⟨k1,k2,hN⟩ | ⟨k1,k2,hN⟩ | ⟨k1,k2,hN⟩ | ⟨k1,k2,hN⟩<;>rw[hN] at hnew ⊢<;>clear hN hn<;>have hj:=hji (by rw[k2];decide)<;>have e0:=hnew 0 (by decide) (by simp)<;>rw[Int.add_zero] at e0
 ·obtain⟨c,kc⟩:=ks k1
  obtain⟨d,kd⟩:=kj (.inl k2)
  show nth (t:=TRs) R' (a+0)=_
  rw[Int.add_zero,e0,mX k1,hrj,mX k2]
  show List.filter (fun r=>holds r (gv j.2.2.2.2.1 s.2.2.2.2.1)) (nth (t:=TRs) R' j.2.1)=_
  rw[eA _ hj.1,List.filter_filter]
  congr 1
  funext r
  rw[Ay kd kc,Bool.and_comm]
 ·obtain⟨c,kc⟩:=ks k1
  obtain⟨d,kd⟩:=kj (.inr k2)
  show nth (t:=TRs) R' (a+0)=_
  rw[Int.add_zero,e0,mX k1,hrj,Jd k2,BH kd kc]
  show List.flatMap (fun r=>joined (gv j.2.2.2.2.1 s.2.2.2.2.1) r (nth (t:=TRs) R' j.2.2.1)) (nth (t:=TRs) R' j.2.1)=_
  rw[eA _ hj.1,eA _ hj.2]
 ·have e1:=hnew 1 (by decide) (by simp)
  show nth (t:=TRs) R' (a+1)=_
  rw[e1,mX k1,hrj,zD k2]
  show List.map (fun r=>taken r j.2.2.2.2.2.1) (nth (t:=TRs) R' a)=_
  rw[e0]
  show List.map (fun r=>taken r j.2.2.2.2.2.1) (List.filter (fun r=>holds r (mG s.2.2.2.2.1 j.2.2.2.2.2.1)) (nth (t:=TRs) R' j.2.1))=_
  rw[eA _ hj.1,List.filter_map]
  congr 2
  funext r
  exact Et (hs2 k1 k2)
 ·have e1:=hnew 1 (by decide) (by simp)
  show nth (t:=TRs) R' (a+1)=_
  rw[e1,mX k1,hrj,zW k2,<-Fm]
  show cX (nth (t:=TRs) R' a)=_
  rw[e0]
  show cX (List.filter (fun r=>holds r s.2.2.2.2.1) (nth (t:=TRs) R' j.2.1))=_
  rw[eA _ hj.1]
 ·have e1:=hnew 1 (by decide) (by simp)
  have e2:=hnew 2 (by decide) (by simp)
  show nth (t:=TRs) R' (a+2)=_
  rw[e2,mX k1,hrj,JO k2,List.filter_append]
  show (nth (t:=TRs) R' a++nth (t:=TRs) R' (wrap64 (a+1)):List (List af.D))=_
  rw[aH (by omega) (by omega),e0,e1]
  show (List.filter (fun r=>holds r s.2.2.2.2.1) (nth (t:=TRs) R' j.2.1)++List.filter (fun r=>holds r s.2.2.2.2.1) (nth (t:=TRs) R' j.2.2.1):List (List af.D))=_
  rw[eA _ hj.1,eA _ hj.2]
 ·show nth (t:=TRs) R' (a+0)=_
  rw[Int.add_zero,e0,zD k1,hrj,zD k2]
  show List.map (fun r=>taken r (s.2.2.2.2.2.1.map fun z=>nth (t:=.int .i64) j.2.2.2.2.2.1 z)) (nth (t:=TRs) R' j.2.1)=_
  rw[eA _ hj.1,List.map_map]
  congr 1
  funext r
  exact(Ef (hs3 k1 k2)).symm
 ·show nth (t:=TRs) R' (a+0)=_
  rw[Int.add_zero,e0,zW k1,hrj,zW k2,Iq]
  show cX (nth (t:=TRs) R' j.2.1)=_
  rw[eA _ hj.1]
theorem CM {s j:aa.D} {a rule:Int} (h:0<(fj s j a rule).length):¬s.1=(1:Int):=by
 rcases rX h with⟨k1,_⟩ | ⟨k1,_⟩ | ⟨k1,_⟩ | ⟨k1,_⟩ | ⟨k1,_⟩ | ⟨k1,_⟩ | ⟨k1,_⟩<;>rw[k1]<;>decide
theorem yA {tables:List az.D} {plan:List aa.D} {a:Nat} {rule:Int} (ha:a<plan.length) (hp:aQ tables plan=true) (hs:Sm (.sl aa) plan) (h:(eR tables plan (a:Int) rule).2=true) :
  aQ tables (eR tables plan (a:Int) rule).1=true/\cB tables (eR tables plan (a:Int) rule).1=cB tables plan:=by
 unfold eR at h ⊢
 cases h0:decide (((bA plan (a:Int) rule).length:Int)=(0:Int)) with
 | true=>rw[h0] at h;cases h
 | false=>
  rw[h0] at h
  simp only[cond_false] at h ⊢
  have hn:0<(bA plan (a:Int) rule).length:=by
   have:=of_decide_eq_false h0
   omega
  cases hq:aQ tables (bC plan (a:Int) (bA plan (a:Int) rule)) with
  | false=>rw[hq] at h;cases h
  | true=>
   simp only[cond_true]
   refine⟨hq,?_⟩
   have hrf:=cz hp
   have hrq:=cz hq
   have h6:=ja hp
   have h3:=sU (nth (t:=aa) plan (a:Int)) (nth (t:=aa) plan (nth (t:=aa) plan (a:Int)).2.1) (a:Int) rule
   have hql:=wk (new:=bA plan (a:Int) rule) ha
   obtain⟨_,hs2,hs3⟩:=(nZ hp hs (at_:=(a:Int)) (by omega) (by omega)).1.2
   have hin:=hrf.2 (a:Int) (by omega) (by omega) (CM hn)
   obtain⟨qa,ca,hca⟩:=GH hp (i:=(a:Int)) (by omega) (by omega)
   have hja:(nth (t:=aa) plan (a:Int)).2.1<(plan.length:Int):=Int.lt_trans hin.1.2 (by omega)
   obtain⟨qj,cj,hcj⟩:=GH hp hin.1.1 hja
   have hB:nth (t:=TRs) (bZ tables (bC plan (a:Int) (bA plan (a:Int) rule))) ((a:Int)+(((bA plan (a:Int) rule).length:Int)-1))=nth (t:=TRs) (bZ tables plan) (a:Int):=by
    rw[wo hrf (i:=(a:Int)) (by omega) (by omega)]
    refine HG (by omega) (by omega) hn (fun i i0 i1=>?_) (wo hrf hin.1.1 hja) (hrf.2 _ hin.1.1 hja) (fun z hz=>Hv ha hz.1 (Int.lt_trans hz.2 hin.1.2)) (fun k=>⟨_,qT hca k⟩) (fun k=>?_) hs2 hs3
    ·rw[wo hrq (by omega) (by rw[hql];unfold bA at *;omega),Ht (new:=bA plan (a:Int) rule) ha i0 i1]
     rfl
    ·rcases k with k | k
     ·exact⟨_,qT hcj k⟩
     ·exact CY hcj k
   have hend:=FM ha hrf hrq h6 hn h3 hB (plan.length-1-a) ((plan.length:Int)-1) (by omega) (by omega)
   unfold cB
   rw[hq,hp,hql]
   simp only[cond_true]
   rw[show ((plan.length+(bA plan (a:Int) rule).length-1:Nat):Int)-1=(plan.length:Int)-1+(((bA plan (a:Int) rule).length:Int)-1) by omega]
   exact hend
end M
end Go.AE
end
section
namespace Go.AE
open Go Go.RowKit
set_option linter.unusedVariables false
namespace M
def Good (tables:List az.D) (plan:List aa.D):Prop:=aQ tables plan=true/\Sm (.sl aa) plan
theorem sj {tables:List az.D} {plan:List aa.D} (h:Good tables plan) {at_:Int} (h0:0<=at_) (h1:at_<(plan.length:Int)) (rule:Int):Good tables (eR tables plan at_ rule).1:=by
 refine⟨?_,Ik h.1 h.2 h0 h1 rule⟩
 unfold eR
 cases decide (((bA plan at_ rule).length:Int)=(0:Int))
 ·cases hq:aQ tables (bC plan at_ (bA plan at_ rule))
  ·exact h.1
  ·exact hq
 ·exact h.1
theorem kL {tables:List az.D} {plan:List aa.D} (h:Good tables plan):Good tables (tidy plan):=⟨DN h.1,Kd h.2⟩
theorem kR {α β:Type} {p:α->Option β} {r:β}:∀{xs:List α},gr p xs=some r->∃x∈xs,p x=some r
 | [],h=>by cases h
 | x::xs,h=>by
  unfold gr at h
  cases hp:p x with
  | none=>
   rw[hp] at h
   obtain⟨y,hy,e⟩:=kR h
   exact⟨y,List.mem_cons_of_mem _ hy,e⟩
  | some s=>
   rw[hp] at h
   cases h
   exact⟨x,List.mem_cons_self,hp⟩
theorem lI {tables:List az.D} {plan q:List aa.D} (h:Good tables plan) (hb:fy tables plan=some q):Good tables q:=by
 obtain⟨rule,_,h1⟩:=kR hb
 obtain⟨at_,hm,h2⟩:=kR h1
 obtain⟨a0,a1⟩:=fH.1 hm
 unfold gD at h2
 cases ht:(eR tables plan at_ rule).2 with
 | false=>rw[ht] at h2;cases h2
 | true=>
  rw[ht] at h2
  cases h2
  exact kL (sj h a0 a1 rule)
theorem xV {tables:List az.D}:∀(n:Nat) {plan:List aa.D},Good tables plan->Good tables (iS tables n plan)
 | 0,_,h=>h
 | n+1,plan,h=>by
  unfold iS
  cases hb:fy tables plan with
  | none=>exact h
  | some q=>exact xV n (lI h hb)
theorem Ec {tables:List az.D} {plan:List aa.D} (h:Sm (.sl aa) plan):Sm (.sl aa) (cV tables plan):=by
 unfold cV
 cases hp:aQ tables plan
 ·exact⟨Nat.zero_le _,fun _ h=>by cases h⟩
 ·exact(xV 12 (kL ⟨hp,h⟩)).2
theorem Cc {tables:List az.D} {plan:List aa.D} (h:Good tables plan) {at_ rule:Int} (a0:0<=at_) (a1:at_<(plan.length:Int)) (r0:1<=rule) (r1:rule<=7):jA tables plan at_ rule=eR tables plan at_ rule:=by
 have h6:=ja h.1
 unfold jA inR
 rw[h.1,aH (n:=(plan.length:Int)-1) (by omega) (by omega),decide_eq_true a0,decide_eq_true (show at_<=(plan.length:Int)-1 by omega),decide_eq_true r0,decide_eq_true r1]
 rfl
theorem sG {β:Type} (p:Int->Option β) (a n:Int) (h:a<n):gr p (aP a n)=match p a with | some r=>some r | none=>gr p (aP (a+1) n):=by
 rw[dr h]
 rfl
theorem tZ {β:Type} (p:Int->Option β) (a n:Int) (h:n<=a):gr p (aP a n)=none:=by
 rw[cH h]
 rfl
end M
end Go.AE
end
section
namespace Go.AE
open Go Go.RowKit
set_option linter.unusedVariables false
namespace M
theorem Ez {tables:List az.D} {plan q:List aa.D} (hg:Good tables plan) (h:fy tables plan=some q):cB tables q=cB tables plan:=by
 unfold fy at h
 obtain⟨rule,_,h⟩:=kR h
 unfold fP at h
 obtain⟨a,ha,h⟩:=kR h
 obtain⟨a0,a1⟩:=fH.1 ha
 unfold gD at h
 obtain⟨h2,h⟩:=aG h
 cases h
 have e:((a.toNat:Nat):Int)=a:=by omega
 have:=yA (tables:=tables) (a:=a.toNat) (rule:=rule) (by omega) hg.1 hg.2 (by rw[e];exact h2)
 rw[e] at this
 rw[Cg this.1,this.2]
theorem CW {tables:List az.D}:∀(n:Nat) {plan:List aa.D},Good tables plan->cB tables (iS tables n plan)=cB tables plan
 | 0,_,_=>rfl
 | n+1,plan,hg=>by
  unfold iS
  cases hb:fy tables plan with
  | none=>rfl
  | some q=>
   simp only
   rw[CW n (lI hg hb),Ez hg hb]
theorem BP {tables:List az.D} {plan:List aa.D} (hs:Sm (.sl aa) plan) (hp:aQ tables plan=true):aQ tables (cV tables plan)=true/\cB tables (cV tables plan)=cB tables plan:=by
 have hg:Good tables plan:=⟨hp,hs⟩
 unfold cV
 rw[hp,cond_true]
 refine⟨(xV 12 (kL hg)).1,?_⟩
 rw[CW 12 (kL hg),Cg hp]
end M
end Go.AE
end
