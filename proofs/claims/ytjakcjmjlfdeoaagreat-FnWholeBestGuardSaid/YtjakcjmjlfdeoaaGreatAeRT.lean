/- Plans that are turned yield the same rows: plain Lean. -/
import Derived.Test.YtjakcjmjlfdeoaaGreatAeRB
import Derived.Test.YtjakcjmjlfdeoaaGreatAeMV
import Derived.Test.YtjakcjmjlfdeoaaGreatAeY
import Derived.Test.YtjakcjmjlfdeoaaGreatAeEqH
section
namespace Go.AE
open Go Go.RowKit
set_option linter.unusedVariables false
namespace M
abbrev TRs:Ty:=.sl (.sl aa)
theorem uI (tables:List aq.D):∀(ys:List ag.D) (all:List (List (List aa.D))) {k:Int},0<=k->k<(all.length:Int)->nth (t:=TRs) (ys.foldl (eT tables) all) k=nth (t:=TRs) all k
 | [],_,_,_,_=>rfl
 | y::ys,all,k,k0,k1=>by
  rw[List.foldl_cons,uI tables ys _ k0 (by unfold eT;simp;omega)]
  exact cw (t:=TRs) k0 k1
theorem nQ (tables:List aq.D) (xs ys:List ag.D) {k:Int} (k0:0<=k) (k1:k<(xs.length:Int)):nth (t:=TRs) (aZ tables (xs++ys)) k=nth (t:=TRs) (aZ tables xs) k:=by
 unfold aZ
 rw[List.foldl_append]
 refine uI tables ys _ k0 ?_
 have:=jA tables xs
 unfold aZ at this
 rw[this]
 exact k1
theorem Dd {tables:List aq.D} {a b:List (List (List aa.D))} {s:ag.D} {n:Int} (hs:gd n s) (h:∀k:Int,0<=k->k<n->nth (t:=TRs) a k=nth (t:=TRs) b k):bt tables a s=bt tables b s:=
 tY rfl rfl (fun k1=>h _ (hs k1).1.1 (hs k1).1.2) (fun ht=>h _ (hs (rY ht)).2.1 (hs (rY ht)).2.2)
theorem uM {tables:List aq.D} {plan:List ag.D} (hrf:jU plan) {i:Int} (i0:0<=i) (i1:i<(plan.length:Int)) :
  nth (t:=TRs) (aZ tables plan) i=bt tables (aZ tables plan) (nth (t:=ag) plan i):=by
 have hk:i.toNat<plan.length:=by omega
 have e:plan=(plan.take i.toNat++[nth (t:=ag) plan i])++plan.drop (i.toNat+1):=by
  have:=take_one hk
  rw[show ((i.toNat:Nat):Int)=i by omega] at this
  rw[<-this,List.take_append_drop]
 have hl:(plan.take i.toNat).length=i.toNat:=by rw[List.length_take];omega
 have h1:nth (t:=TRs) (aZ tables plan) i=nth (t:=TRs) (aZ tables (plan.take i.toNat++[nth (t:=ag) plan i])) i:=by
  conv=>lhs;rw[e]
  exact nQ tables _ _ i0 (by rw[List.length_append,hl];simp;omega)
 rw[h1,iD,cL (t:=TRs) (by rw[jA,hl];omega)]
 refine Dd (hrf.2 i i0 i1) fun k k0 k1=>?_
 have h2:nth (t:=TRs) (aZ tables plan) k=nth (t:=TRs) (aZ tables (plan.take i.toNat)) k:=by
  conv=>lhs;rw[show plan=plan.take i.toNat++plan.drop i.toNat by rw[List.take_append_drop]]
  exact nQ tables _ _ k0 (by rw[hl];omega)
 exact h2.symm
theorem FO {tables:List aq.D} {plan:List ag.D} (hp:aW tables plan=true) {i:Int} (i0:0<=i) (i1:i<(plan.length:Int)):∃a c,aV tables a (nth (t:=ag) plan i)=some c:=by
 unfold aW at hp
 have h:=(Bool.and_eq_true_iff.1 hp).1
 unfold cz at h
 cases hr:fE tables plan with
 | none=>rw[hr] at h;cases h
 | some st=>
  obtain⟨a,h1,_,_⟩:=yT plan ([],[]) st hr i i0 i1
  exact⟨a,_,h1⟩
theorem Bx {t:Ty} {xs ys:List t.D} {n i:Int} (h:n=(xs.length:Int)) (h0:0<=i):nth (t:=t) (xs++ys) (n+i)=nth (t:=t) ys i:=by
 subst h
 unfold nth
 rw[List.getD_eq_getElem?_getD,List.getD_eq_getElem?_getD,List.getElem?_append_right (by omega)]
 rw[show ((xs.length:Int)+i).toNat-xs.length=i.toNat by omega]
theorem Ii {t:Ty} {xs:List t.D} {n:Nat} {i:Int} (h0:0<=i) (h1:i<(n:Int)):nth (t:=t) (xs.take n) i=nth (t:=t) xs i:=by
 unfold nth
 rw[List.getD_eq_getElem?_getD,List.getD_eq_getElem?_getD,List.getElem?_take_of_lt (by omega)]
theorem Ie {t:Ty} {xs:List t.D} {n:Nat} {i:Int} (h0:0<=i):nth (t:=t) (xs.drop n) i=nth (t:=t) xs ((n:Int)+i):=by
 unfold nth
 rw[List.getD_eq_getElem?_getD,List.getD_eq_getElem?_getD,List.getElem?_drop]
 rw[show ((n:Int)+i).toNat=n+i.toNat by omega]
theorem HR {f:ag.D->ag.D} {xs:List ag.D} {i:Int} (h0:0<=i) (h1:i<(xs.length:Int)):nth (t:=ag) (xs.map f) i=f (nth (t:=ag) xs i):=by
 rw[jH (t:=ag) h0 (by rw[List.length_map];exact h1),jH (t:=ag) h0 h1,List.getElem_map]
section
variable {plan new:List ag.D} {a:Nat} (ha:a<plan.length)
include ha
theorem Gq:(cv plan (a:Int) new).length=plan.length+new.length-1:=by
 unfold cv
 simp only[List.length_append,List.length_take,List.length_map,List.length_drop,Int.toNat_natCast]
 omega
theorem Kd {i:Int} (i0:0<=i) (i1:i<(new.length:Int)):nth (t:=ag) (cv plan (a:Int) new) ((a:Int)+i)=nth (t:=ag) new i:=by
 unfold cv
 have hl:(plan.take (a:Int).toNat).length=a:=by rw[List.length_take];omega
 rw[List.append_assoc,Bx (t:=ag) (by rw[hl]) i0]
 exact cw (t:=ag) i0 i1
theorem Hv {k:Int} (k0:(a:Int)<k) (k1:k<(plan.length:Int)):nth (t:=ag) (cv plan (a:Int) new) (k+((new.length:Int)-1))=shift (a:Int) (wrap64 ((new.length:Int)-1)) (nth (t:=ag) plan k):=by
 unfold cv
 have hl:(plan.take (a:Int).toNat++new).length=a+new.length:=by rw[List.length_append,List.length_take];omega
 rw[show k+((new.length:Int)-1)=((a+new.length:Nat):Int)+(k-a-1) by omega,Bx (t:=ag) (by rw[hl]) (by omega),HR (by omega) (by rw[List.length_drop];omega),Ie (t:=ag) (by omega)]
 rw[show (((a:Int).toNat+1:Nat):Int)+(k-a-1)=k by omega]
theorem Gt {tables:List aq.D} {k:Int} (k0:0<=k) (k1:k<(a:Int)):nth (t:=TRs) (aZ tables (cv plan (a:Int) new)) k=nth (t:=TRs) (aZ tables plan) k:=by
 have hl:(plan.take a).length=a:=by rw[List.length_take];omega
 have h1:nth (t:=TRs) (aZ tables plan) k=nth (t:=TRs) (aZ tables (plan.take a)) k:=by
  conv=>lhs;rw[show plan=plan.take a++plan.drop a by rw[List.take_append_drop]]
  exact nQ tables _ _ k0 (by rw[hl];exact k1)
 rw[h1]
 unfold cv
 rw[List.append_assoc]
 exact nQ tables _ _ k0 (by show k<((plan.take a).length:Int);rw[hl];exact k1)
theorem Fh {tables:List aq.D} (hrf:jU plan) (hrq:jU (cv plan (a:Int) new)) (h6:plan.length<=6) (hn:0<new.length) (h3:new.length<=3)
  (hB:nth (t:=TRs) (aZ tables (cv plan (a:Int) new)) ((a:Int)+((new.length:Int)-1))=nth (t:=TRs) (aZ tables plan) (a:Int)) :
  ∀(n:Nat) (k:Int),k=(a:Int)+n->k<(plan.length:Int)->nth (t:=TRs) (aZ tables (cv plan (a:Int) new)) (k+((new.length:Int)-1))=nth (t:=TRs) (aZ tables plan) k:=by
 intro n
 induction n using Nat.strongRecOn with
 | ind n ih=>
  intro k hk k1
  by_cases hn0:n=0
  ·rw[show k=(a:Int) by omega]
   exact hB
  have hak:(a:Int)<k:=by omega
  have hql:=Gq (new:=new) ha
  rw[uM hrq (by omega) (by omega),uM hrf (by omega) k1,Hv ha hak k1]
  have hin:=hrf.2 k (by omega) k1
  generalize nth (t:=ag) plan k=s at *
  have hw:wrap64 ((new.length:Int)-1)=(new.length:Int)-1:=aI (by omega) (by omega)
  have to:∀z:Int,0<=z->z<k->nth (t:=TRs) (aZ tables (cv plan (a:Int) new)) (cond (decide ((a:Int)<=z)) (wrap64 (z+((new.length:Int)-1))) z)=nth (t:=TRs) (aZ tables plan) z:=by
   intro z z0 z1
   by_cases hz:(a:Int)<=z
   ·rw[decide_eq_true hz,cond_true,aI (by omega) (by omega)]
    exact ih (z-a).toNat (by omega) z (by omega) (by omega)
   ·rw[decide_eq_false hz,cond_false]
    exact Gt ha z0 (by omega)
  rw[hw]
  refine tY rfl rfl (fun q=>?_) (fun q=>?_)
  ·have:=to _ (hin q).1.1 (hin q).1.2
   rw[<-this]
   unfold shift
   simp only
   rw[decide_eq_false q,Bool.not_false,Bool.true_and]
  ·have q1:=rY q
   have:=to _ (hin q1).2.1 (hin q1).2.2
   rw[<-this]
   unfold shift
   simp only
   rw[q,Bool.true_and]
end
theorem xx {s j:ag.D} {a rule:Int} (h:0<(iP s j a rule).length) :
  (s.1=(2:Int)/\j.1=(2:Int)/\iP s j a rule=[mkS 2 j.2.1 0 (jK j.2.2.2.2.1 s.2.2.2.2.1) []]) ∨
  (s.1=(2:Int)/\j.1=(4:Int)/\iP s j a rule=[mkS 4 j.2.1 j.2.2.1 (jK j.2.2.2.2.1 s.2.2.2.2.1) []]) ∨
  (s.1=(2:Int)/\j.1=(3:Int)/\iP s j a rule=[mkS 2 j.2.1 0 (lZ s.2.2.2.2.1 j.2.2.2.2.2.1) [],mkS 3 a 0 [] j.2.2.2.2.2.1]) ∨
  (s.1=(2:Int)/\j.1=(6:Int)/\iP s j a rule=[mkS 2 j.2.1 0 s.2.2.2.2.1 [],mkS 6 a 0 [] []]) ∨
  (s.1=(2:Int)/\j.1=(5:Int)/\iP s j a rule=[mkS 2 j.2.1 0 s.2.2.2.2.1 [],mkS 2 j.2.2.1 0 s.2.2.2.2.1 [],mkS 5 a (wrap64 (a+(1:Int))) [] []]) ∨
  (s.1=(3:Int)/\j.1=(3:Int)/\iP s j a rule=[mkS 3 j.2.1 0 [] (s.2.2.2.2.2.1.map fun z=>nth (t:=.int .i64) j.2.2.2.2.2.1 z)]) ∨
  (s.1=(6:Int)/\j.1=(6:Int)/\iP s j a rule=[mkS 6 j.2.1 0 [] []]):=by
 have pick:∀{p q:Prop} [Decidable p] [Decidable q] {l:List ag.D},0<(cond (decide p&&decide q) l []).length->p/\q/\cond (decide p&&decide q) l []=l:=by
  intro p q _ _ l h
  cases hb:(decide p&&decide q) with
  | false=>rw[hb] at h;simp at h
  | true=>
   obtain⟨h1,h2⟩:=Bool.and_eq_true_iff.1 hb
   exact⟨of_decide_eq_true h1,of_decide_eq_true h2,rfl⟩
 unfold iP at h ⊢
 by_cases c1:rule=1
 ·rw[decide_eq_true c1,cond_true] at h ⊢
  exact .inl (pick h)
 rw[decide_eq_false c1,cond_false] at h ⊢
 by_cases c2:rule=2
 ·rw[decide_eq_true c2,cond_true] at h ⊢
  exact .inr (.inl (pick h))
 rw[decide_eq_false c2,cond_false] at h ⊢
 by_cases c3:rule=3
 ·rw[decide_eq_true c3,cond_true] at h ⊢
  exact .inr (.inr (.inl (pick h)))
 rw[decide_eq_false c3,cond_false] at h ⊢
 by_cases c4:rule=4
 ·rw[decide_eq_true c4,cond_true] at h ⊢
  exact .inr (.inr (.inr (.inl (pick h))))
 rw[decide_eq_false c4,cond_false] at h ⊢
 by_cases c5:rule=5
 ·rw[decide_eq_true c5,cond_true] at h ⊢
  exact .inr (.inr (.inr (.inr (.inl (pick h)))))
 rw[decide_eq_false c5,cond_false] at h ⊢
 by_cases c6:rule=6
 ·rw[decide_eq_true c6,cond_true] at h ⊢
  exact .inr (.inr (.inr (.inr (.inr (.inl (pick h))))))
 rw[decide_eq_false c6,cond_false] at h ⊢
 by_cases c7:rule=7
 ·rw[decide_eq_true c7,cond_true] at h ⊢
  exact .inr (.inr (.inr (.inr (.inr (.inr (pick h))))))
 rw[decide_eq_false c7,cond_false] at h
 exact absurd h (Nat.lt_irrefl 0)
section
variable {tables:List aq.D} {R:List (List (List aa.D))}
theorem mI {s:ag.D} (h:s.1=(2:Int)):bt tables R s=List.filter (fun r=>holds r s.2.2.2.2.1) (nth (t:=TRs) R s.2.1):=by unfold bt;rw[h];rfl
theorem zc {s:ag.D} (h:s.1=(3:Int)):bt tables R s=List.map (fun r=>taken r s.2.2.2.2.2.1) (nth (t:=TRs) R s.2.1):=by unfold bt;rw[h];rfl
theorem Ib {s:ag.D} (h:s.1=(4:Int)):bt tables R s=List.flatMap (fun r=>joined s.2.2.2.2.1 r (nth (t:=TRs) R s.2.2.1)) (nth (t:=TRs) R s.2.1):=by unfold bt;rw[h];rfl
theorem IE {s:ag.D} (h:s.1=(5:Int)):bt tables R s=(nth (t:=TRs) R s.2.1++nth (t:=TRs) R s.2.2.1:List (List aa.D)):=by unfold bt;rw[h];rfl
theorem zu {s:ag.D} (h:s.1=(6:Int)):bt tables R s=cX (nth (t:=TRs) R s.2.1):=by unfold bt;rw[h];rfl
end
theorem Hx {tables:List aq.D} {R R':List (List (List aa.D))} {s j:ag.D} {a rule:Int} (ha:0<=a) (ha2:a<=1000) (hn:0<(iP s j a rule).length)
  (hnew:∀i:Int,0<=i->i<((iP s j a rule).length:Int)->nth (t:=TRs) R' (a+i)=bt tables R' (nth (t:=ag) (iP s j a rule) i)) (hrj:nth (t:=TRs) R s.2.1=bt tables R j) (hji:gd s.2.1 j)
  (eA:∀z:Int,0<=z/\z<s.2.1->nth (t:=TRs) R' z=nth (t:=TRs) R z) (ks:s.1=(2:Int)->∃c,bp c s.2.2.2.2.1=3) (kj:j.1=(2:Int)\/j.1=(4:Int)->∃c,bp c j.2.2.2.2.1=3)
  (hs2:s.1=(2:Int)->j.1=(3:Int)->oF s.2.2.2.2.1 j.2.2.2.2.2.1.length) (hs3:s.1=(3:Int)->j.1=(3:Int)->∀z∈s.2.2.2.2.2.1,0<=z/\z<(j.2.2.2.2.2.1.length:Int)) :
  nth (t:=TRs) R' (a+(((iP s j a rule).length:Int)-1))=bt tables R s:=by
 rcases xx hn with⟨k1,k2,hN⟩ | ⟨k1,k2,hN⟩ | ⟨k1,k2,hN⟩ | ⟨k1,k2,hN⟩ | ⟨k1,k2,hN⟩ | ⟨k1,k2,hN⟩ | ⟨k1,k2,hN⟩<;>rw[hN] at hnew ⊢<;>clear hN hn<;>have hj:=hji (by rw[k2];decide)<;>have e0:=hnew 0 (by decide) (by simp)<;>rw[Int.add_zero] at e0
 ·obtain⟨c,kc⟩:=ks k1
  obtain⟨d,kd⟩:=kj (.inl k2)
  show nth (t:=TRs) R' (a+0)=_
  rw[Int.add_zero,e0,mI k1,hrj,mI k2]
  show List.filter (fun r=>holds r (jK j.2.2.2.2.1 s.2.2.2.2.1)) (nth (t:=TRs) R' j.2.1)=_
  rw[eA _ hj.1,List.filter_filter]
  congr 1
  funext r
  rw[As kd kc,Bool.and_comm]
 ·obtain⟨c,kc⟩:=ks k1
  obtain⟨d,kd⟩:=kj (.inr k2)
  show nth (t:=TRs) R' (a+0)=_
  rw[Int.add_zero,e0,mI k1,hrj,Ib k2,AI kd kc]
  show List.flatMap (fun r=>joined (jK j.2.2.2.2.1 s.2.2.2.2.1) r (nth (t:=TRs) R' j.2.2.1)) (nth (t:=TRs) R' j.2.1)=_
  rw[eA _ hj.1,eA _ hj.2]
 ·have e1:=hnew 1 (by decide) (by simp)
  show nth (t:=TRs) R' (a+1)=_
  rw[e1,mI k1,hrj,zc k2]
  show List.map (fun r=>taken r j.2.2.2.2.2.1) (nth (t:=TRs) R' a)=_
  rw[e0]
  show List.map (fun r=>taken r j.2.2.2.2.2.1) (List.filter (fun r=>holds r (lZ s.2.2.2.2.1 j.2.2.2.2.2.1)) (nth (t:=TRs) R' j.2.1))=_
  rw[eA _ hj.1,List.filter_map]
  congr 2
  funext r
  exact EI (hs2 k1 k2)
 ·have e1:=hnew 1 (by decide) (by simp)
  show nth (t:=TRs) R' (a+1)=_
  rw[e1,mI k1,hrj,zu k2,<-Dx]
  show cX (nth (t:=TRs) R' a)=_
  rw[e0]
  show cX (List.filter (fun r=>holds r s.2.2.2.2.1) (nth (t:=TRs) R' j.2.1))=_
  rw[eA _ hj.1]
 ·have e1:=hnew 1 (by decide) (by simp)
  have e2:=hnew 2 (by decide) (by simp)
  show nth (t:=TRs) R' (a+2)=_
  rw[e2,mI k1,hrj,IE k2,List.filter_append]
  show (nth (t:=TRs) R' a++nth (t:=TRs) R' (wrap64 (a+1)):List (List aa.D))=_
  rw[aI (by omega) (by omega),e0,e1]
  show (List.filter (fun r=>holds r s.2.2.2.2.1) (nth (t:=TRs) R' j.2.1)++List.filter (fun r=>holds r s.2.2.2.2.1) (nth (t:=TRs) R' j.2.2.1):List (List aa.D))=_
  rw[eA _ hj.1,eA _ hj.2]
 ·show nth (t:=TRs) R' (a+0)=_
  rw[Int.add_zero,e0,zc k1,hrj,zc k2]
  show List.map (fun r=>taken r (s.2.2.2.2.2.1.map fun z=>nth (t:=.int .i64) j.2.2.2.2.2.1 z)) (nth (t:=TRs) R' j.2.1)=_
  rw[eA _ hj.1,List.map_map]
  congr 1
  funext r
  exact(DU (hs3 k1 k2)).symm
 ·show nth (t:=TRs) R' (a+0)=_
  rw[Int.add_zero,e0,zu k1,hrj,zu k2,GI]
  show cX (nth (t:=TRs) R' j.2.1)=_
  rw[eA _ hj.1]
theorem GR {s j:ag.D} {a rule:Int} (h:0<(iP s j a rule).length):¬s.1=(1:Int):=by
 rcases xx h with⟨k1,_⟩ | ⟨k1,_⟩ | ⟨k1,_⟩ | ⟨k1,_⟩ | ⟨k1,_⟩ | ⟨k1,_⟩ | ⟨k1,_⟩<;>rw[k1]<;>decide
theorem DR {tables:List aq.D} {plan:List ag.D} {a:Nat} {rule:Int} (ha:a<plan.length) (hp:aW tables plan=true) (hs:Sm (.sl ag) plan) (h:(gZ tables plan (a:Int) rule).2=true) :
  aW tables (gZ tables plan (a:Int) rule).1=true/\bT tables (gZ tables plan (a:Int) rule).1=bT tables plan:=by
 unfold gZ at h ⊢
 cases h0:decide (((cu plan (a:Int) rule).length:Int)=(0:Int)) with
 | true=>rw[h0] at h;cases h
 | false=>
  rw[h0] at h
  simp only[cond_false] at h ⊢
  have hn:0<(cu plan (a:Int) rule).length:=by
   have:=of_decide_eq_false h0
   omega
  cases hq:aW tables (cv plan (a:Int) (cu plan (a:Int) rule)) with
  | false=>rw[hq] at h;cases h
  | true=>
   simp only[cond_true]
   refine⟨hq,?_⟩
   have hrf:=dX hp
   have hrq:=dX hq
   have h6:=rP hp
   have h3:=yI (nth (t:=ag) plan (a:Int)) (nth (t:=ag) plan (nth (t:=ag) plan (a:Int)).2.1) (a:Int) rule
   have hql:=Gq (new:=cu plan (a:Int) rule) ha
   obtain⟨_,hs2,hs3⟩:=(tN hp hs (at_:=(a:Int)) (by omega) (by omega)).1.2
   have hin:=hrf.2 (a:Int) (by omega) (by omega) (GR hn)
   obtain⟨qa,ca,hca⟩:=FO hp (i:=(a:Int)) (by omega) (by omega)
   have hja:(nth (t:=ag) plan (a:Int)).2.1<(plan.length:Int):=Int.lt_trans hin.1.2 (by omega)
   obtain⟨qj,cj,hcj⟩:=FO hp hin.1.1 hja
   have hB:nth (t:=TRs) (aZ tables (cv plan (a:Int) (cu plan (a:Int) rule))) ((a:Int)+(((cu plan (a:Int) rule).length:Int)-1))=nth (t:=TRs) (aZ tables plan) (a:Int):=by
    rw[uM hrf (i:=(a:Int)) (by omega) (by omega)]
    refine Hx (by omega) (by omega) hn (fun i i0 i1=>?_) (uM hrf hin.1.1 hja) (hrf.2 _ hin.1.1 hja) (fun z hz=>Gt ha hz.1 (Int.lt_trans hz.2 hin.1.2)) (fun k=>⟨_,qg hca k⟩) (fun k=>?_) hs2 hs3
    ·rw[uM hrq (by omega) (by rw[hql];unfold cu at *;omega),Kd (new:=cu plan (a:Int) rule) ha i0 i1]
     rfl
    ·rcases k with k | k
     ·exact⟨_,qg hcj k⟩
     ·exact BC hcj k
   have hend:=Fh ha hrf hrq h6 hn h3 hB (plan.length-1-a) ((plan.length:Int)-1) (by omega) (by omega)
   unfold bT
   rw[hq,hp,hql]
   simp only[cond_true]
   rw[show ((plan.length+(cu plan (a:Int) rule).length-1:Nat):Int)-1=(plan.length:Int)-1+(((cu plan (a:Int) rule).length:Int)-1) by omega]
   exact hend
end M
end Go.AE
end
section
namespace Go.AE
open Go Go.RowKit
set_option linter.unusedVariables false
namespace M
def Good (tables:List aq.D) (plan:List ag.D):Prop:=aW tables plan=true/\Sm (.sl ag) plan
theorem xA {tables:List aq.D} {plan:List ag.D} (h:Good tables plan) {at_:Int} (h0:0<=at_) (h1:at_<(plan.length:Int)) (rule:Int):Good tables (gZ tables plan at_ rule).1:=by
 refine⟨?_,Ho h.1 h.2 h0 h1 rule⟩
 unfold gZ
 cases decide (((cu plan at_ rule).length:Int)=(0:Int))
 ·cases hq:aW tables (cv plan at_ (cu plan at_ rule))
  ·exact h.1
  ·exact hq
 ·exact h.1
theorem oV {tables:List aq.D} {plan:List ag.D} (h:Good tables plan):Good tables (tidy plan):=⟨Gp h.1,Ke h.2⟩
theorem pG {α β:Type} {p:α->Option β} {r:β}:∀{xs:List α},jo p xs=some r->∃x∈xs,p x=some r
 | [],h=>by cases h
 | x::xs,h=>by
  unfold jo at h
  cases hp:p x with
  | none=>
   rw[hp] at h
   obtain⟨y,hy,e⟩:=pG h
   exact⟨y,List.mem_cons_of_mem _ hy,e⟩
  | some s=>
   rw[hp] at h
   cases h
   exact⟨x,List.mem_cons_self,hp⟩
theorem rQ {tables:List aq.D} {plan q:List ag.D} (h:Good tables plan) (hb:jN tables plan=some q):Good tables q:=by
 obtain⟨rule,_,h1⟩:=pG hb
 obtain⟨at_,hm,h2⟩:=pG h1
 obtain⟨a0,a1⟩:=eZ.1 hm
 unfold pN at h2
 cases ht:(gZ tables plan at_ rule).2 with
 | false=>rw[ht] at h2;cases h2
 | true=>
  rw[ht] at h2
  cases h2
  exact oV (xA h a0 a1 rule)
theorem wD {tables:List aq.D}:∀(n:Nat) {plan:List ag.D},Good tables plan->Good tables (nK tables n plan)
 | 0,_,h=>h
 | n+1,plan,h=>by
  unfold nK
  cases hb:jN tables plan with
  | none=>exact h
  | some q=>exact wD n (rQ h hb)
theorem Ek {tables:List aq.D} {plan:List ag.D} (h:Sm (.sl ag) plan):Sm (.sl ag) (gX tables plan):=by
 unfold gX
 cases hp:aW tables plan
 ·exact⟨Nat.zero_le _,fun _ h=>by cases h⟩
 ·exact(wD 12 (oV ⟨hp,h⟩)).2
theorem Du {β:Type} (p:Int->Option β) (a n:Int) (h:a<n):jo p (aN a n)=match p a with | some r=>some r | none=>jo p (aN (a+1) n):=by
 rw[ep h]
 rfl
theorem FI {β:Type} (p:Int->Option β) (a n:Int) (h:n<=a):jo p (aN a n)=none:=by
 rw[cD h]
 rfl
end M
end Go.AE
end
section
namespace Go.AE
open Go Go.RowKit
set_option linter.unusedVariables false
namespace M
theorem Dk {tables:List aq.D} {plan q:List ag.D} (hg:Good tables plan) (h:jN tables plan=some q):bT tables q=bT tables plan:=by
 unfold jN at h
 obtain⟨rule,_,h⟩:=pG h
 unfold mL at h
 obtain⟨a,ha,h⟩:=pG h
 obtain⟨a0,a1⟩:=eZ.1 ha
 unfold pN at h
 obtain⟨h2,h⟩:=aG h
 cases h
 have e:((a.toNat:Nat):Int)=a:=by omega
 have:=DR (tables:=tables) (a:=a.toNat) (rule:=rule) (by omega) hg.1 hg.2 (by rw[e];exact h2)
 rw[e] at this
 rw[Br this.1,this.2]
theorem Bu {tables:List aq.D}:∀(n:Nat) {plan:List ag.D},Good tables plan->bT tables (nK tables n plan)=bT tables plan
 | 0,_,_=>rfl
 | n+1,plan,hg=>by
  unfold nK
  cases hb:jN tables plan with
  | none=>rfl
  | some q=>
   simp only
   rw[Bu n (rQ hg hb),Dk hg hb]
theorem AS {tables:List aq.D} {plan:List ag.D} (hs:Sm (.sl ag) plan) (hp:aW tables plan=true):aW tables (gX tables plan)=true/\bT tables (gX tables plan)=bT tables plan:=by
 have hg:Good tables plan:=⟨hp,hs⟩
 unfold gX
 rw[hp,cond_true]
 refine⟨(wD 12 (oV hg)).1,?_⟩
 rw[Bu 12 (oV hg),Br hp]
end M
end Go.AE
end
section
namespace Go.AE
open Go Go.RowKit
set_option linter.unusedSimpArgs false
set_option linter.unusedVariables false
theorem AL {row:List aa.D} {E:List az.D} (p:az.D) (st:List aa.D) (hp:Sm az p) (hs:Sm (.sl aa) st) (hl:st.length<=1000) (h1:M.takes p<=(st.length:Int)) (hk:1<=p.1/\p.1<=8) (hc:M.xl p row.length) :
  F.ez row E p st=some (.inl (M.cG row st p)):=by
 obtain⟨t0,t2⟩:=uz p
 have hw:=Dg (n:=st.length) (k:=M.takes p) (by omega) t0 t2
 have hct:=yX st (k:=(st.length:Int)-M.takes p) (by omega) (by omega)
 have hn:((st.length:Int)-M.takes p).toNat=st.length-(M.takes p).toNat:=by omega
 rw[hn] at hct
 unfold F.ez M.cG
 rw[hw,hct]
 have hsm:Sm (.sl aa) (st.drop (st.length-(M.takes p).toNat)):=⟨by rw[List.length_drop];omega,fun x hx=>hs.2 x (List.mem_of_mem_drop hx)⟩
 rw[aj hsm,aj hc,aj hk]
 simp only[bz]
 repeat rw[aj (by first | omega | (rw[List.length_drop];omega) | (unfold lim;simp;omega))]
 rw[hn]
end Go.AE
end
