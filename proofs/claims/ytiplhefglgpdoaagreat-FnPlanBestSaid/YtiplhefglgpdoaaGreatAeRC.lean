/- The best plan has the same columns: plain Lean. -/
import Derived.Test.YtiplhefglgpdoaaGreatAeRT
import Derived.Test.YtiplhefglgpdoaaGreatAeEqH
section
namespace Go.AE
open Go Go.RowKit
set_option linter.unusedVariables false
namespace M
theorem Gk {z k:Int} (h0:0<=z) (h1:z<k):∃x:Nat,z=(x:Int)/\(x:Int)<k:=⟨z.toNat,by omega,by omega⟩
abbrev TCs:Ty:=.sl ah
theorem AM {tables:List az.D} {plan:List aa.D} (hp:aQ tables plan=true):(aX tables plan).1.length=plan.length/\∀i:Int,0<=i->i<(plan.length:Int) →
  ∃a,bF tables a (nth (t:=aa) plan i)=some (nth (t:=TCs) (aX tables plan).1 i)/\∀j:Int,0<=j->j<i->nth (t:=TCs) a j=nth (t:=TCs) (aX tables plan).1 j:=by
 unfold aQ at hp
 have h:=(Bool.and_eq_true_iff.1 hp).1
 unfold aX at h ⊢
 cases hr:fO tables plan with
 | none=>rw[hr] at h;cases h
 | some st=>
  have hl:=(sY plan ([],[]) st hr).1
  refine⟨by simpa using hl,fun i i0 i1=>?_⟩
  obtain⟨a,h1,h2,h3⟩:=uY plan ([],[]) st hr i i0 i1
  simp only[List.length_nil] at h1 h2
  rw[show ((0:Nat):Int)+i=i by omega] at h1 h2
  exact⟨a,h1,fun j j0 j1=>h3 j j0 (by omega)⟩
theorem Cm {α:Type} {x:Option α} {a b:α} (h1:x=some a) (h2:x=some b):a=b:=Option.some.inj (h1.symm.trans h2)
def lS (tables:List az.D) (a b:List ah.D) (s:aa.D):Option (List ah.D):=
 cond (decide (s.1=(1:Int))) (some (nth (t:=az) tables s.2.2.2.1).1) (cond (decide (s.1=(3:Int))) (some (s.2.2.2.2.2.1.map fun n=>nth (t:=ah) a n)) (cond (decide (s.1=(4:Int))) (some (a++b)) (cond (decide (s.1=(5:Int))) (both a b) (some a))))
theorem FU {tables:List az.D} {ahead:List (List ah.D)} {s:aa.D} {c:List ah.D} (h:bF tables ahead s=some c):lS tables (nth (t:=TCs) ahead s.2.1) (nth (t:=TCs) ahead s.2.2.1) s=some c:=by
 unfold bF at h
 unfold lS
 obtain⟨_,h⟩:=aG h
 by_cases h1:s.1=(1:Int)
 ·rw[decide_eq_true h1] at h ⊢
  exact(aG h).2
 rw[decide_eq_false h1,cond_false] at h ⊢
 obtain⟨_,h⟩:=aG h
 by_cases h2:s.1=(2:Int)
 ·rw[decide_eq_true h2,cond_true] at h
  rw[decide_eq_false (show ¬s.1=(3:Int) by rw[h2];decide),decide_eq_false (show ¬s.1=(4:Int) by rw[h2];decide),decide_eq_false (show ¬s.1=(5:Int) by rw[h2];decide)]
  exact(aG h).2
 rw[decide_eq_false h2,cond_false] at h
 by_cases h3:s.1=(3:Int)
 ·rw[decide_eq_true h3,cond_true] at h ⊢
  exact(aG h).2
 rw[decide_eq_false h3,cond_false] at h ⊢
 by_cases h4:s.1=(4:Int)
 ·rw[decide_eq_true h4,cond_true] at h ⊢
  exact(aG h).2
 rw[decide_eq_false h4,cond_false] at h ⊢
 by_cases h5:s.1=(5:Int)
 ·rw[decide_eq_true h5,cond_true] at h ⊢
  exact h
 rw[decide_eq_false h5,cond_false] at h ⊢
 exact(aG h).2
theorem uP {tables:List az.D} {a b a' b':List ah.D} {s s':aa.D} (h1:s'.1=s.1) (h2:s'.2.2.2=s.2.2.2) (hA:¬s.1=(1:Int)->a'=a) (hB:two s.1=true->b'=b):lS tables a' b' s'=lS tables a b s:=by
 unfold lS
 rw[h1,h2]
 by_cases k1:s.1=(1:Int)
 ·rw[decide_eq_true k1]
  rfl
 rw[hA k1]
 cases ht:two s.1 with
 | true=>rw[hB ht]
 | false=>
  unfold two at ht
  obtain⟨k4,k5⟩:=Bool.or_eq_false_iff.1 ht
  rw[k4,k5]
  rfl
theorem tX {tables:List az.D} {plan:List aa.D} (hp:aQ tables plan=true) {i:Int} (i0:0<=i) (i1:i<(plan.length:Int)) :
  lS tables (nth (t:=TCs) (aX tables plan).1 (nth (t:=aa) plan i).2.1) (nth (t:=TCs) (aX tables plan).1 (nth (t:=aa) plan i).2.2.1) (nth (t:=aa) plan i)=some (nth (t:=TCs) (aX tables plan).1 i):=by
 obtain⟨a,h1,h2⟩:=(AM hp).2 i i0 i1
 have hin:=(cz hp).2 i i0 i1
 rw[<-FU h1]
 exact uP rfl rfl (fun k=>(h2 _ (hin k).1.1 (hin k).1.2).symm) (fun k=>(h2 _ (hin (nJ k)).2.1 (hin (nJ k)).2.2).symm)
section
variable {tables:List az.D} {plan:List aa.D} {a:Nat} {rule:Int}
theorem Ei {new:List aa.D} (ha:a<plan.length) (hp:aQ tables plan=true) (hq:aQ tables (bC plan (a:Int) new)=true) :
  ∀(n:Nat) (k:Int),k=n->k<(a:Int)->nth (t:=TCs) (aX tables (bC plan (a:Int) new)).1 k=nth (t:=TCs) (aX tables plan).1 k:=by
 intro n
 induction n using Nat.strongRecOn with
 | ind n ih=>
  intro k hk k1
  have hn:=(cz hq).1
  have hql:=wk (new:=new) ha
  have hkq:k<((bC plan (a:Int) new).length:Int):=by
   unfold bC
   simp only[List.length_append,List.length_take]
   omega
  have e1:=tX hq (i:=k) (by omega) hkq
  have e2:=tX hp (i:=k) (by omega) (by omega)
  have hin:=(cz hp).2 k (by omega) (by omega)
  rw[ID ha (by omega) k1] at e1
  refine Cm e1 (Eq.trans ?_ e2)
  refine uP rfl rfl (fun q=>?_) (fun q=>?_)
  ·obtain⟨x,hx,hx1⟩:=Gk (hin q).1.1 (hin q).1.2
   rw[hx]
   exact ih x (by omega) (x:Int) rfl (by omega)
  ·obtain⟨x,hx,hx1⟩:=Gk (hin (nJ q)).2.1 (hin (nJ q)).2.2
   rw[hx]
   exact ih x (by omega) (x:Int) rfl (by omega)
theorem EG {new:List aa.D} (ha:a<plan.length) (hp:aQ tables plan=true) (hq:aQ tables (bC plan (a:Int) new)=true) (hn:0<new.length) (h3:new.length<=3)
  (hB:nth (t:=TCs) (aX tables (bC plan (a:Int) new)).1 ((a:Int)+((new.length:Int)-1))=nth (t:=TCs) (aX tables plan).1 (a:Int)) :
  ∀(n:Nat) (k:Int),k=(a:Int)+n->k<(plan.length:Int)->nth (t:=TCs) (aX tables (bC plan (a:Int) new)).1 (k+((new.length:Int)-1))=nth (t:=TCs) (aX tables plan).1 k:=by
 intro n
 have h6:=ja hp
 induction n using Nat.strongRecOn with
 | ind n ih=>
  intro k hk k1
  by_cases hn0:n=0
  ·rw[show k=(a:Int) by omega]
   exact hB
  have hak:(a:Int)<k:=by omega
  have hql:=wk (new:=new) ha
  have e1:=tX hq (i:=k+((new.length:Int)-1)) (by omega) (by omega)
  have e2:=tX hp (i:=k) (by omega) k1
  rw[Co ha hak k1] at e1
  have hin:=(cz hp).2 k (by omega) k1
  refine Cm e1 (Eq.trans ?_ e2)
  clear e1 e2
  generalize nth (t:=aa) plan k=s at *
  have hw:wrap64 ((new.length:Int)-1)=(new.length:Int)-1:=aH (by omega) (by omega)
  have to:∀z:Int,0<=z->z<k->nth (t:=TCs) (aX tables (bC plan (a:Int) new)).1 (cond (decide ((a:Int)<=z)) (wrap64 (z+((new.length:Int)-1))) z)=nth (t:=TCs) (aX tables plan).1 z:=by
   intro z z0 z1
   by_cases hz:(a:Int)<=z
   ·rw[decide_eq_true hz,cond_true,aH (by omega) (by omega)]
    exact ih (z-a).toNat (by omega) z (by omega) (by omega)
   ·rw[decide_eq_false hz,cond_false]
    exact Ei ha hp hq z.toNat z (by omega) (by omega)
  rw[hw]
  refine uP rfl rfl (fun q=>?_) (fun q=>?_)
  ·have:=to _ (hin q).1.1 (hin q).1.2
   rw[<-this]
   unfold shift
   simp only
   rw[decide_eq_false q,Bool.not_false,Bool.true_and]
  ·have q1:=nJ q
   have:=to _ (hin q1).2.1 (hin q1).2.2
   rw[<-this]
   unfold shift
   simp only
   rw[q,Bool.true_and]
end
section
variable {tables:List az.D} {x y:List ah.D}
theorem iU {s:aa.D} (h:s.1=(2:Int)\/s.1=(6:Int)):lS tables x y s=some x:=by
 unfold lS
 rcases h with h | h<;>rw[h]<;>rfl
theorem xu {s:aa.D} (h:s.1=(3:Int)):lS tables x y s=some (s.2.2.2.2.2.1.map fun n=>nth (t:=ah) x n):=by unfold lS;rw[h];rfl
theorem HN {s:aa.D} (h:s.1=(4:Int)):lS tables x y s=some (x++y):=by unfold lS;rw[h];rfl
theorem HP {s:aa.D} (h:s.1=(5:Int)):lS tables x y s=both x y:=by unfold lS;rw[h];rfl
end
theorem HX {tables:List az.D} {R R':List (List ah.D)} {s j:aa.D} {a rule:Int} {c:List ah.D} (ha:0<=a) (ha2:a<=1000) (hn:0<(fj s j a rule).length)
  (hnew:∀i:Int,0<=i->i<((fj s j a rule).length:Int)->lS tables (nth (t:=TCs) R' (nth (t:=aa) (fj s j a rule) i).2.1) (nth (t:=TCs) R' (nth (t:=aa) (fj s j a rule) i).2.2.1) (nth (t:=aa) (fj s j a rule) i)=some (nth (t:=TCs) R' (a+i)))
  (hs:lS tables (nth (t:=TCs) R s.2.1) (nth (t:=TCs) R s.2.2.1) s=some c) (hj:lS tables (nth (t:=TCs) R j.2.1) (nth (t:=TCs) R j.2.2.1) j=some (nth (t:=TCs) R s.2.1)) (hji:gi s.2.1 j)
  (eA:∀z:Int,0<=z/\z<s.2.1->nth (t:=TCs) R' z=nth (t:=TCs) R z) (hs3:s.1=(3:Int)->j.1=(3:Int)->∀z∈s.2.2.2.2.2.1,0<=z/\z<(j.2.2.2.2.2.1.length:Int)) :
  nth (t:=TCs) R' (a+(((fj s j a rule).length:Int)-1))=c:=by
 rcases rX hn with⟨k1,k2,hN⟩ | ⟨k1,k2,hN⟩ | ⟨k1,k2,hN⟩ | ⟨k1,k2,hN⟩ | ⟨k1,k2,hN⟩ | ⟨k1,k2,hN⟩ | ⟨k1,k2,hN⟩<;>rw[hN] at hnew ⊢<;>clear hN hn<;>have hz:=hji (by rw[k2];decide)<;>have e0:=hnew 0 (by decide) (by simp)<;>rw[Int.add_zero] at e0
 ·rw[iU (.inl k1)] at hs
  rw[iU (.inl k2)] at hj
  have e0:some (nth (t:=TCs) R' j.2.1)=some (nth (t:=TCs) R' a):=e0
  rw[eA _ hz.1] at e0
  show nth (t:=TCs) R' (a+0)=_
  rw[Int.add_zero]
  exact(Option.some.inj e0).symm.trans ((Option.some.inj hj).trans (Option.some.inj hs))
 ·rw[iU (.inl k1)] at hs
  rw[HN k2] at hj
  have e0:some (nth (t:=TCs) R' j.2.1++nth (t:=TCs) R' j.2.2.1:List ah.D)=some (nth (t:=TCs) R' a):=e0
  rw[eA _ hz.1,eA _ hz.2] at e0
  show nth (t:=TCs) R' (a+0)=_
  rw[Int.add_zero]
  exact(Option.some.inj e0).symm.trans ((Option.some.inj hj).trans (Option.some.inj hs))
 ·rw[iU (.inl k1)] at hs
  rw[xu k2] at hj
  have e1:=hnew 1 (by decide) (by simp)
  have e0:some (nth (t:=TCs) R' j.2.1)=some (nth (t:=TCs) R' a):=e0
  have e1:some (j.2.2.2.2.2.1.map fun n=>nth (t:=ah) (nth (t:=TCs) R' a) n)=some (nth (t:=TCs) R' (a+1)):=e1
  rw[<-Option.some.inj e0,eA _ hz.1] at e1
  show nth (t:=TCs) R' (a+1)=_
  exact(Option.some.inj e1).symm.trans ((Option.some.inj hj).trans (Option.some.inj hs))
 ·rw[iU (.inl k1)] at hs
  rw[iU (.inr k2)] at hj
  have e1:=hnew 1 (by decide) (by simp)
  have e0:some (nth (t:=TCs) R' j.2.1)=some (nth (t:=TCs) R' a):=e0
  have e1:some (nth (t:=TCs) R' a)=some (nth (t:=TCs) R' (a+1)):=e1
  rw[<-e0,eA _ hz.1] at e1
  show nth (t:=TCs) R' (a+1)=_
  exact(Option.some.inj e1).symm.trans ((Option.some.inj hj).trans (Option.some.inj hs))
 ·rw[iU (.inl k1)] at hs
  rw[HP k2] at hj
  have e1:=hnew 1 (by decide) (by simp)
  have e2:=hnew 2 (by decide) (by simp)
  have e0:some (nth (t:=TCs) R' j.2.1)=some (nth (t:=TCs) R' a):=e0
  have e1:some (nth (t:=TCs) R' j.2.2.1)=some (nth (t:=TCs) R' (a+1)):=e1
  have e2:both (nth (t:=TCs) R' a) (nth (t:=TCs) R' (wrap64 (a+1)))=some (nth (t:=TCs) R' (a+2)):=e2
  rw[aH (by omega) (by omega),<-Option.some.inj e0,<-Option.some.inj e1,eA _ hz.1,eA _ hz.2,hj,hs] at e2
  show nth (t:=TCs) R' (a+2)=_
  exact(Option.some.inj e2).symm
 ·rw[xu k1] at hs
  rw[xu k2] at hj
  have e0:some ((s.2.2.2.2.2.1.map fun z=>nth (t:=.int .i64) j.2.2.2.2.2.1 z).map fun n=>nth (t:=ah) (nth (t:=TCs) R' j.2.1) n)=some (nth (t:=TCs) R' a):=e0
  rw[eA _ hz.1,List.map_map] at e0
  show nth (t:=TCs) R' (a+0)=_
  rw[Int.add_zero,<-Option.some.inj e0,<-Option.some.inj hs,<-Option.some.inj hj]
  refine List.map_congr_left fun z hzm=>?_
  obtain⟨z0,z1⟩:=hs3 k1 k2 z hzm
  show nth (t:=ah) (nth (t:=TCs) R j.2.1) (nth (t:=.int .i64) j.2.2.2.2.2.1 z)=nth (t:=ah) (j.2.2.2.2.2.1.map fun n=>nth (t:=ah) (nth (t:=TCs) R j.2.1) n) z
  rw[iq (t:=ah) z0 (by rw[List.length_map];exact z1),iq (t:=.int .i64) z0 z1,List.getElem_map]
 ·rw[iU (.inr k1)] at hs
  rw[iU (.inr k2)] at hj
  have e0:some (nth (t:=TCs) R' j.2.1)=some (nth (t:=TCs) R' a):=e0
  rw[eA _ hz.1] at e0
  show nth (t:=TCs) R' (a+0)=_
  rw[Int.add_zero]
  exact(Option.some.inj e0).symm.trans ((Option.some.inj hj).trans (Option.some.inj hs))
theorem Ew {tables:List az.D} {plan:List aa.D} {a:Nat} {rule:Int} (ha:a<plan.length) (hp:aQ tables plan=true) (hs:Sm (.sl aa) plan) (h:(eR tables plan (a:Int) rule).2=true) :
  bV tables (eR tables plan (a:Int) rule).1=bV tables plan:=by
 unfold eR at h ⊢
 cases h0:decide (((bA plan (a:Int) rule).length:Int)=(0:Int)) with
 | true=>rw[h0] at h;cases h
 | false=>
  rw[h0] at h
  simp only[cond_false] at h ⊢
  have hn:0<(bA plan (a:Int) rule).length:=by
   have:=of_decide_eq_false h0
   omega
  cases hq:aQ tables (bC plan (a:Int) (bA plan (a:Int) rule)) with
  | false=>rw[hq] at h;cases h
  | true=>
   simp only[cond_true]
   have hrf:=cz hp
   have h6:=ja hp
   have h3:=sU (nth (t:=aa) plan (a:Int)) (nth (t:=aa) plan (nth (t:=aa) plan (a:Int)).2.1) (a:Int) rule
   have hql:=wk (new:=bA plan (a:Int) rule) ha
   obtain⟨_,hs2,hs3⟩:=(nZ hp hs (at_:=(a:Int)) (by omega) (by omega)).1.2
   have hin:=hrf.2 (a:Int) (by omega) (by omega) (CM hn)
   have hja:(nth (t:=aa) plan (a:Int)).2.1<(plan.length:Int):=Int.lt_trans hin.1.2 (by omega)
   have hB:nth (t:=TCs) (aX tables (bC plan (a:Int) (bA plan (a:Int) rule))).1 ((a:Int)+(((bA plan (a:Int) rule).length:Int)-1))=nth (t:=TCs) (aX tables plan).1 (a:Int):=by
    refine HX (by omega) (by omega) hn (fun i i0 i1=>?_) (tX hp (i:=(a:Int)) (by omega) (by omega)) (tX hp hin.1.1 hja) (hrf.2 _ hin.1.1 hja) (fun z hz=>by obtain⟨x,hx,hx1⟩:=Gk hz.1 (Int.lt_trans hz.2 hin.1.2);rw[hx];exact Ei ha hp hq x (x:Int) rfl hx1) hs3
    have e:=tX hq (i:=(a:Int)+i) (by omega) (by rw[hql];unfold bA at *;omega)
    rw[Ht (new:=bA plan (a:Int) rule) ha i0 i1] at e
    exact e
   have hend:=EG ha hp hq hn h3 hB (plan.length-1-a) ((plan.length:Int)-1) (by omega) (by omega)
   unfold bV
   rw[hq,hp,hql]
   simp only[cond_true]
   rw[show ((plan.length+(bA plan (a:Int) rule).length-1:Nat):Int)-1=(plan.length:Int)-1+(((bA plan (a:Int) rule).length:Int)-1) by omega]
   exact hend
theorem CS {tables:List az.D} {plan:List aa.D} (hp:aQ tables plan=true):bV tables (tidy plan)=bV tables plan:=by
 have hrf:=cz hp
 have hok:=DN hp
 have hl:=Bh hrf
 have hpos:=hrf.1
 have hcl:=ot hrf.2 plan.length ((List.replicate plan.length false).set (plan.length-1) true) (Nat.le_refl _) (by simp)
 have hp':=hp
 unfold aQ at hp'
 have h:=(Bool.and_eq_true_iff.1 hp').1
 unfold aX at h
 cases hr:fO tables plan with
 | none=>rw[hr] at h;cases h
 | some r=>
  obtain⟨st,st',v,e,hvl,q1,q2,⟨l1,l2,l3,hS⟩,q4,q5,q6⟩:=zL hr hrf.2 (eX plan) hcl plan.length (Nat.le_refl _)
  obtain⟨v',e',_,_,hL⟩:=oN (tables:=tables) hrf.2 (eX plan) hcl plan.length (Nat.le_refl _)
  have hvv:v'=v:=e'.symm.trans e
  subst hvv
  have hv:tidy plan=v'.2:=congrArg Prod.snd e
  have hst:st=r:=by
   rw[List.take_length] at q1
   exact Option.some.inj (q1.symm.trans hr)
  unfold bV
  rw[hok,hp]
  simp only[cond_true]
  rw[hv]
  have eA:(aX tables v'.2).1=st'.1:=by
   unfold aX fO
   rw[q2]
  have eB:(aX tables plan).1=st.1:=by
   unfold aX
   rw[hr,hst]
  rw[eA,eB,<-hL hpos hl]
  exact(hS _ (by omega) (by omega) hl).2.1
theorem Fo {tables:List az.D} {plan q:List aa.D} (hg:Good tables plan) (h:fy tables plan=some q):bV tables q=bV tables plan:=by
 unfold fy at h
 obtain⟨rule,_,h⟩:=kR h
 unfold fP at h
 obtain⟨a,ha,h⟩:=kR h
 obtain⟨a0,a1⟩:=fH.1 ha
 unfold gD at h
 obtain⟨h2,h⟩:=aG h
 cases h
 have e:((a.toNat:Nat):Int)=a:=by omega
 have h3:=yA (tables:=tables) (a:=a.toNat) (rule:=rule) (by omega) hg.1 hg.2 (by rw[e];exact h2)
 have h4:=Ew (tables:=tables) (a:=a.toNat) (rule:=rule) (by omega) hg.1 hg.2 (by rw[e];exact h2)
 rw[e] at h3 h4
 rw[CS h3.1,h4]
theorem Cv {tables:List az.D}:∀(n:Nat) {plan:List aa.D},Good tables plan->bV tables (iS tables n plan)=bV tables plan
 | 0,_,_=>rfl
 | n+1,plan,hg=>by
  unfold iS
  cases hb:fy tables plan with
  | none=>rfl
  | some q=>
   simp only
   rw[Cv n (lI hg hb),Fo hg hb]
theorem BC {tables:List az.D} {plan:List aa.D} (hs:Sm (.sl aa) plan) (hp:aQ tables plan=true):bV tables (cV tables plan)=bV tables plan:=by
 have hg:Good tables plan:=⟨hp,hs⟩
 unfold cV
 rw[hp,cond_true,Cv 12 (kL hg),CS hp]
theorem zd {tables:List az.D} {plan:List aa.D}:(bV tables plan).length<=4:=by
 unfold bV
 cases hp:aQ tables plan with
 | false=>exact Nat.zero_le _
 | true=>
  simp only[cond_true]
  have ht:cC tables=true:=(Bool.and_eq_true_iff.1 (Bool.and_eq_true_iff.1 hp).2).1
  unfold aX fO
  cases hr:cS (bH tables) plan ([],[]) with
  | none=>exact Nat.zero_le _
  | some st=>exact AL (uc ht plan ([],[]) st (fun _ h=>by cases h) hr) _
end M
end Go.AE
end
section
namespace Go.AE
open Go Go.RowKit
set_option linter.unusedSimpArgs false
set_option linter.unusedVariables false
theorem BE {row:List af.D} {E:List ax.D} (p:ax.D) (st:List af.D) (hp:Sm ax p) (hs:Sm (.sl af) st) (hl:st.length<=1000) (h1:M.takes p<=(st.length:Int)) (hk:1<=p.1/\p.1<=8) (hc:M.yC p row.length) :
  F.ep row E p st=some (.inl (M.cJ row st p)):=by
 obtain⟨t0,t2⟩:=vY p
 have hw:=ET (n:=st.length) (k:=M.takes p) (by omega) t0 t2
 have hct:=Am st (k:=(st.length:Int)-M.takes p) (by omega) (by omega)
 have hn:((st.length:Int)-M.takes p).toNat=st.length-(M.takes p).toNat:=by omega
 rw[hn] at hct
 unfold F.ep M.cJ
 rw[hw,hct]
 have hsm:Sm (.sl af) (st.drop (st.length-(M.takes p).toNat)):=⟨by rw[List.length_drop];omega,fun x hx=>hs.2 x (List.mem_of_mem_drop hx)⟩
 rw[ai hsm,ai hc,ai hk]
 simp only[aV]
 repeat rw[ai (by first | omega | (rw[List.length_drop];omega) | (unfold lim;simp;omega))]
 rw[hn]
end Go.AE
end
