/- A plan that is ok stays ok when it is made tidy: plain Lean. -/
import Derived.Test.YtiplhefglgpdoaaGreatAeMQ
import Derived.Test.YtiplhefglgpdoaaGreatAeMR
section
namespace Go.AE
open Go Go.RowKit
set_option linter.unusedVariables false
namespace M
theorem jf {u:List Bool} {i j:Int} (h0:0<=i) (hj:0<=j) (h:nth (t:=.bool) u j=true\/(i=j/\j<(u.length:Int))):nth (t:=.bool) (u.set i.toNat true) j=true:=by
 by_cases e:i=j
 ·subst e
  have hl:i<(u.length:Int):=by
   rcases h with h | h
   ·unfold nth at h
    rw[List.getD_eq_getElem?_getD] at h
    by_cases hl:i.toNat<u.length
    ·omega
    ·rw[List.getElem?_eq_none (by omega)] at h
     cases h
   ·exact h.2
  unfold nth
  rw[List.getD_eq_getElem?_getD,List.getElem?_set]
  simp
  rw[if_pos (by omega)]
  rfl
 ·rw[bV (t:=.bool) h0 hj e]
  rcases h with h | h
  ·exact h
  ·exact absurd h.1 e
theorem AJ {plan:List ah.D} {k:Int} {u:List Bool} (hin:fI k (nth (t:=ah) plan k)) {j:Int} (hj:0<=j) (h:nth (t:=.bool) u j=true):nth (t:=.bool) (bu plan k u) j=true:=by
 unfold bu
 by_cases h1:(nth (t:=ah) plan k).1=(1:Int)
 ·rw[decide_eq_true h1,Bool.not_true,Bool.and_false]
  exact h
 obtain⟨⟨a0,_⟩,b0,_⟩:=hin h1
 cases nth (t:=.bool) u k&&!decide ((nth (t:=ah) plan k).1=(1:Int))
 ·exact h
 cases two (nth (t:=ah) plan k).1
 ·exact jf a0 hj (.inl h)
 ·exact jf b0 hj (.inl (jf a0 hj (.inl h)))
theorem Bt {plan:List ah.D} {k:Int} {u:List Bool} (hin:fI k (nth (t:=ah) plan k)) {j:Int} (hj:0<=j) (hk:k<=j):nth (t:=.bool) (bu plan k u) j=nth (t:=.bool) u j:=by
 unfold bu
 by_cases h1:(nth (t:=ah) plan k).1=(1:Int)
 ·rw[decide_eq_true h1,Bool.not_true,Bool.and_false]
  rfl
 obtain⟨⟨a0,a1⟩,b0,b1⟩:=hin h1
 have na:¬(nth (t:=ah) plan k).2.1=j:=Int.ne_of_lt (Int.lt_of_lt_of_le a1 hk)
 have nb:¬(nth (t:=ah) plan k).2.2.1=j:=Int.ne_of_lt (Int.lt_of_lt_of_le b1 hk)
 cases nth (t:=.bool) u k&&!decide ((nth (t:=ah) plan k).1=(1:Int))
 ·rfl
 cases two (nth (t:=ah) plan k).1
 ·exact bV (t:=.bool) a0 hj na
 ·exact(bV (t:=.bool) b0 hj nb).trans (bV (t:=.bool) a0 hj na)
theorem Gf {plan:List ah.D} {k:Int} {u:List Bool} (hin:fI k (nth (t:=ah) plan k)) (hk:k<=(u.length:Int)) (h:nth (t:=.bool) u k=true) (h1:¬(nth (t:=ah) plan k).1=(1:Int)) :
  nth (t:=.bool) (bu plan k u) (nth (t:=ah) plan k).2.1=true/\(two (nth (t:=ah) plan k).1=true->nth (t:=.bool) (bu plan k u) (nth (t:=ah) plan k).2.2.1=true):=by
 unfold bu
 rw[h,decide_eq_false h1]
 obtain⟨⟨a0,a1⟩,b0,b1⟩:=hin h1
 have a2:=Int.lt_of_lt_of_le a1 hk
 have b2:=Int.lt_of_lt_of_le b1 hk
 have hA:=jf (u:=u) a0 a0 (.inr ⟨rfl,a2⟩)
 cases two (nth (t:=ah) plan k).1
 ·exact⟨hA,fun q=>by cases q⟩
 ·exact⟨jf b0 a0 (.inl hA),fun _=>jf b0 b0 (.inr ⟨rfl,by rw[List.length_set];exact b2⟩)⟩
theorem me {plan:List ah.D} (hr:∀i:Int,0<=i->i<(plan.length:Int)->fI i (nth (t:=ah) plan i)) {j:Int} (hj:0<=j):∀(n:Nat) (u:List Bool),n<=plan.length->nth (t:=.bool) u j=true->nth (t:=.bool) (cv (bu plan) n u) j=true
 | 0,_,_,h=>h
 | n+1,u,hn,h=>me hr hj n _ (by omega) (AJ (hr (n:Int) (by omega) (by omega)) hj h)
theorem Bn {plan:List ah.D} (hr:∀i:Int,0<=i->i<(plan.length:Int)->fI i (nth (t:=ah) plan i)) {j:Int} (hj:0<=j):∀(n:Nat) (u:List Bool),n<=plan.length->(n:Int)<=j->nth (t:=.bool) (cv (bu plan) n u) j=nth (t:=.bool) u j
 | 0,_,_,_=>rfl
 | n+1,u,hn,h=>(Bn hr hj n _ (by omega) (by omega)).trans (Bt (hr (n:Int) (by omega) (by omega)) hj (by omega))
theorem nx {plan:List ah.D} (hr:∀i:Int,0<=i->i<(plan.length:Int)->fI i (nth (t:=ah) plan i)):∀(n:Nat) (u:List Bool),n<=plan.length->u.length=plan.length->∀k:Int,0<=k->k<(n:Int) →
  nth (t:=.bool) (cv (bu plan) n u) k=true->¬(nth (t:=ah) plan k).1=(1:Int) →
  nth (t:=.bool) (cv (bu plan) n u) (nth (t:=ah) plan k).2.1=true/\(two (nth (t:=ah) plan k).1=true->nth (t:=.bool) (cv (bu plan) n u) (nth (t:=ah) plan k).2.2.1=true)
 | 0,_,_,_,k,k0,k1,_,_=>by omega
 | n+1,u,hn,hu,k,k0,k1,h,h1=>by
  unfold cv at h ⊢
  by_cases e:k=(n:Int)
  ·subst e
   rw[Bn hr (by omega) n _ (by omega) (Int.le_refl _),Bt (hr (n:Int) (by omega) (by omega)) (by omega) (Int.le_refl _)] at h
   have hin:=hr (n:Int) (by omega) (by omega)
   obtain⟨q1,q2⟩:=Gf (u:=u) hin (by omega) h h1
   obtain⟨⟨a0,_⟩,b0,_⟩:=hin h1
   exact⟨me hr a0 n _ (by omega) q1,fun ht=>me hr b0 n _ (by omega) (q2 ht)⟩
  ·exact nx hr n _ (by omega) (by rw[lU,hu]) k k0 (by omega) h h1
def CZ (st st':fk) (to:List Int) (j:Int):Prop:=(0<=nth (t:=.int .i64) to j/\nth (t:=.int .i64) to j<(st'.1.length:Int))/\nth (t:=.sl ag) st'.1 (nth (t:=.int .i64) to j)=nth (t:=.sl ag) st.1 j/\nth (t:=.int .i64) st'.2 (nth (t:=.int .i64) to j)=nth (t:=.int .i64) st.2 j
theorem FU {tables:List ax.D} {st st':fk} {to:List Int} {s:ah.D} {c:List ag.D} (hA:¬s.1=(1:Int)->CZ st st' to s.2.1) (hB:two s.1=true->CZ st st' to s.2.2.1) (h:bZ tables st.1 s=some c) :
  bZ tables st'.1 (ren to s)=some c/\aP st'.2 (ren to s)=aP st.2 s:=by
 have hin:=mX h
 have hf:bJ s=true:=by
  unfold bZ at h
  exact(aS h).1
 by_cases h1:s.1=(1:Int)
 ·have e:ren to s=s:=by
   unfold ren two
   rw[h1]
   exact Prod.ext h1.symm rfl
  rw[e]
  unfold bZ at h ⊢
  unfold aP
  rw[decide_eq_true h1] at h ⊢
  exact⟨h,rfl⟩
 ·obtain⟨⟨a0,a1⟩,⟨b0,b1⟩⟩:=hin h1
  obtain⟨⟨ra0,ra1⟩,ra2,ra3⟩:=hA h1
  have eA:(ren to s).2.1=nth (t:=.int .i64) to s.2.1:=by
   unfold ren
   rw[decide_eq_false h1]
   rfl
  have eK:(ren to s).1=s.1:=rfl
  have eN:(ren to s).2.2.2=s.2.2.2:=rfl
  cases ht:two s.1 with
  | true=>
   obtain⟨⟨rb0,rb1⟩,rb2,rb3⟩:=hB ht
   have eB:(ren to s).2.2.1=nth (t:=.int .i64) to s.2.2.1:=by
    unfold ren
    rw[ht]
    rfl
   unfold bZ at h ⊢
   unfold aP
   rw[yI,eK,eN,eA,eB,ra2,rb2,ra3,rb3,decide_eq_false h1,lT.2 ⟨ra0,ra1⟩,lT.2 ⟨rb0,rb1⟩]
   rw[decide_eq_false h1,lT.2 ⟨a0,a1⟩,lT.2 ⟨b0,b1⟩] at h
   exact⟨h,rfl⟩
  | false=>
   have eB:(ren to s).2.2.1=s.2.2.1:=by
    unfold ren
    rw[ht]
    rfl
   have hb:=HN hf ht
   have k4:decide (s.1=(4:Int))=false:=by
    unfold two at ht
    exact(Bool.or_eq_false_iff.1 ht).1
   have k5:decide (s.1=(5:Int))=false:=by
    unfold two at ht
    exact(Bool.or_eq_false_iff.1 ht).2
   have hz:inR s.2.2.1 0 ((st'.1.length:Int)-1)=true:=by
    rw[hb]
    exact lT.2 ⟨Int.le_refl _,Int.lt_of_le_of_lt ra0 ra1⟩
   unfold bZ at h ⊢
   unfold aP
   rw[yI,eK,eN,eA,eB,ra2,ra3,decide_eq_false h1,lT.2 ⟨ra0,ra1⟩,hz,k4,k5]
   rw[decide_eq_false h1,lT.2 ⟨a0,a1⟩,lT.2 ⟨b0,b1⟩,k4,k5] at h
   exact⟨h,rfl⟩
theorem DG {tables:List ax.D} {plan:List ah.D} {r:fk} (hr:jt tables plan=some r) (hrf:∀i:Int,0<=i->i<(plan.length:Int)->fI i (nth (t:=ah) plan i)) (need:List Bool)
  (hn:∀k:Int,0<=k->k<(plan.length:Int)->nth (t:=.bool) need k=true->¬(nth (t:=ah) plan k).1=(1:Int)->nth (t:=.bool) need (nth (t:=ah) plan k).2.1=true/\(two (nth (t:=ah) plan k).1=true->nth (t:=.bool) need (nth (t:=ah) plan k).2.2.1=true)) :
  ∀(n:Nat),n<=plan.length->∃st st' v,(aK 0 (n:Int)).foldl (bt plan need) (List.replicate plan.length (0:Int),[])=v/\v.1.length=plan.length/\dr (bQ tables) (plan.take n) ([],[])=some st ∧
   dr (bQ tables) v.2 ([],[])=some st'/\((st.1.length:Int)=n/\(st.2.length:Int)=n/\st'.1.length=st'.2.length/\∀j:Int,0<=j->j<(n:Int)->nth (t:=.bool) need j=true->CZ st st' v.1 j) ∧
   st'.1.length=v.2.length/\v.2.length<=n/\(∀j:Int,0<=j->j<(n:Int)->nth (t:=.bool) need j=true->0<v.2.length)
 | 0,_=>⟨([],[]),([],[]),_,rfl,by rw[bP (by omega)];simp,rfl,by rw[bP (by omega)];rfl,⟨rfl,rfl,rfl,fun j j0 j1=>by omega⟩,by rw[bP (by omega)];rfl,by rw[bP (by omega)];exact Nat.le_refl _,fun j j0 j1=>by omega⟩
 | n+1,hl=>by
  obtain⟨st,st',v,e,hvl,h1,h2,⟨l1,l2,l3,hS⟩,h4,h5,h6⟩:=DG hr hrf need hn n (by omega)
  obtain⟨st2,h7⟩:=yR (bQ tables) plan (n+1) ([],[]) r hr
  have h8:bQ tables st (nth (t:=ah) plan (n:Int))=some st2:=by
   rw[jZ (t:=ah) (by omega),tc,h1] at h7
   exact h7
  obtain⟨c,hc,hd,rfl⟩:=iC h8
  have hsn:aK 0 ((n+1:Nat):Int)=aK 0 (n:Int)++[(n:Int)]:=by
   unfold aK
   have e1:(((n+1:Nat):Int)-0).toNat=n+1:=by omega
   have e2:((n:Int)-0).toNat=n:=by omega
   rw[e1,e2,List.range_succ,List.map_append]
   simp
  have hfold:(aK 0 ((n+1:Nat):Int)).foldl (bt plan need) (List.replicate plan.length (0:Int),[])=bt plan need v (n:Int):=by
   rw[hsn,List.foldl_append,e]
   rfl
  have L1:(((st.1++[c]).length:Nat):Int)=((n+1:Nat):Int):=by simp;omega
  have L2:(((st.2++[aP st.2 (nth (t:=ah) plan (n:Int))]).length:Nat):Int)=((n+1:Nat):Int):=by simp;omega
  cases hq:nth (t:=.bool) need (n:Int) with
  | false=>
   have ev:bt plan need v (n:Int)=v:=by unfold bt;rw[hq];rfl
   rw[ev] at hfold
   refine⟨_,st',v,hfold,hvl,h7,h2,⟨L1,L2,l3,fun j j0 j1 hj=>?_⟩,h4,by omega,fun j j0 j1 hj=>?_⟩
   ·have hne:¬j=(n:Int):=fun q=>by rw[q,hq] at hj;cases hj
    obtain⟨q1,q2,q3⟩:=hS j j0 (by omega) hj
    exact⟨q1,q2.trans (fL (t:=.sl ag) j0 (by omega)).symm,q3.trans (fL (t:=.int .i64) j0 (by omega)).symm⟩
   ·have hne:¬j=(n:Int):=fun q=>by rw[q,hq] at hj;cases hj
    exact h6 j j0 (by omega) hj
  | true=>
   have ev:bt plan need v (n:Int)=(v.1.set n (v.2.length:Int),v.2++[ren v.1 (nth (t:=ah) plan (n:Int))]):=by unfold bt;rw[hq];rfl
   have hin:=hrf (n:Int) (by omega) (by omega)
   have hcl:=hn (n:Int) (by omega) (by omega) hq
   obtain⟨hc',hm'⟩:=FU (st':=st') (to:=v.1) (fun q=>hS _ (hin q).1.1 (hin q).1.2 (hcl q).1) (fun q=>by
    have q1:¬(nth (t:=ah) plan (n:Int)).1=(1:Int):=fun z=>by rw[z] at q;cases q
    exact hS _ (hin q1).2.1 (hin q1).2.2 ((hcl q1).2 q)) hc
   have hp:=Ca hc' hm' hd
   rw[ev] at hfold
   have e3:dr (bQ tables) (v.2++[ren v.1 (nth (t:=ah) plan (n:Int))]) ([],[])=some (st'.1++[c],st'.2++[aP st.2 (nth (t:=ah) plan (n:Int))]):=by
    rw[tc,h2]
    exact hp
   refine⟨_,_,_,hfold,by simp[hvl],h7,e3,⟨L1,L2,by simp[l3],fun j j0 j1 hj=>?_⟩,by simp[h4],by simp;omega,fun j j0 j1 hj=>by simp⟩
   by_cases hjn:j=(n:Int)
   ·subst hjn
    have et:nth (t:=.int .i64) (v.1.set n (v.2.length:Int)) (n:Int)=(v.2.length:Int):=by
     unfold nth
     rw[List.getD_eq_getElem?_getD,List.getElem?_set]
     simp
     rw[if_pos (by omega)]
     rfl
    unfold CZ
    simp only
    rw[et]
    have z0:(0:Int)<=(v.2.length:Int):=by omega
    have z1:(v.2.length:Int)<(((st'.1++[c]).length:Nat):Int):=by simp;omega
    refine⟨⟨z0,z1⟩,?_,?_⟩
    ·rw[iL (t:=.sl ag) (by omega),iL (t:=.sl ag) (by omega)]
    ·rw[iL (t:=.int .i64) (by omega),iL (t:=.int .i64) (by omega)]
   ·have et:nth (t:=.int .i64) (v.1.set n (v.2.length:Int)) j=nth (t:=.int .i64) v.1 j:=by
     have:=bV (t:=.int .i64) (a:=v.1) (i:=(n:Int)) (j:=j) (z:=(v.2.length:Int)) (by omega) j0 (fun q=>hjn q.symm)
     simpa using this
    obtain⟨⟨q0,q1⟩,q2,q3⟩:=hS j j0 (by omega) hj
    unfold CZ
    simp only
    rw[et]
    refine⟨⟨q0,by simp;exact Int.lt_trans q1 (Int.lt_succ _)⟩,?_,?_⟩
    ·rw[fL (t:=.sl ag) q0 q1,fL (t:=.sl ag) j0 (by omega)]
     exact q2
    ·rw[fL (t:=.int .i64) q0 (by rw[<-l3];exact q1),fL (t:=.int .i64) j0 (by omega)]
     exact q3
theorem vc {tables:List ax.D} {plan:List ah.D} (hp:bC tables plan=true):bC tables (tidy plan)=true:=by
 have hp':=hp
 obtain⟨hpos,hrf⟩:=cT hp'
 have h6:=DW hp'
 unfold bC at hp
 obtain⟨h1,h2⟩:=Bool.and_eq_true_iff.1 hp
 obtain⟨ht,h2⟩:=Bool.and_eq_true_iff.1 h2
 unfold cY at h1
 cases hr:jt tables plan with
 | none=>rw[hr] at h1;cases h1
 | some r=>
  have hlast:nth (t:=.bool) (cn plan) ((plan.length:Int)-1)=true:=by
   unfold cn
   refine me hrf (by omega) plan.length _ (Nat.le_refl _) ?_
   have:=jf (u:=List.replicate plan.length false) (i:=(plan.length:Int)-1) (j:=(plan.length:Int)-1) (by omega) (by omega) (.inr ⟨rfl,by simp;omega⟩)
   rw[show ((plan.length:Int)-1).toNat=plan.length-1 by omega] at this
   exact this
  have hcl:=nx hrf plan.length ((List.replicate plan.length false).set (plan.length-1) true) (Nat.le_refl _) (by simp)
  obtain⟨st,st',v,e,hl,_,q2,q3,q4,q5,q6⟩:=DG hr hrf (cn plan) hcl plan.length (Nat.le_refl _)
  have hv:tidy plan=v.2:=congrArg Prod.snd e
  have hpl:=q6 _ (by omega) (by omega) hlast
  rw[hv]
  unfold bC cY jt
  rw[q2,ht]
  simp only[Bool.true_and]
  unfold inR
  rw[decide_eq_true (show (1:Int)<=(v.2.length:Int) by omega),Bool.true_and]
  exact decide_eq_true (by omega)
end M
end Go.AE
end
section
namespace Go.AE
open Go Go.RowKit
set_option linter.unusedVariables false
namespace M
theorem tN (tables:List ax.D) (xs:List ah.D) (s:ah.D):fm tables (xs++[s])=fm tables xs++[cI tables (fm tables xs) s]:=by
 unfold fm
 rw[List.foldl_append]
 rfl
theorem xe (tables:List ax.D):∀(xs:List ah.D),(fm tables xs).length=xs.length:=by
 have key:∀(xs:List ah.D) (a:List (List (List af.D))),(xs.foldl (eV tables) a).length=a.length+xs.length:=by
  intro xs
  induction xs with
  | nil=>intro a;simp
  | cons x xs ih=>intro a;rw[List.foldl_cons,ih];unfold eV;simp;omega
 intro xs
 have:=key xs []
 unfold fm
 simpa using this
theorem Ec {k:Int} (h:two k=true):¬k=(1:Int):=fun z=>by rw[z] at h;cases h
theorem EL {tables:List ax.D} {ahead ahead':List (List (List af.D))} {s s':ah.D} (h1:s'.1=s.1) (h2:s'.2.2.2=s.2.2.2) (hA:¬s.1=(1:Int)->nth (t:=.sl (.sl af)) ahead' s'.2.1=nth (t:=.sl (.sl af)) ahead s.2.1)
  (hB:two s.1=true->nth (t:=.sl (.sl af)) ahead' s'.2.2.1=nth (t:=.sl (.sl af)) ahead s.2.2.1):cI tables ahead' s'=cI tables ahead s:=by
 unfold cI
 rw[h1,h2]
 by_cases k1:s.1=(1:Int)
 ·rw[decide_eq_true k1]
  rfl
 rw[hA k1]
 cases ht:two s.1 with
 | true=>rw[hB ht]
 | false=>
  unfold two at ht
  obtain⟨k4,k5⟩:=Bool.or_eq_false_iff.1 ht
  rw[k4,k5]
  rfl
theorem DE {tables:List ax.D} {ahead ahead':List (List (List af.D))} {to:List Int} {s:ah.D} (hA:¬s.1=(1:Int)->nth (t:=.sl (.sl af)) ahead' (nth (t:=.int .i64) to s.2.1)=nth (t:=.sl (.sl af)) ahead s.2.1)
  (hB:two s.1=true->nth (t:=.sl (.sl af)) ahead' (nth (t:=.int .i64) to s.2.2.1)=nth (t:=.sl (.sl af)) ahead s.2.2.1):cI tables ahead' (ren to s)=cI tables ahead s:=by
 refine EL rfl rfl (fun k1=>?_) (fun ht=>?_)
 ·rw[<-hA k1]
  unfold ren
  rw[decide_eq_false k1]
  rfl
 ·rw[<-hB ht]
  unfold ren
  rw[ht]
  rfl
theorem take_one {plan:List ah.D} {n:Nat} (h:n<plan.length):plan.take (n+1)=plan.take n++[nth (t:=ah) plan (n:Int)]:=jZ (t:=ah) h
theorem kR (n:Nat):aK 0 ((n+1:Nat):Int)=aK 0 (n:Int)++[(n:Int)]:=by
 unfold aK
 have e1:(((n+1:Nat):Int)-0).toNat=n+1:=by omega
 have e2:((n:Int)-0).toNat=n:=by omega
 rw[e1,e2,List.range_succ,List.map_append]
 simp
theorem sv {tables:List ax.D} {plan:List ah.D} (hrf:∀i:Int,0<=i->i<(plan.length:Int)->fI i (nth (t:=ah) plan i)) (need:List Bool)
  (hn:∀k:Int,0<=k->k<(plan.length:Int)->nth (t:=.bool) need k=true->¬(nth (t:=ah) plan k).1=(1:Int)->nth (t:=.bool) need (nth (t:=ah) plan k).2.1=true/\(two (nth (t:=ah) plan k).1=true->nth (t:=.bool) need (nth (t:=ah) plan k).2.2.1=true)) :
  ∀(n:Nat),n<=plan.length->∃v,(aK 0 (n:Int)).foldl (bt plan need) (List.replicate plan.length (0:Int),[])=v/\v.1.length=plan.length ∧
   (∀j:Int,0<=j->j<(n:Int)->nth (t:=.bool) need j=true->(0<=nth (t:=.int .i64) v.1 j/\nth (t:=.int .i64) v.1 j<(v.2.length:Int))/\nth (t:=.sl (.sl af)) (fm tables v.2) (nth (t:=.int .i64) v.1 j)=nth (t:=.sl (.sl af)) (fm tables (plan.take n)) j) ∧
   (0<n->nth (t:=.bool) need ((n:Int)-1)=true->nth (t:=.int .i64) v.1 ((n:Int)-1)=(v.2.length:Int)-1)
 | 0,_=>⟨_,rfl,by rw[bP (by omega)];simp,fun j j0 j1=>by omega,fun h=>by omega⟩
 | n+1,hl=>by
  obtain⟨v,e,hvl,hS,_⟩:=sv (tables:=tables) hrf need hn n (by omega)
  have hfold:(aK 0 ((n+1:Nat):Int)).foldl (bt plan need) (List.replicate plan.length (0:Int),[])=bt plan need v (n:Int):=by
   rw[kR,List.foldl_append,e]
   rfl
  have hlt:n<plan.length:=by omega
  have hlen:(fm tables (plan.take n)).length=n:=by rw[xe,List.length_take];omega
  have hlenv:=xe tables v.2
  rw[hfold,take_one hlt,tN]
  have hne:∀j:Int,j<((n+1:Nat):Int)->¬j=(n:Int)->j<(n:Int):=by intro j h1 h2;omega
  have en:((n+1:Nat):Int)-1=(n:Int):=by omega
  cases hq:nth (t:=.bool) need (n:Int) with
  | false=>
   have ev:bt plan need v (n:Int)=v:=by unfold bt;rw[hq];rfl
   rw[ev]
   refine⟨v,rfl,hvl,fun j j0 j1 hj=>?_,fun _ h=>?_⟩
   ·have hj1:=hne j j1 (fun q=>by rw[q,hq] at hj;cases hj)
    obtain⟨q1,q2⟩:=hS j j0 hj1 hj
    refine⟨q1,?_⟩
    rw[fL (t:=.sl (.sl af)) j0 (by rw[hlen];exact hj1)]
    exact q2
   ·rw[en,hq] at h
    cases h
  | true=>
   have ev:bt plan need v (n:Int)=(v.1.set n (v.2.length:Int),v.2++[ren v.1 (nth (t:=ah) plan (n:Int))]):=by unfold bt;rw[hq];rfl
   have hin:=hrf (n:Int) (by omega) (by omega)
   have hcl:=hn (n:Int) (by omega) (by omega) hq
   have hrow:cI tables (fm tables v.2) (ren v.1 (nth (t:=ah) plan (n:Int)))=cI tables (fm tables (plan.take n)) (nth (t:=ah) plan (n:Int)):=
    DE (fun k1=>(hS _ (hin k1).1.1 (hin k1).1.2 (hcl k1).1).2) (fun ht=>(hS _ (hin (Ec ht)).2.1 (hin (Ec ht)).2.2 ((hcl (Ec ht)).2 ht)).2)
   rw[ev]
   have et:nth (t:=.int .i64) (v.1.set n (v.2.length:Int)) (n:Int)=(v.2.length:Int):=by
    unfold nth
    rw[List.getD_eq_getElem?_getD,List.getElem?_set]
    simp
    rw[if_pos (by omega)]
    rfl
   refine⟨_,rfl,by simp[hvl],fun j j0 j1 hj=>?_,fun _ _=>?_⟩
   ·simp only
    rw[tN]
    by_cases hjn:j=(n:Int)
    ·subst hjn
     rw[et,iL (t:=.sl (.sl af)) (by rw[hlenv]),iL (t:=.sl (.sl af)) (by rw[hlen])]
     exact⟨⟨Int.natCast_nonneg _,Int.ofNat_lt.2 (by simp)⟩,hrow⟩
    ·have hj1:=hne j j1 hjn
     have et2:nth (t:=.int .i64) (v.1.set n (v.2.length:Int)) j=nth (t:=.int .i64) v.1 j:=by
      have:=bV (t:=.int .i64) (a:=v.1) (i:=(n:Int)) (j:=j) (z:=(v.2.length:Int)) (by omega) j0 (fun q=>hjn q.symm)
      simpa using this
     obtain⟨⟨q0,q1⟩,q2⟩:=hS j j0 hj1 hj
     rw[et2,fL (t:=.sl (.sl af)) q0 (by rw[hlenv];exact q1),fL (t:=.sl (.sl af)) j0 (by rw[hlen];exact hj1)]
     exact⟨⟨q0,Int.lt_trans q1 (Int.ofNat_lt.2 (by simp))⟩,q2⟩
   ·simp only
    rw[en,et]
    simp
theorem zQ {plan:List ah.D} (h:iW plan):nth (t:=.bool) (cn plan) ((plan.length:Int)-1)=true:=by
 obtain⟨hpos,hrf⟩:=h
 unfold cn
 refine me hrf (by omega) plan.length _ (Nat.le_refl _) ?_
 have:=jf (u:=List.replicate plan.length false) (i:=(plan.length:Int)-1) (j:=(plan.length:Int)-1) (by omega) (by omega) (.inr ⟨rfl,by simp;omega⟩)
 rw[show ((plan.length:Int)-1).toNat=plan.length-1 by omega] at this
 exact this
theorem GA {tables:List ax.D} {plan:List ah.D} (hp:bC tables plan=true):dG tables (tidy plan)=dG tables plan:=by
 have hrf:=cT hp
 have hok:=vc hp
 have hl:=zQ hrf
 obtain⟨v,e,hvl,hS,hL⟩:=sv (tables:=tables) hrf.2 (cn plan) (nx hrf.2 plan.length _ (Nat.le_refl _) (by simp)) plan.length (Nat.le_refl _)
 have hv:tidy plan=v.2:=congrArg Prod.snd e
 have h1:=hrf.1
 have h2:=(hS _ (by omega) (by omega) hl).2
 rw[hL h1 hl] at h2
 unfold dG
 rw[hok,hp,hv]
 simp only[cond_true]
 rw[h2,List.take_length]
end M
end Go.AE
end
