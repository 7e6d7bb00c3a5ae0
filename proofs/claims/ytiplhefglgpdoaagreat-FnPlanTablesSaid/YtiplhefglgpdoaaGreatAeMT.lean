/- Which tables a plan names: plain Lean. -/
import Derived.Test.YtiplhefglgpdoaaGreatAeY
namespace Go.AE
open Go Go.RowKit
set_option linter.unusedVariables false
def M.eI (plan:List aj.D) (k:Int) (v:List Bool×List Bool):List Bool×List Bool:=
 (bL plan k v.1,cond (nth (t:=.bool) v.1 k&&decide ((nth (t:=aj) plan k).1=(1:Int))) (v.2.set (nth (t:=aj) plan k).2.2.2.1.toNat true) v.2)
def M.asked (n:Nat) (plan:List aj.D):List Bool:=(cF (eI plan) plan.length ((List.replicate plan.length false).set (plan.length-1) true,List.replicate n false)).2
def M.br (tables:List aq.D) (plan:List aj.D):List Int:=cond (bQ tables plan) ((aM 0 (tables.length:Int)).filter fun k=>nth (t:=.bool) (asked tables.length plan) k) []
def M.dH (plan:List aj.D):List Int:=((aM 0 (plan.length:Int)).filter fun k=>nth (t:=.bool) (jm plan) k&&decide ((nth (t:=aj) plan k).1=(1:Int))).map fun k=>(nth (t:=aj) plan k).2.2.2.1
namespace M
theorem EE {σ α:Type} (g:σ->α->Option σ):∀(xs:List α) (s r:σ),fF g xs s=some r->∀x∈xs,∃s1 s2,g s1 x=some s2
 | y::xs,s,r,h,x,hx=>by
  unfold fF at h
  cases hg:g s y with
  | none=>rw[hg] at h;cases h
  | some s'=>
   rw[hg] at h
   rcases List.mem_cons.1 hx with rfl | hx
   ·exact⟨s,s',hg⟩
   ·exact EE g xs s' r h x hx
theorem pK {tables:List aq.D} {plan:List aj.D} (h:bQ tables plan=true) {s:aj.D} (hs:s∈plan) (h1:s.1=(1:Int)):0<=s.2.2.2.1/\s.2.2.2.1<(tables.length:Int):=by
 unfold bQ at h
 obtain⟨h2,_⟩:=Bool.and_eq_true_iff.1 h
 unfold cY at h2
 cases hr:lC tables plan with
 | none=>rw[hr] at h2;cases h2
 | some st=>
  obtain⟨s1,s2,hg⟩:=EE _ plan _ _ hr s hs
  obtain⟨c,hc,_⟩:=jP hg
  unfold ct at hc
  cases hf:bT s with
  | false=>rw[hf] at hc;cases hc
  | true=>
   rw[hf,decide_eq_true h1,cond_true,cond_true] at hc
   cases hi:inR s.2.2.2.1 0 ((tables.length:Int)-1) with
   | false=>rw[hi] at hc;cases hc
   | true=>exact Ih.1 hi
theorem Bx {t:Ty} {a:List t.D} {i:Int} {z:t.D} (h0:0<=i) (h1:i<(a.length:Int)):nth (t:=t) (a.set i.toNat z) i=z:=by
 unfold nth
 rw[List.getD_eq_getElem?_getD,List.getElem?_set_self (by omega)]
 rfl
theorem zj {plan:List aj.D} {k j:Int} {u:List Bool} (hin:hY k (nth (t:=aj) plan k)) (hk:k<=j):nth (t:=.bool) (bL plan k u) j=nth (t:=.bool) u j:=by
 unfold bL
 by_cases h1:(nth (t:=aj) plan k).1=(1:Int)
 ·rw[decide_eq_true h1]
  simp
 ·obtain⟨⟨a0,a1⟩,⟨b0,b1⟩⟩:=hin h1
  have j0:0<=j:=Int.le_trans a0 (Int.le_trans (Int.le_of_lt a1) hk)
  have na:=Int.ne_of_lt (Int.lt_of_lt_of_le a1 hk)
  have nb:=Int.ne_of_lt (Int.lt_of_lt_of_le b1 hk)
  rw[decide_eq_false h1]
  cases nth (t:=.bool) u k with
  | false=>rfl
  | true=>
   simp only[Bool.not_false,Bool.and_true,cond_true]
   cases two (nth (t:=aj) plan k).1 with
   | false=>rw[cond_false,eW a0 j0 na]
   | true=>rw[cond_true,eW b0 j0 nb,eW a0 j0 na]
theorem wq {plan:List aj.D} (hr:ng plan):∀(n:Nat) (u:List Bool) (j:Int),(n:Int)<=(plan.length:Int)->(n:Int)<=j->nth (t:=.bool) (cF (bL plan) n u) j=nth (t:=.bool) u j
 | 0,u,j,_,_=>rfl
 | n+1,u,j,hn,hj=>by
  rw[show cF (bL plan) (n+1) u=cF (bL plan) n (bL plan (n:Int) u) from rfl,wq hr n _ j (by omega) (by omega)]
  exact zj (hr.2 n (by omega) (by omega)) (by omega)
theorem Bg {plan:List aj.D} (hr:ng plan) {T:Nat} (ht:∀k:Int,0<=k->k<(plan.length:Int)->(nth (t:=aj) plan k).1=(1:Int)->0<=(nth (t:=aj) plan k).2.2.2.1/\(nth (t:=aj) plan k).2.2.2.1<(T:Int)) :
  ∀(n:Nat) (u a:List Bool),(n:Int)<=(plan.length:Int)->a.length=T->(cF (eI plan) n (u,a)).1=cF (bL plan) n u/\(cF (eI plan) n (u,a)).2.length=T ∧
   ∀j:Int,0<=j->j<(T:Int)->(nth (t:=.bool) (cF (eI plan) n (u,a)).2 j=true ↔ nth (t:=.bool) a j=true\/∃k:Int,0<=k/\k<(n:Int)/\nth (t:=.bool) (cF (bL plan) n u) k=true/\(nth (t:=aj) plan k).1=(1:Int)/\(nth (t:=aj) plan k).2.2.2.1=j)
 | 0,u,a,_,ha=>⟨rfl,ha,fun j _ _=>⟨.inl,fun h=>h.elim id fun⟨k,h1,h2,_⟩=>absurd h2 (by omega)⟩⟩
 | n+1,u,a,hn,ha=>by
  have hl:(eI plan (n:Int) (u,a)).2.length=T:=by
   unfold eI
   cases (nth (t:=.bool) u n&&decide ((nth (t:=aj) plan n).1=(1:Int))) with
   | false=>exact ha
   | true=>show (List.set _ _ _).length=T;rw[List.length_set];exact ha
  obtain⟨h1,h2,h3⟩:=Bg hr ht n (eI plan (n:Int) (u,a)).1 (eI plan (n:Int) (u,a)).2 (by omega) hl
  refine⟨h1,h2,fun j j0 j1=>?_⟩
  have e1:cF (eI plan) (n+1) (u,a)=cF (eI plan) n ((eI plan (n:Int) (u,a)).1,(eI plan (n:Int) (u,a)).2):=rfl
  have e2:cF (bL plan) (n+1) u=cF (bL plan) n (eI plan (n:Int) (u,a)).1:=rfl
  have hself:nth (t:=.bool) (cF (bL plan) n (eI plan (n:Int) (u,a)).1) (n:Int)=nth (t:=.bool) u (n:Int):=by
   rw[wq hr n _ _ (by omega) (Int.le_refl _)]
   exact zj (hr.2 n (by omega) (by omega)) (Int.le_refl _)
  rw[e1,e2,h3 j j0 j1]
  have hset:nth (t:=.bool) (eI plan (n:Int) (u,a)).2 j=true ↔ nth (t:=.bool) a j=true\/(nth (t:=.bool) u (n:Int)=true/\(nth (t:=aj) plan (n:Int)).1=(1:Int)/\(nth (t:=aj) plan (n:Int)).2.2.2.1=j):=by
   unfold eI
   by_cases hu:nth (t:=.bool) u (n:Int)=true
   ·by_cases hk:(nth (t:=aj) plan (n:Int)).1=(1:Int)
    ·obtain⟨t0,t1⟩:=ht n (by omega) (by omega) hk
     rw[show (nth (t:=.bool) u (n:Int)&&decide ((nth (t:=aj) plan (n:Int)).1=(1:Int)))=true by rw[hu,decide_eq_true hk];rfl,cond_true]
     by_cases hj:(nth (t:=aj) plan (n:Int)).2.2.2.1=j
     ·rw[hj,Bx j0 (by rw[ha];exact j1)]
      exact⟨fun _=>.inr ⟨hu,hk,rfl⟩,fun _=>rfl⟩
     ·rw[eW t0 j0 hj]
      exact⟨.inl,fun h=>h.elim id fun h=>absurd h.2.2 hj⟩
    ·rw[show (nth (t:=.bool) u (n:Int)&&decide ((nth (t:=aj) plan (n:Int)).1=(1:Int)))=false by rw[decide_eq_false hk];simp,cond_false]
     exact⟨.inl,fun h=>h.elim id fun h=>absurd h.2.1 hk⟩
   ·rw[show (nth (t:=.bool) u (n:Int)&&decide ((nth (t:=aj) plan (n:Int)).1=(1:Int)))=false by rw[Bool.eq_false_iff.2 hu];rfl,cond_false]
    exact⟨.inl,fun h=>h.elim id fun h=>absurd h.1 hu⟩
  rw[hset]
  constructor
  ·rintro ((h | ⟨q1,q2,q3⟩) | ⟨k,k0,k1,k2,k3,k4⟩)
   ·exact .inl h
   ·exact .inr ⟨n,by omega,by omega,by rw[hself];exact q1,q2,q3⟩
   ·exact .inr ⟨k,k0,by omega,k2,k3,k4⟩
  ·rintro (h | ⟨k,k0,k1,k2,k3,k4⟩)
   ·exact .inl (.inl h)
   ·by_cases hk:k=(n:Int)
    ·subst hk
     rw[hself] at k2
     exact .inl (.inr ⟨k2,k3,k4⟩)
    ·exact .inr ⟨k,k0,by omega,k2,k3,k4⟩
theorem Hu {tables:List aq.D} {plan:List aj.D} (h:bQ tables plan=true):cD (gO (dH plan))=br tables plan:=by
 have hr:=gB h
 have ht:∀k:Int,0<=k->k<(plan.length:Int)->(nth (t:=aj) plan k).1=(1:Int)->0<=(nth (t:=aj) plan k).2.2.2.1/\(nth (t:=aj) plan k).2.2.2.1<(tables.length:Int):=fun k k0 k1 hk=>pK h (iq (t:=aj) k0 k1) hk
 obtain⟨_,_,h3⟩:=Bg hr ht plan.length ((List.replicate plan.length false).set (plan.length-1) true) (List.replicate tables.length false) (Int.le_refl _) (by simp)
 unfold br
 rw[h,cond_true]
 refine Fp ((zE _ _).sublist List.filter_sublist) fun z=>?_
 unfold dH
 rw[List.mem_map,List.mem_filter,dV]
 have hz:∀j:Int,¬nth (t:=.bool) (List.replicate tables.length false) j=true:=by
  intro j hj
  unfold nth at hj
  rw[List.getD_eq_getElem?_getD,List.getElem?_replicate] at hj
  split at hj<;>cases hj
 constructor
 ·rintro ⟨k,hk,rfl⟩
  obtain⟨hk1,hk2⟩:=List.mem_filter.1 hk
  obtain⟨k0,k1⟩:=dV.1 hk1
  obtain⟨q1,q2⟩:=Bool.and_eq_true_iff.1 hk2
  have q2:=of_decide_eq_true q2
  obtain⟨t0,t1⟩:=ht k k0 k1 q2
  exact⟨⟨t0,t1⟩,(h3 _ t0 t1).2 (.inr ⟨k,k0,k1,q1,q2,rfl⟩)⟩
 ·rintro ⟨⟨t0,t1⟩,hn⟩
  rcases(h3 z t0 t1).1 hn with hn | ⟨k,k0,k1,k2,k3,k4⟩
  ·exact absurd hn (hz z)
  ·exact⟨k,List.mem_filter.2 ⟨dV.2 ⟨k0,k1⟩,Bool.and_eq_true_iff.2 ⟨k2,decide_eq_true k3⟩⟩,k4⟩
theorem zF {tables:List aq.D} {plan:List aj.D} (h:Sm (.sl aq) tables):Sm (.sl (.int .i64)) (br tables plan):=by
 unfold br
 refine mV ⟨?_,fun _ _=>trivial⟩ (lY _)
 refine Nat.le_trans (List.length_filter_le _ _) ?_
 have:=h.1
 show (aM 0 (tables.length:Int)).length<=1048576
 unfold aM
 rw[List.length_map,List.length_range]
 omega
theorem FN (plan:List aj.D):(dH plan).length<=plan.length:=by
 unfold dH
 rw[List.length_map]
 refine Nat.le_trans (List.length_filter_le _ _) ?_
 unfold aM
 rw[List.length_map,List.length_range]
 omega
theorem wv {σ τ:Type} {f:Int×σ->Option (Sum (Int×σ) τ)} (g:Int->σ->σ) (o:σ->τ) (I:σ->Prop) (N:Nat)
  (h:∀(k:Int) (u:σ),0<=k->k<(N:Int)->I u->f (k,u)=some (.inl (k-1,g k u))/\I (g k u)) (he:∀u,I u->f (-1,u)=some (.inr (o u))) :
  ∀(n:Nat) (u:σ),n<=N->I u->bZ f ((n:Int)-1,u)=some (o (cF g n u))/\I (cF g n u)
 | 0,u,_,hI=>by
  rw[cR,show ((0:Nat):Int)-1=-1 from rfl,he u hI]
  exact⟨rfl,hI⟩
 | n+1,u,hn,hI=>by
  obtain⟨h1,h2⟩:=h (n:Int) u (by omega) (by omega) hI
  rw[cR,show ((n+1:Nat):Int)-1=(n:Int) by omega,h1,aO]
  exact wv g o I N h he n _ (by omega) h2
theorem yL {ρ:Type} {f:Int->List Int->Option (Sum (List Int) ρ)} (p:Int->Bool) (g:Int->Int) (n:Int) (h:∀(i:Int) (s:List Int),0<=i->i<n->(s.length:Int)<=i->f i s=some (.inl (cond (p i) (s++[g i]) s))) :
  aL f (aM 0 n) []=some (.inl (((aM 0 n).filter p).map g)):=by
 have key:∀(m:Nat) (i:Int) (s:List Int),m=(n-i).toNat->0<=i->(s.length:Int)<=i->aL f (aM i n) s=some (.inl (s++((aM i n).filter p).map g)):=by
  intro m
  induction m with
  | zero=>intro i s hn h0 hs;rw[ew (by omega)];simp[aL]
  | succ m ih=>
   intro i s hn h0 hs
   have hlt:i<n:=by omega
   rw[dG hlt,bw,h i s h0 hlt hs,aO]
   cases hp:p i with
   | true=>rw[cond_true,ih (i+1) _ (by omega) (by omega) (by simp;omega)];simp[hp]
   | false=>rw[cond_false,ih (i+1) _ (by omega) (by omega) (by omega)];simp[hp]
 have:=key n.toNat 0 [] (by omega) (by omega) (by simp)
 simpa using this
end M
end Go.AE
