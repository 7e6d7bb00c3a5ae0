/- Plans: plain Lean. -/
import Derived.Test.YtiplhefglgpdoaaGreatAeMM
import Derived.Test.YtiplhefglgpdoaaGreatAeX
section
namespace Go.AE
open Go Go.RowKit
set_option linter.unusedVariables false
abbrev aF:Ty:=.pair (.sl ag) (.pair (.int .i64) .unit)
def M.two (k:Int):Bool:=decide (k=4)||decide (k=5)
def M.bT (s:aj.D):Bool:=(!decide (s.1=(1:Int))||decide (s.2.1=(0:Int)))&&((two s.1||decide (s.2.2.1=(0:Int)))&&((decide (s.1=(1:Int))||decide (s.2.2.2.1=(0:Int))) &&
 ((decide (s.1=(2:Int))||decide (s.1=(4:Int))||decide ((s.2.2.2.2.1.length:Int)=(0:Int)))&&(decide (s.1=(3:Int))||decide ((s.2.2.2.2.2.1.length:Int)=(0:Int))))))
def M.ov (b:List ag.D) (i:Int) (v:List ag.D):Option (List ag.D):=
 cond (decide ((nth (t:=ag) v i).1=(nth (t:=ag) b i).1)) (some (v.set i.toNat ((nth (t:=ag) v i).1,((nth (t:=ag) v i).2.1||(nth (t:=ag) b i).2.1),()))) none
def M.jY (b:List ag.D):Nat->Int->List ag.D->Option (List ag.D)
 | 0,_,v=>some v
 | n+1,i,v=>match ov b i v with
  | some v'=>jY b n (i+1) v'
  | none=>none
def M.both (a b:List ag.D):Option (List ag.D):=cond (decide (a.length=b.length)) (jY b a.length 0 a) none
def M.ct (tables:List aq.D) (ahead:List (List ag.D)) (s:aj.D):Option (List ag.D):=
 cond (bT s) (cond (decide (s.1=(1:Int))) (cond (inR s.2.2.2.1 0 ((tables.length:Int)-1)) (some (nth (t:=aq) tables s.2.2.2.1).1) none)
  (cond (inR s.2.1 0 ((ahead.length:Int)-1)&&inR s.2.2.1 0 ((ahead.length:Int)-1))
   (cond (decide (s.1=(2:Int))) (cond (decide (cT (nth (t:=.sl ag) ahead s.2.1) s.2.2.2.2.1=3)) (some (nth (t:=.sl ag) ahead s.2.1)) none)
   (cond (decide (s.1=(3:Int))) (cond ((s.2.2.2.2.2.1.all fun n=>inR n 0 (((nth (t:=.sl ag) ahead s.2.1).length:Int)-1))&&decide ((s.2.2.2.2.2.1.length:Int)<=4)) (some (s.2.2.2.2.2.1.map fun n=>nth (t:=ag) (nth (t:=.sl ag) ahead s.2.1) n)) none)
   (cond (decide (s.1=(4:Int))) (cond (decide (((nth (t:=.sl ag) ahead s.2.1++nth (t:=.sl ag) ahead s.2.2.1:List ag.D).length:Int)<=4)&&decide (cT (nth (t:=.sl ag) ahead s.2.1++nth (t:=.sl ag) ahead s.2.2.1:List ag.D) s.2.2.2.2.1=3))
    (some (nth (t:=.sl ag) ahead s.2.1++nth (t:=.sl ag) ahead s.2.2.1:List ag.D)) none)
   (cond (decide (s.1=(5:Int))) (both (nth (t:=.sl ag) ahead s.2.1) (nth (t:=.sl ag) ahead s.2.2.1))
   (cond (decide (s.1=(6:Int))) (some (nth (t:=.sl ag) ahead s.2.1)) none))))) none)) none
def M.aZ (ahead:List Int) (s:aj.D):Int:=cond (decide (s.1=(1:Int))) 6 (cond (decide (s.1=(4:Int))) (wrap64 (nth (t:=.int .i64) ahead s.2.1 * nth (t:=.int .i64) ahead s.2.2.1))
 (cond (decide (s.1=(5:Int))) (wrap64 (nth (t:=.int .i64) ahead s.2.1+nth (t:=.int .i64) ahead s.2.2.1)) (nth (t:=.int .i64) ahead s.2.1)))
def M.fF {σ α:Type} (g:σ->α->Option σ):List α->σ->Option σ
 | [],s=>some s
 | x::xs,s=>match g s x with
  | some s'=>fF g xs s'
  | none=>none
abbrev gA:Type:=List (List ag.D)×List Int
def M.bW (tables:List aq.D) (st:gA) (s:aj.D):Option gA:=match ct tables st.1 s with
 | some c=>cond (decide ((300:Int)<aZ st.2 s)) none (some (st.1++[c],st.2++[aZ st.2 s]))
 | none=>none
def M.lC (tables:List aq.D) (plan:List aj.D):Option gA:=fF (bW tables) plan ([],[])
def M.cY (tables:List aq.D) (plan:List aj.D):List (List ag.D)×Bool:=match lC tables plan with
 | some st=>(st.1,true)
 | none=>([],false)
def M.bQ (tables:List aq.D) (plan:List aj.D):Bool:=(cY tables plan).2&&(ck tables&&inR (plan.length:Int) 1 6)
def M.hY (k:Int) (s:aj.D):Prop:=¬s.1=(1:Int)->(0<=s.2.1/\s.2.1<k)/\(0<=s.2.2.1/\s.2.2.1<k)
def M.ng (plan:List aj.D):Prop:=0<plan.length/\∀i:Int,0<=i->i<(plan.length:Int)->hY i (nth (t:=aj) plan i)
def M.bL (plan:List aj.D) (k:Int) (u:List Bool):List Bool:=
 cond (nth (t:=.bool) u k&&!decide ((nth (t:=aj) plan k).1=(1:Int))) (cond (two (nth (t:=aj) plan k).1) ((u.set (nth (t:=aj) plan k).2.1.toNat true).set (nth (t:=aj) plan k).2.2.1.toNat true) (u.set (nth (t:=aj) plan k).2.1.toNat true)) u
def M.cF {σ:Type} (g:Int->σ->σ):Nat->σ->σ
 | 0,u=>u
 | n+1,u=>cF g n (g (n:Int) u)
def M.jm (plan:List aj.D):List Bool:=cF (bL plan) plan.length ((List.replicate plan.length false).set (plan.length-1) true)
def M.ren (to:List Int) (s:aj.D):aj.D:=(s.1,cond (decide (s.1=(1:Int))) s.2.1 (nth (t:=.int .i64) to s.2.1),cond (two s.1) (nth (t:=.int .i64) to s.2.2.1) s.2.2.1,s.2.2.2)
def M.Hy (plan:List aj.D) (need:List Bool) (st:List Int×List aj.D) (k:Int):List Int×List aj.D:=
 cond (nth (t:=.bool) need k) (st.1.set k.toNat (st.2.length:Int),st.2++[ren st.1 (nth (t:=aj) plan k)]) st
def M.tidy (plan:List aj.D):List aj.D:=((aM 0 (plan.length:Int)).foldl (Hy plan (jm plan)) (List.replicate plan.length (0:Int),[])).2
namespace M
theorem Cu {α σ τ ρ:Type} {f:α->τ->Option (Sum τ ρ)} (g:σ->α->Option σ) (ab:τ->σ) (I:Nat->τ->Prop) :
  ∀(xs:List α) (n:Nat) (t:τ),I n t->(∀x∈xs,∀(m:Nat) t,n<=m->m<n+xs.length->I m t->∃o,f x t=some o/\match o with
   | .inl t'=>g (ab t) x=some (ab t')/\I (m+1) t'
   | .inr _=>g (ab t) x=none)->∃o,aL f xs t=some o/\match o with
   | .inl t'=>fF g xs (ab t)=some (ab t')/\I (n+xs.length) t'
   | .inr _=>fF g xs (ab t)=none
 | [],n,t,h0,_=>⟨.inl t,rfl,rfl,h0⟩
 | x::xs,n,t,h0,h=>by
  obtain⟨o,h1,h2⟩:=h x (by simp) n t (Nat.le_refl _) (by simp) h0
  match o with
  | .inr r=>
   refine⟨.inr r,by rw[bw,h1,rz],?_⟩
   simp only at h2 ⊢
   unfold fF
   rw[h2]
  | .inl t'=>
   simp only at h2
   obtain⟨o',h3,h4⟩:=Cu g ab I xs (n+1) t' h2.2 (fun y hy m t hm hm2 hI=>h y (by simp[hy]) m t (by omega) (by simp;omega) hI)
   refine⟨o',by rw[bw,h1,aO];exact h3,?_⟩
   have e:n+1+xs.length=n+(x::xs).length:=by simp;omega
   unfold fF
   rw[h2.1]
   rw[e] at h4
   exact h4
theorem AN {t:Ty} {σ τ ρ:Type} {f:Int->τ->Option (Sum τ ρ)} (g:σ->t.D->Option σ) (ab:τ->σ) (I:Nat->τ->Prop) (all:List t.D) :
  ∀(xs zs:List t.D) (s:τ),all=zs++xs->I zs.length s->(∀(m:Nat) s,m<all.length->I m s->∃o,f (m:Int) s=some o/\match o with
   | .inl s'=>g (ab s) (nth all (m:Int))=some (ab s')/\I (m+1) s'
   | .inr _=>g (ab s) (nth all (m:Int))=none)->∃o,aL f (aM (zs.length:Int) (all.length:Int)) s=some o/\match o with
   | .inl s'=>fF g xs (ab s)=some (ab s')/\I all.length s'
   | .inr _=>fF g xs (ab s)=none
 | [],zs,s,e,h0,_=>⟨.inl s,by rw[ew (by rw[e];simp)];rfl,rfl,by rw[e];simpa using h0⟩
 | x::xs,zs,s,e,h0,h=>by
  have hlt:zs.length<all.length:=by rw[e];simp
  have hn:nth (t:=t) all (zs.length:Int)=x:=by
   rw[e]
   unfold nth
   rw[List.getD_eq_getElem?_getD]
   simp
  obtain⟨o,h1,h2⟩:=h zs.length s hlt h0
  rw[hn] at h2
  rw[dG (by omega),bw,h1]
  match o with
  | .inr r=>
   refine⟨.inr r,rfl,?_⟩
   simp only at h2 ⊢
   unfold fF
   rw[h2]
  | .inl s'=>
   simp only at h2
   have e2:(zs.length:Int)+1=((zs++[x]).length:Int):=by simp
   obtain⟨o',h3,h4⟩:=AN g ab I all xs (zs++[x]) s' (by rw[e];simp) (by simpa using h2.2) h
   refine⟨o',by rw[aO,e2];exact h3,?_⟩
   unfold fF
   rw[h2.1]
   exact h4
theorem zk {σ ρ:Type} {f:Int->σ->Option (Sum σ ρ)} (g:σ->Int->σ) (I:Int->σ->Prop) (N:Nat) {s:σ} (h0:I 0 s)
  (h:∀(i:Int) (s:σ),0<=i->i<(N:Int)->I i s->f i s=some (.inl (g s i))/\I (i+1) (g s i)) :
  aL f (aM 0 (N:Int)) s=some (.inl ((aM 0 (N:Int)).foldl g s))/\I (N:Int) ((aM 0 (N:Int)).foldl g s):=by
 have key:∀(n:Nat) (i:Int) (s:σ),(N:Int)-i=n->0<=i->I i s->aL f (aM i (N:Int)) s=some (.inl ((aM i (N:Int)).foldl g s))/\I (N:Int) ((aM i (N:Int)).foldl g s):=by
  intro n
  induction n with
  | zero=>
   intro i s hn h0 hI
   rw[ew (by omega)]
   have:i=(N:Int):=by omega
   subst this
   exact⟨rfl,hI⟩
  | succ n ih=>
   intro i s hn h0 hI
   obtain⟨h1,h2⟩:=h i s h0 (by omega) hI
   rw[dG (by omega),bw,h1,aO]
   exact ih (i+1) _ (by omega) (by omega) h2
 exact key N 0 s (by omega) (by omega) h0
theorem yq {σ:Type} {f:Int×σ->Option (Sum (Int×σ) σ)} (g:Int->σ->σ) (I:σ->Prop) (N:Nat)
  (h:∀(k:Int) (u:σ),0<=k->k<(N:Int)->I u->f (k,u)=some (.inl (k-1,g k u))/\I (g k u)) (he:∀u,I u->f (-1,u)=some (.inr u)) :
  ∀(n:Nat) (u:σ),n<=N->I u->bZ f ((n:Int)-1,u)=some (cF g n u)/\I (cF g n u)
 | 0,u,_,hI=>by
  rw[cR,show ((0:Nat):Int)-1=-1 from rfl,he u hI]
  exact⟨rfl,hI⟩
 | n+1,u,hn,hI=>by
  obtain⟨h1,h2⟩:=h (n:Int) u (by omega) (by omega) hI
  rw[cR,show ((n+1:Nat):Int)-1=(n:Int) by omega,h1,aO]
  exact yq g I N h he n _ (by omega) h2
theorem GJ {t:Ty} {u:List t.D} {i:Int} (h0:0<=i) (h1:i<(u.length:Int)):u.set i.toNat (nth (t:=t) u i)=u:=by
 rw[vu h0 h1]
 exact List.set_getElem_self ..
theorem yK {x:List ag.D} (h:x.length<=1048576):Sm (.sl ag) x:=⟨h,fun y _=>xE rfl y⟩
theorem BJ {b:List ag.D} {i:Int} {v r:List ag.D} (h:ov b i v=some r):r.length=v.length:=by
 unfold ov at h
 cases hc:decide ((nth (t:=ag) v i).1=(nth (t:=ag) b i).1) with
 | true=>rw[hc] at h;simp only[cond_true,Option.some.injEq] at h;rw[<-h];simp
 | false=>rw[hc] at h;cases h
theorem kg {b:List ag.D}:∀{n:Nat} {i:Int} {v r:List ag.D},jY b n i v=some r->r.length=v.length
 | 0,i,v,r,h=>by cases h;rfl
 | n+1,i,v,r,h=>by
  unfold jY at h
  cases hs:ov b i v with
  | none=>rw[hs] at h;cases h
  | some v'=>
   rw[hs] at h
   rw[kg h,BJ hs]
theorem aQ {α:Type} {b:Bool} {x:Option α} {y:α} (h:cond b x none=some y):b=true/\x=some y:=by
 cases b with
 | true=>exact⟨rfl,h⟩
 | false=>cases h
theorem vU {tables:List aq.D} {ahead:List (List ag.D)} {s:aj.D} {c:List ag.D} (ht:Sm (.sl aq) tables) (ha:∀x∈ahead,x.length<=1048576) (h:ct tables ahead s=some c):c.length<=1048576:=by
 have hn:∀i:Int,(nth (t:=.sl ag) ahead i:List ag.D).length<=1048576:=by
  intro i
  unfold nth
  rw[List.getD_eq_getElem?_getD]
  cases he:ahead[i.toNat]? with
  | none=>exact Nat.zero_le _
  | some x=>exact ha x (List.mem_of_getElem? he)
 unfold ct at h
 obtain⟨_,h⟩:=aQ h
 cases h1:decide (s.1=(1:Int)) with
 | true=>
  rw[h1,cond_true] at h
  obtain⟨_,h⟩:=aQ h
  cases h
  exact(aU ht s.2.2.2.1).1.1
 | false=>
  rw[h1,cond_false] at h
  obtain⟨_,h⟩:=aQ h
  cases h2:decide (s.1=(2:Int)) with
  | true=>
   rw[h2,cond_true] at h
   obtain⟨_,h⟩:=aQ h
   cases h
   exact hn _
  | false=>
   rw[h2,cond_false] at h
   cases h3:decide (s.1=(3:Int)) with
   | true=>
    rw[h3,cond_true] at h
    obtain⟨hb,h⟩:=aQ h
    cases h
    have:=of_decide_eq_true (Bool.and_eq_true_iff.1 hb).2
    rw[List.length_map]
    omega
   | false=>
    rw[h3,cond_false] at h
    cases h4:decide (s.1=(4:Int)) with
    | true=>
     rw[h4,cond_true] at h
     obtain⟨hb,h⟩:=aQ h
     cases h
     have:=of_decide_eq_true (Bool.and_eq_true_iff.1 hb).1
     omega
    | false=>
     rw[h4,cond_false] at h
     cases h5:decide (s.1=(5:Int)) with
     | true=>
      rw[h5,cond_true] at h
      unfold both at h
      obtain⟨_,h⟩:=aQ h
      rw[kg h]
      exact hn _
     | false=>
      rw[h5,cond_false] at h
      obtain⟨_,h⟩:=aQ h
      cases h
      exact hn _
theorem qU {tables:List aq.D} {ahead:List (List ag.D)} {s:aj.D} {c:List ag.D} (h:ct tables ahead s=some c):hY (ahead.length:Int) s:=by
 intro h1
 unfold ct at h
 obtain⟨_,h⟩:=aQ h
 rw[decide_eq_false h1,cond_false] at h
 obtain⟨hb,_⟩:=aQ h
 obtain⟨ha,hb⟩:=Bool.and_eq_true_iff.1 hb
 exact⟨⟨fY ha,Int.lt_of_le_sub_one (rC ha)⟩,⟨fY hb,Int.lt_of_le_sub_one (rC hb)⟩⟩
theorem Dv {tables:List aq.D} {st st':gA} {s:aj.D} (h:bW tables st s=some st'):hY (st.1.length:Int) s/\st'.1.length=st.1.length+1:=by
 unfold bW at h
 cases hc:ct tables st.1 s with
 | none=>rw[hc] at h;cases h
 | some c=>
  rw[hc] at h
  simp only at h
  cases hd:decide ((300:Int)<aZ st.2 s) with
  | true=>rw[hd] at h;cases h
  | false=>
   rw[hd] at h
   cases h
   exact⟨qU hc,by simp⟩
theorem As {tables:List aq.D}:∀(xs:List aj.D) (st st':gA),fF (bW tables) xs st=some st'->∀i:Int,0<=i->i<(xs.length:Int)->hY ((st.1.length:Int)+i) (nth (t:=aj) xs i)
 | [],st,st',h,i,h0,h1=>by simp at h1;omega
 | x::xs,st,st',h,i,h0,h1=>by
  unfold fF at h
  cases hp:bW tables st x with
  | none=>rw[hp] at h;cases h
  | some st1=>
   rw[hp] at h
   obtain⟨q1,q2⟩:=Dv hp
   by_cases hi:i=0
   ·subst hi
    rw[zg,Int.add_zero]
    exact q1
   ·have:=As xs st1 st' h (i-1) (by omega) (by simp at h1;omega)
    rw[q2] at this
    have e:i=(i-1)+1:=by omega
    rw[e,yO _ _ (by omega)]
    have e2:((st.1.length+1:Nat):Int)+(i-1)=(st.1.length:Int)+(i-1+1):=by omega
    rw[<-e2]
    exact this
theorem gB {tables:List aq.D} {plan:List aj.D} (h:bQ tables plan=true):ng plan:=by
 unfold bQ at h
 obtain⟨h1,h2⟩:=Bool.and_eq_true_iff.1 h
 obtain⟨_,h2⟩:=Bool.and_eq_true_iff.1 h2
 have hl:(1:Int)<=(plan.length:Int):=by unfold inR at h2;simp at h2;omega
 refine⟨by omega,fun i i0 i1=>?_⟩
 unfold cY at h1
 cases hr:lC tables plan with
 | none=>rw[hr] at h1;cases h1
 | some st=>
  have:=As plan ([],[]) st hr i i0 i1
  simpa using this
theorem lq (plan:List aj.D) (k:Int) (u:List Bool):(bL plan k u).length=u.length:=by
 unfold bL
 cases (nth (t:=.bool) u k&&!decide ((nth (t:=aj) plan k).1=(1:Int)))
 ·rfl
 ·cases two (nth (t:=aj) plan k).1<;>simp
theorem wz {σ:Type} {g:Int->σ->σ} {I:σ->Prop} (h:∀k u,I u->I (g k u)):∀(n:Nat) (u:σ),I u->I (cF g n u)
 | 0,_,hu=>hu
 | n+1,u,hu=>wz h n _ (h _ _ hu)
theorem Ae (plan:List aj.D):(jm plan).length=plan.length:=by
 unfold jm
 exact wz (I:=fun u:List Bool=>u.length=plan.length) (fun k u hu=>by rw[lq,hu]) _ _ (by simp)
theorem xL {t:Ty}:∀{xss:List (List t.D)} {n:Nat},(∀x∈xss,x.length<=n)->(xss.flatten).length<=xss.length * n
 | [],n,_=>by simp
 | x::xss,n,h=>by
  have:=xL (xss:=xss) (fun y hy=>h y (by simp[hy]))
  have h1:=h x (by simp)
  rw[List.flatten_cons,List.length_append,List.length_cons,Nat.succ_mul]
  omega
end M
end Go.AE
end
section
namespace Go.AE
open Go Go.RowKit
set_option linter.unusedVariables false
namespace M
theorem qo {t:Ty} {xs ys:List t.D} {i:Int} (h0:0<=i) (h1:i<(xs.length:Int)):nth (t:=t) (xs++ys) i=nth (t:=t) xs i:=by
 unfold nth
 rw[List.getD_eq_getElem?_getD,List.getD_eq_getElem?_getD,List.getElem?_append_left (by omega)]
theorem qu {t:Ty} {xs:List t.D} {x:t.D} {i:Int} (h:i=(xs.length:Int)):nth (t:=t) (xs++[x]) i=x:=by
 subst h
 unfold nth
 rw[List.getD_eq_getElem?_getD]
 simp
def mw (st st':gA) (to:List Int) (k:Int):Prop:=(st.1.length:Int)=k/\(st.2.length:Int)=k/\st'.1.length=st'.2.length ∧
 ∀j:Int,0<=j->j<k->(0<=nth (t:=.int .i64) to j/\nth (t:=.int .i64) to j<(st'.1.length:Int))/\nth (t:=.sl ag) st'.1 (nth (t:=.int .i64) to j)=nth (t:=.sl ag) st.1 j/\nth (t:=.int .i64) st'.2 (nth (t:=.int .i64) to j)=nth (t:=.int .i64) st.2 j
theorem Ih {n N:Int}:inR n 0 (N-1)=true ↔ 0<=n/\n<N:=by
 unfold inR
 simp
 omega
theorem jP {tables:List aq.D} {st st':gA} {s:aj.D} (h:bW tables st s=some st') :
  ∃c,ct tables st.1 s=some c/\decide ((300:Int)<aZ st.2 s)=false/\st'=(st.1++[c],st.2++[aZ st.2 s]):=by
 unfold bW at h
 cases hc:ct tables st.1 s with
 | none=>rw[hc] at h;cases h
 | some c=>
  rw[hc] at h
  simp only at h
  cases hd:decide ((300:Int)<aZ st.2 s) with
  | true=>rw[hd] at h;cases h
  | false=>
   rw[hd] at h
   cases h
   exact⟨c,rfl,rfl,rfl⟩
theorem lP {t:Ty} {xs:List t.D} {k:Nat} (h:k<xs.length):xs.take (k+1)=xs.take k++[nth (t:=t) xs (k:Int)]:=by
 rw[List.take_succ_eq_append_getElem h,vu (t:=t) (by omega) (by omega)]
 rfl
end M
end Go.AE
namespace Go.AE
open Go Go.RowKit
theorem M.FU {tables:List aq.D} {plan:List aj.D} (h:bQ tables plan=true):plan.length<=6:=by
 unfold bQ at h
 obtain⟨_,h⟩:=Bool.and_eq_true_iff.1 h
 obtain⟨_,h⟩:=Bool.and_eq_true_iff.1 h
 unfold inR at h
 simp at h
 omega
end Go.AE
end
section
namespace Go.AE
open Go Go.RowKit
def lU:Env->Env
 | []=>[]
 | (j,v)::l=>(Nat.add j bJ,v)::lU l
def mL:Env->Env
 | []=>[]
 | (j,v)::l=>bif Nat.ble bJ j then (Nat.sub j bJ,v)::mL l else mL l
def BP (E:Tab) (deep:Bool) (rs:List ResultVar) (K:AV->St->Prop) (s:St):Prop:=match rs with
 | [r]=>cA (qE E deep s r) fun p=>K p.1 ⟨mL p.2.env,p.2.hp⟩
 | rs=>cA (qX E deep rs s) fun p=>K (.tup p.1) ⟨mL p.2.env,p.2.hp⟩
def Jo (E:Tab) (deep:Bool) (rs:List ResultVar) (K:AV->St->Prop):X->St->Prop
 | .normal,s=>BP E deep rs K s
 | .ret,s=>BP E deep rs K s
 | .exit _,_=>False
def aC:bF:=fun _ _ _ _=>False
def BM (C:Ctx) (ann:Nat->List Dir) (code:Code) (rs:List ResultVar):Inl:=fun args s K=>
 bif Nat.ble args.length C.n&&Nat.ble C.n bJ then awp C aC ann code ⟨nu 0 args++lU s.env,s.hp⟩ (Jo C.tab C.deep rs K) else False
theorem lookup_append {α:Type}:∀(l k:List (Nat×α)) (j:Nat),lookup (l++k) j=match lookup l j with | some v=>some v | none=>lookup k j
 | [],k,j=>by simp[lookup]
 | (i,x)::l,k,j=>by
  rw[List.cons_append,lookup_cons,lookup_cons]
  by_cases h:i=j
  ·rw[if_pos h,if_pos h]
  ·rw[if_neg h,if_neg h]
   exact lookup_append l k j
theorem th:∀(e:Env) (j:Nat) (v:AV),lookup (lU e) j=some v->∃k,j=k+bJ/\lookup e k=some v
 | [],j,v,h=>by simp[lU,lookup] at h
 | (i,x)::l,j,v,h=>by
  unfold lU at h
  rw[lookup_cons] at h
  split at h
  ·rename_i e
   cases h
   exact⟨i,e.symm,by rw[lookup_cons,if_pos rfl]⟩
  ·rename_i hne
   obtain⟨k,hk,hl⟩:=th l j v h
   refine⟨k,hk,?_⟩
   rw[lookup_cons,if_neg ?_]
   ·exact hl
   ·rintro rfl
    exact hne hk.symm
theorem mz:∀(e:Env) (k:Nat) (v:AV),lookup (mL e) k=some v->lookup e (k+bJ)=some v
 | [],k,v,h=>by simp[mL,lookup] at h
 | (i,x)::l,k,v,h=>by
  unfold mL at h
  cases hb:Nat.ble bJ i with
  | false=>
   rw[hb] at h
   have hlt:¬bJ<=i:=by intro hc;rw[Nat.ble_eq_true_of_le hc] at hb;cases hb
   rw[lookup_cons,if_neg (by omega)]
   exact mz l k v h
  | true=>
   rw[hb] at h
   simp only[cond_true] at h
   have hle:bJ<=i:=Nat.le_of_ble_eq_true hb
   rw[lookup_cons] at h
   have hs:Nat.sub i bJ=i-bJ:=rfl
   split at h
   ·rename_i e
    rw[hs] at e
    cases h
    rw[lookup_cons,if_pos (by omega)]
   ·rename_i e
    rw[hs] at e
    rw[lookup_cons,if_neg (by omega)]
    exact mz l k v h
section
variable {P:Program} {C:Ctx} {g:Gl} {N:Nat} {s:St} {a:Act} {w:World} {φ:Names}
def zR (g:Gl) (gh:Nat->Value):Gl:={ g with gh:=gh }
def yl (g:Gl) (a:Act) (gh:Nat->Value):Prop:=∀k,gh (k+bJ)=valOf g a k
theorem DC (g:Gl) (a:Act):∃gh,yl g a gh:=⟨fun j=>valOf g a (j-bJ),fun k=>by simp only[Nat.add_sub_cancel]⟩
theorem vp (gh:Nat->Value) {hp:Hp} {n:Nat}:imm (zR g gh) φ hp n=imm g φ hp n:=by unfold imm zR;rfl
theorem rD (gh:Nat->Value):aK (zR g gh)=aK g:=by unfold aK zR;rfl
theorem CP {gh:Nat->Value} {a a':Act} {k:Nat} (hg:yl g a gh):valOf (zR g gh) a' (k+bJ)=valOf g a k:=by
 have hb:Nat.blt (k+bJ) bJ=false:=by
  cases hb:Nat.blt (k+bJ) bJ with
  | false=>rfl
  | true=>rw[Nat.blt_eq] at hb;omega
 unfold valOf
 rw[hb]
 simp only[cond_false,zR]
 exact hg k
theorem Ix {gh:Nat->Value} (hg:yl g a gh) {hp:Hp} {args:List AV} {vals:List Value} {n:Nat} {e:Env} (hv:ak w (imm g φ hp w.heap.size) (aK g) φ hp args vals) (he:∀j av,lookup e j=some av->ai w (imm g φ hp w.heap.size) (aK g) φ hp av (valOf g a j))
  (hle:args.length<=n) (hgl:n<=bJ) (j:Nat) (av:AV) (hj:lookup (nu 0 args++lU e) j=some av) :
  ai w (imm g φ hp w.heap.size) (aK g) φ hp av (valOf (zR g gh) { tmps:=vals.toArray++Array.replicate (n-vals.toArray.size) undef,defers:=[] } j):=by
 have hlen:=hv.length
 rw[lookup_append] at hj
 split at hj
 ·rename_i v hla
  cases hj
  obtain⟨_,u,h1,h2⟩:=ql hv j av hla
  have h1:vals[j]? = some u:=by simpa using h1
  have hlt:j<vals.length:=(List.getElem?_eq_some_iff.1 h1).1
  have hu:(vals.toArray++Array.replicate (n-vals.toArray.size) undef).getD j undef=u:=by
   rw[Array.getD_eq_getD_getElem?,Array.getElem?_append_left (by simpa using hlt)]
   simp[h1]
  have hjg:Nat.blt j bJ=true:=by rw[Nat.blt_eq];omega
  unfold valOf
  rw[hjg]
  simp only[cond_true]
  rw[hu]
  exact h2
 ·obtain⟨k,hk0,hk⟩:=th _ _ _ hj
  rw[hk0,CP hg]
  exact he k av hk
theorem IK {gh:Nat->Value} (hg:yl g a gh) {args:List AV} {vals:List Value} {n:Nat} (h:Sim g N s a w φ) (hv:ak w (imm g φ s.hp w.heap.size) (aK g) φ s.hp args vals) (hle:args.length<=n) (hgl:n<=bJ) :
  Sim (zR g gh) n ⟨nu 0 args++lU s.env,s.hp⟩ { tmps:=vals.toArray++Array.replicate (n-vals.toArray.size) undef,defers:=[] } w φ:=by
 have hlen:=hv.length
 refine⟨rfl,by simp;omega,h.os,h.tape,h.output,h.hsize,h.frame,h.inj,h.apart,h.place,fun i blk hi=>?_,fun j av hj=>?_,h.pinned⟩
 ·rw[vp,rD]
  exact h.blocks i blk hi
 ·rw[vp,rD]
  exact Ix hg hv h.env hle hgl j av hj
theorem Eo {gh:Nat->Value} (hg:yl g a gh) {a':Act} {w':World} {s1:St} {φ1:Names} {n:Nat} (h:Sim g N s a w φ) (hs:Sim (zR g gh) n s1 a' w' φ1):Sim g N ⟨mL s1.env,s1.hp⟩ a w' φ1:=by
 refine⟨h.defers,h.size,hs.os,hs.tape,hs.output,hs.hsize,hs.frame,hs.inj,hs.apart,hs.place,fun i blk hi=>?_,fun k av hk=>?_,hs.pinned⟩
 ·have:=hs.blocks i blk hi
  rw[vp,rD] at this
  exact this
 ·have:=hs.env _ _ (mz _ _ _ hk)
  rw[vp,rD,CP hg] at this
  exact this
theorem Iv (hT:TabOk P C) (hC:dK P C) (hm:P.follows .mixedOrders=true) {f:FuncId} {fn:Func} {code:Code} (hf:P.funcs[f]? = some fn) (hb:fn.body=some code) (hN:C.n=fn.ntmps) {ann:Nat->List Dir} (hl:bN code=[]) :
  EO P f (BM C ann code fn.results.toList):=by
 intro g N s a w φ args vals K h hv hop
 unfold BM at hop
 cases hq:(Nat.ble args.length C.n&&Nat.ble C.n bJ) with
 | false=>rw[hq] at hop;exact hop.elim
 | true=>
 rw[hq] at hop
 simp only[cond_true] at hop
 obtain⟨hq1,hq2⟩:=Bool.and_eq_true_iff.1 hq
 have hle:args.length<=fn.ntmps:=by rw[<-hN];exact Nat.le_of_ble_eq_true hq1
 have hgl:fn.ntmps<=bJ:=by rw[<-hN];exact Nat.le_of_ble_eq_true hq2
 obtain⟨gh,hg⟩:=DC g a
 have hS:=IK hg h hv hle hgl
 refine calls_of_wp hf hb (wp_mono (Hw (L:=aC) (ann:=ann) hT hC hN hm code (by rw[hl];intro p hp;cases hp) _ _ _ _ φ hS hop) ?_)
 intro e a' w' hq
 have fin:(∃s1 φ1,BP C.tab C.deep fn.results.toList K s1/\Sim (zR g gh) fn.ntmps s1 a' w' φ1)->a'.defers=[]/\∃u,(results fn a'.tmps).run P w'=.ok u w' ∧
   ∃v s' φ',K v s'/\Sim g N s' a w' φ'/\ai w' (imm g φ' s'.hp w'.heap.size) (aK g) φ' s'.hp v u:=by
  rintro ⟨s1,φ1,hk,hs⟩
  refine⟨hs.defers,?_⟩
  unfold BP at hk
  split at hk
  ·rename_i r ht
   obtain⟨p,hp,hk⟩:=aG hk
   obtain⟨u,hrun,h1,_,hv⟩:=tw hT hs (show qE C.tab _ s1 r=some (p.1,p.2) from hp)
   rw[vp,rD] at hv
   refine⟨u,?_,p.1,_,φ1,hk,Eo hg h h1,hv⟩
   rw[iN (us:=[u]) (by rw[ht];exact .cons hrun .nil)]
   simp
  ·rename_i hne
   obtain⟨p,hp,hk⟩:=aG hk
   obtain⟨us,h1,_,h3,h4⟩:=sR hT hs (show qX C.tab _ fn.results.toList s1=some (p.1,p.2) from hp)
   rw[vp,rD] at h4
   have hlen:¬us.toArray.size=1:=by
    intro e
    have e:us.length=1:=e
    rw[<-h3.length_eq] at e
    match hq:fn.results.toList,e with
    | [r],_=>exact hne r hq
   refine⟨_,iN h3,.tup p.1,_,φ1,hk,Eo hg h h1,?_⟩
   rw[dif_neg hlen]
   simp only[ai]
   exact⟨_,rfl,h4⟩
 cases e with
 | normal=>exact fin hq
 | ret=>exact fin hq
 | exit i=>obtain⟨s,φ,hk,_⟩:=hq;exact hk.elim
 | goto l=>exact hq.elim
 | panic c=>exact hq.elim
 | outgrown=>exact hq.elim
end
theorem ln_of_fine:∀{t:Ty} {x:t.D},uS t x->Ln t x
 | .int _,_,_=>trivial
 | .bool,_,_=>trivial
 | .str,_,h=>by
  have h:(_:ByteArray).size<=Go.maxLen:=h
  exact h
 | .unit,_,_=>trivial
 | .sl _,_,h=>⟨h.1,fun y hy=>ln_of_fine (h.2 y hy)⟩
 | .pair _ _,_,h=>⟨ln_of_fine h.1,ln_of_fine h.2⟩
end Go.AE
end
