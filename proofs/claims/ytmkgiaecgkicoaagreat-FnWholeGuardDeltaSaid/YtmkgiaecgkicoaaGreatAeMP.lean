/- Plans: plain Lean. -/
import Derived.Test.YtmkgiaecgkicoaaGreatAeMM
section
namespace Go.AE
open Go Go.RowKit
set_option linter.unusedVariables false
abbrev aH:Ty:=.pair (.sl ag) (.pair (.int .i64) .unit)
def M.two (k:Int):Bool:=decide (k=4)||decide (k=5)
def M.bM (s:ah.D):Bool:=(!decide (s.1=(1:Int))||decide (s.2.1=(0:Int)))&&((two s.1||decide (s.2.2.1=(0:Int)))&&((decide (s.1=(1:Int))||decide (s.2.2.2.1=(0:Int))) &&
 ((decide (s.1=(2:Int))||decide (s.1=(4:Int))||decide ((s.2.2.2.2.1.length:Int)=(0:Int)))&&(decide (s.1=(3:Int))||decide ((s.2.2.2.2.2.1.length:Int)=(0:Int))))))
def M.pV (b:List ag.D) (i:Int) (v:List ag.D):Option (List ag.D):=
 cond (decide ((@nth ag v i).1=(@nth ag b i).1)) (some (v.set i.toNat ((@nth ag v i).1,((@nth ag v i).2.1||(@nth ag b i).2.1),()))) none
def M.kS (b:List ag.D):Nat->Int->List ag.D->Option (List ag.D)
 | 0,_,v=>some v
 | n+1,i,v=>match pV b i v with
  | some v'=>kS b n (i+1) v'
  | none=>none
def M.both (a b:List ag.D):Option (List ag.D):=cond (decide (a.length=b.length)) (kS b a.length 0 a) none
def M.bF (LK:List ai.D) (LN:List (List ag.D)) (s:ah.D):Option (List ag.D):=
 cond (bM s) (cond (decide (s.1=(1:Int))) (cond (inR s.2.2.2.1 0 ((LK.length:Int)-1)) (some (@nth ai LK s.2.2.2.1).1) none)
  (cond (inR s.2.1 0 ((LN.length:Int)-1)&&inR s.2.2.1 0 ((LN.length:Int)-1))
   (cond (decide (s.1=(2:Int))) (cond (decide (bR (nth (t:=.sl ag) LN s.2.1) s.2.2.2.2.1=3)) (some (nth (t:=.sl ag) LN s.2.1)) none)
   (cond (decide (s.1=(3:Int))) (cond ((s.2.2.2.2.2.1.all fun n=>inR n 0 (((nth (t:=.sl ag) LN s.2.1).length:Int)-1))&&decide ((s.2.2.2.2.2.1.length:Int)<=4)) (some (s.2.2.2.2.2.1.map fun n=>@nth ag (nth (t:=.sl ag) LN s.2.1) n)) none)
   (cond (decide (s.1=(4:Int))) (cond (decide (((nth (t:=.sl ag) LN s.2.1++nth (t:=.sl ag) LN s.2.2.1:List ag.D).length:Int)<=4)&&decide (bR (nth (t:=.sl ag) LN s.2.1++nth (t:=.sl ag) LN s.2.2.1:List ag.D) s.2.2.2.2.1=3))
    (some (nth (t:=.sl ag) LN s.2.1++nth (t:=.sl ag) LN s.2.2.1:List ag.D)) none)
   (cond (decide (s.1=(5:Int))) (both (nth (t:=.sl ag) LN s.2.1) (nth (t:=.sl ag) LN s.2.2.1))
   (cond (decide (s.1=(6:Int))) (some (nth (t:=.sl ag) LN s.2.1)) none))))) none)) none
def M.aN (LN:List Int) (s:ah.D):Int:=cond (decide (s.1=(1:Int))) 6 (cond (decide (s.1=(4:Int))) (wrap64 (nth (t:=.int .i64) LN s.2.1 * nth (t:=.int .i64) LN s.2.2.1))
 (cond (decide (s.1=(5:Int))) (wrap64 (nth (t:=.int .i64) LN s.2.1+nth (t:=.int .i64) LN s.2.2.1)) (nth (t:=.int .i64) LN s.2.1)))
def M.dH {σ α:Type} (g:σ->α->Option σ):List α->σ->Option σ
 | [],s=>some s
 | x::xs,s=>match g s x with
  | some s'=>dH g xs s'
  | none=>none
abbrev fC:Type:=List (List ag.D)×List Int
def M.bg (LK:List ai.D) (st:fC) (s:ah.D):Option fC:=match bF LK st.1 s with
 | some c=>cond (decide ((300:Int)<aN st.2 s)) none (some (st.1++[c],st.2++[aN st.2 s]))
 | none=>none
def M.iM (LK:List ai.D) (plan:List ah.D):Option fC:=dH (bg LK) plan ([],[])
def M.dM (LK:List ai.D) (plan:List ah.D):List (List ag.D)×Bool:=match iM LK plan with
 | some st=>(st.1,true)
 | none=>([],false)
def M.bU (LK:List ai.D) (plan:List ah.D):Bool:=(dM LK plan).2&&(bw LK&&inR (plan.length:Int) 1 6)
def M.pg (k:Int) (s:ah.D):Prop:=¬s.1=(1:Int)->(0<=s.2.1/\s.2.1<k)/\(0<=s.2.2.1/\s.2.2.1<k)
def M.KG (plan:List ah.D):Prop:=0<plan.length/\∀i:Int,0<=i->i<(plan.length:Int)->pg i (@nth ah plan i)
def M.Ir (plan:List ah.D) (k:Int) (u:List Bool):List Bool:=
 cond (nth (t:=.bool) u k&&!decide ((@nth ah plan k).1=(1:Int))) (cond (two (@nth ah plan k).1) ((u.set (@nth ah plan k).2.1.toNat true).set (@nth ah plan k).2.2.1.toNat true) (u.set (@nth ah plan k).2.1.toNat true)) u
def M.Gj {σ:Type} (g:Int->σ->σ):Nat->σ->σ
 | 0,u=>u
 | n+1,u=>Gj g n (g (n:Int) u)
def M.Lp (plan:List ah.D):List Bool:=Gj (Ir plan) plan.length ((List.replicate plan.length false).set (plan.length-1) true)
def M.ren (to:List Int) (s:ah.D):ah.D:=(s.1,cond (decide (s.1=(1:Int))) s.2.1 (nth (t:=.int .i64) to s.2.1),cond (two s.1) (nth (t:=.int .i64) to s.2.2.1) s.2.2.1,s.2.2.2)
def M.HW (plan:List ah.D) (need:List Bool) (st:List Int×List ah.D) (k:Int):List Int×List ah.D:=
 cond (nth (t:=.bool) need k) (st.1.set k.toNat (st.2.length:Int),st.2++[ren st.1 (@nth ah plan k)]) st
def M.tidy (plan:List ah.D):List ah.D:=((aT 0 (plan.length:Int)).foldl (HW plan (Lp plan)) (List.replicate plan.length (0:Int),[])).2
namespace M
theorem Di {α σ τ ρ:Type} {f:α->τ->Option (Sum τ ρ)} (g:σ->α->Option σ) (ab:τ->σ) (I:Nat->τ->Prop) :
  ∀(xs:List α) (n:Nat) (t:τ),I n t->(∀x∈xs,∀(m:Nat) t,n<=m->m<n+xs.length->I m t->∃o,f x t=some o/\match o with
   | .inl t'=>g (ab t) x=some (ab t')/\I (m+1) t'
   | .inr _=>g (ab t) x=none)->∃o,aU f xs t=some o/\match o with
   | .inl t'=>dH g xs (ab t)=some (ab t')/\I (n+xs.length) t'
   | .inr _=>dH g xs (ab t)=none
 | [],n,t,h0,_=>⟨.inl t,rfl,rfl,h0⟩
 | x::xs,n,t,h0,h=>by
  obtain⟨o,h1,h2⟩:=h x (by simp) n t (Nat.le_refl _) (by simp) h0
  match o with
  | .inr r=>
   refine⟨.inr r,by rw[ck,h1,Hg],?_⟩
   simp only at h2 ⊢
   unfold dH
   rw[h2]
  | .inl t'=>
   simp only at h2
   obtain⟨o',h3,h4⟩:=Di g ab I xs (n+1) t' h2.2 (fun y hy m t hm hm2 hI=>h y (by simp[hy]) m t (by omega) (by simp;omega) hI)
   refine⟨o',by rw[ck,h1,bE];exact h3,?_⟩
   have e:n+1+xs.length=n+(x::xs).length:=by simp;omega
   unfold dH
   rw[h2.1]
   rw[e] at h4
   exact h4
theorem BC {t:Ty} {σ τ ρ:Type} {f:Int->τ->Option (Sum τ ρ)} (g:σ->t.D->Option σ) (ab:τ->σ) (I:Nat->τ->Prop) (all:List t.D) :
  ∀(xs zs:List t.D) (s:τ),all=zs++xs->I zs.length s->(∀(m:Nat) s,m<all.length->I m s->∃o,f (m:Int) s=some o/\match o with
   | .inl s'=>g (ab s) (nth all (m:Int))=some (ab s')/\I (m+1) s'
   | .inr _=>g (ab s) (nth all (m:Int))=none)->∃o,aU f (aT (zs.length:Int) (all.length:Int)) s=some o/\match o with
   | .inl s'=>dH g xs (ab s)=some (ab s')/\I all.length s'
   | .inr _=>dH g xs (ab s)=none
 | [],zs,s,e,h0,_=>⟨.inl s,by rw[gy (by rw[e];simp)];rfl,rfl,by rw[e];simpa using h0⟩
 | x::xs,zs,s,e,h0,h=>by
  have hlt:zs.length<all.length:=by rw[e];simp
  have hn:@nth t all (zs.length:Int)=x:=by
   rw[e]
   unfold nth
   rw[List.getD_eq_getElem?_getD]
   simp
  obtain⟨o,h1,h2⟩:=h zs.length s hlt h0
  rw[hn] at h2
  rw[hY (by omega),ck,h1]
  match o with
  | .inr r=>
   refine⟨.inr r,rfl,?_⟩
   simp only at h2 ⊢
   unfold dH
   rw[h2]
  | .inl s'=>
   simp only at h2
   have e2:(zs.length:Int)+1=((zs++[x]).length:Int):=by simp
   obtain⟨o',h3,h4⟩:=BC g ab I all xs (zs++[x]) s' (by rw[e];simp) (by simpa using h2.2) h
   refine⟨o',by rw[bE,e2];exact h3,?_⟩
   unfold dH
   rw[h2.1]
   exact h4
theorem vG {σ ρ:Type} {f:Int->σ->Option (Sum σ ρ)} (g:σ->Int->σ) (I:Int->σ->Prop) (N:Nat) {s:σ} (h0:I 0 s)
  (h:∀(i:Int) (s:σ),0<=i->i<(N:Int)->I i s->f i s=some (.inl (g s i))/\I (i+1) (g s i)) :
  aU f (aT 0 (N:Int)) s=some (.inl ((aT 0 (N:Int)).foldl g s))/\I (N:Int) ((aT 0 (N:Int)).foldl g s):=by
 have key:∀(n:Nat) (i:Int) (s:σ),(N:Int)-i=n->0<=i->I i s->aU f (aT i (N:Int)) s=some (.inl ((aT i (N:Int)).foldl g s))/\I (N:Int) ((aT i (N:Int)).foldl g s):=by
  intro n
  induction n with
  | zero=>
   intro i s hn h0 hI
   rw[gy (by omega)]
   have:i=(N:Int):=by omega
   subst this
   exact⟨rfl,hI⟩
  | succ n ih=>
   intro i s hn h0 hI
   obtain⟨h1,h2⟩:=h i s h0 (by omega) hI
   rw[hY (by omega),ck,h1,bE]
   exact ih (i+1) _ (by omega) (by omega) h2
 exact key N 0 s (by omega) (by omega) h0
theorem zY {x:List ag.D} (h:x.length<=1048576):Sm (.sl ag) x:=⟨h,fun y _=>yO rfl y⟩
theorem CC {b:List ag.D} {i:Int} {v r:List ag.D} (h:pV b i v=some r):r.length=v.length:=by
 unfold pV at h
 cases hc:decide ((@nth ag v i).1=(@nth ag b i).1) with
 | true=>rw[hc] at h;simp only[cond_true,Option.some.injEq] at h;rw[<-h];simp
 | false=>rw[hc] at h;cases h
theorem lz {b:List ag.D}:∀{n:Nat} {i:Int} {v r:List ag.D},kS b n i v=some r->r.length=v.length
 | 0,i,v,r,h=>by cases h;rfl
 | n+1,i,v,r,h=>by
  unfold kS at h
  cases hs:pV b i v with
  | none=>rw[hs] at h;cases h
  | some v'=>
   rw[hs] at h
   rw[lz h,CC hs]
theorem aQ {α:Type} {b:Bool} {x:Option α} {y:α} (h:cond b x none=some y):b=true/\x=some y:=by
 cases b with
 | true=>exact⟨rfl,h⟩
 | false=>cases h
theorem xH {LK:List ai.D} {LN:List (List ag.D)} {s:ah.D} {c:List ag.D} (ht:Sm (.sl ai) LK) (ha:∀x∈LN,x.length<=1048576) (h:bF LK LN s=some c):c.length<=1048576:=by
 have hn:∀i:Int,(nth (t:=.sl ag) LN i:List ag.D).length<=1048576:=by
  intro i
  unfold nth
  rw[List.getD_eq_getElem?_getD]
  cases he:LN[i.toNat]? with
  | none=>exact Nat.zero_le _
  | some x=>exact ha x (List.mem_of_getElem? he)
 unfold bF at h
 obtain⟨_,h⟩:=aQ h
 cases h1:decide (s.1=(1:Int)) with
 | true=>
  rw[h1,cond_true] at h
  obtain⟨_,h⟩:=aQ h
  cases h
  exact(aO ht s.2.2.2.1).1.1
 | false=>
  rw[h1,cond_false] at h
  obtain⟨_,h⟩:=aQ h
  cases h2:decide (s.1=(2:Int)) with
  | true=>
   rw[h2,cond_true] at h
   obtain⟨_,h⟩:=aQ h
   cases h
   exact hn _
  | false=>
   rw[h2,cond_false] at h
   cases h3:decide (s.1=(3:Int)) with
   | true=>
    rw[h3,cond_true] at h
    obtain⟨hb,h⟩:=aQ h
    cases h
    have:=of_decide_eq_true (Bool.and_eq_true_iff.1 hb).2
    rw[List.length_map]
    omega
   | false=>
    rw[h3,cond_false] at h
    cases h4:decide (s.1=(4:Int)) with
    | true=>
     rw[h4,cond_true] at h
     obtain⟨hb,h⟩:=aQ h
     cases h
     have:=of_decide_eq_true (Bool.and_eq_true_iff.1 hb).1
     omega
    | false=>
     rw[h4,cond_false] at h
     cases h5:decide (s.1=(5:Int)) with
     | true=>
      rw[h5,cond_true] at h
      unfold both at h
      obtain⟨_,h⟩:=aQ h
      rw[lz h]
      exact hn _
     | false=>
      rw[h5,cond_false] at h
      obtain⟨_,h⟩:=aQ h
      cases h
      exact hn _
theorem nX {LK:List ai.D} {LN:List (List ag.D)} {s:ah.D} {c:List ag.D} (h:bF LK LN s=some c):pg (LN.length:Int) s:=by
 intro h1
 unfold bF at h
 obtain⟨_,h⟩:=aQ h
 rw[decide_eq_false h1,cond_false] at h
 obtain⟨hb,_⟩:=aQ h
 obtain⟨ha,hb⟩:=Bool.and_eq_true_iff.1 hb
 exact⟨⟨fk ha,Int.lt_of_le_sub_one (nQ ha)⟩,⟨fk hb,Int.lt_of_le_sub_one (nQ hb)⟩⟩
theorem Em {LK:List ai.D} {st st':fC} {s:ah.D} (h:bg LK st s=some st'):pg (st.1.length:Int) s/\st'.1.length=st.1.length+1:=by
 unfold bg at h
 cases hc:bF LK st.1 s with
 | none=>rw[hc] at h;cases h
 | some c=>
  rw[hc] at h
  simp only at h
  cases hd:decide ((300:Int)<aN st.2 s) with
  | true=>rw[hd] at h;cases h
  | false=>
   rw[hd] at h
   cases h
   exact⟨nX hc,by simp⟩
theorem BU {LK:List ai.D}:∀(xs:List ah.D) (st st':fC),dH (bg LK) xs st=some st'->∀i:Int,0<=i->i<(xs.length:Int)->pg ((st.1.length:Int)+i) (@nth ah xs i)
 | [],st,st',h,i,h0,h1=>by simp at h1;omega
 | x::xs,st,st',h,i,h0,h1=>by
  unfold dH at h
  cases hp:bg LK st x with
  | none=>rw[hp] at h;cases h
  | some st1=>
   rw[hp] at h
   obtain⟨q1,q2⟩:=Em hp
   by_cases hi:i=0
   ·subst hi
    rw[zB,Int.add_zero]
    exact q1
   ·have:=BU xs st1 st' h (i-1) (by omega) (by simp at h1;omega)
    rw[q2] at this
    have e:i=(i-1)+1:=by omega
    rw[e,zJ _ _ (by omega)]
    have e2:((st.1.length+1:Nat):Int)+(i-1)=(st.1.length:Int)+(i-1+1):=by omega
    rw[<-e2]
    exact this
theorem ot {LK:List ai.D} {plan:List ah.D} (h:bU LK plan=true):KG plan:=by
 unfold bU at h
 obtain⟨h1,h2⟩:=Bool.and_eq_true_iff.1 h
 obtain⟨_,h2⟩:=Bool.and_eq_true_iff.1 h2
 have hl:(1:Int)<=(plan.length:Int):=by unfold inR at h2;simp at h2;omega
 refine⟨by omega,fun i i0 i1=>?_⟩
 unfold dM at h1
 cases hr:iM LK plan with
 | none=>rw[hr] at h1;cases h1
 | some st=>
  have:=BU plan ([],[]) st hr i i0 i1
  simpa using this
theorem KH {to:List Int} {s:ah.D} (h:Sm ah s):Sm ah (ren to s):=⟨trivial,trivial,trivial,h.2.2.2⟩
theorem zD {t:Ty}:∀{xss:List (List t.D)} {n:Nat},(∀x∈xss,x.length<=n)->(xss.flatten).length<=xss.length * n
 | [],n,_=>by simp
 | x::xss,n,h=>by
  have:=zD (xss:=xss) (fun y hy=>h y (by simp[hy]))
  have h1:=h x (by simp)
  rw[List.flatten_cons,List.length_append,List.length_cons,Nat.succ_mul]
  omega
end M
end Go.AE
end
section
namespace Go.AE
open Go Go.RowKit
set_option linter.unusedVariables false
def M.guardOf (LL:List aI.D) (n:Int):List aD.D×Bool:=match LL.find? (fun g:aI.D=>decide (g.1=n)) with
 | some g=>(g.2.1,true)
 | none=>([],false)
def M.eV (v:List ah.D×List Int) (s:ah.D):List ah.D:=v.1++[ren v.2 s]
def M.mj (LL:List aI.D) (o:List ah.D) (s:ah.D):List ah.D:=
 cond (decide (s.1=(1:Int))&&(guardOf LL s.2.2.2.1).2) (o++[((2:Int),(o.length:Int)-1,(0:Int),(0:Int),(guardOf LL s.2.2.2.1).1,([]:List Int),())]) o
def M.cG (LL:List aI.D) (plan:List ah.D) (v:List ah.D×List Int) (k:Int):List ah.D×List Int:=
 (mj LL (eV v (@nth ah plan k)) (@nth ah plan k),v.2.set k.toNat (((mj LL (eV v (@nth ah plan k)) (@nth ah plan k)).length:Int)-1))
def M.grown (LL:List aI.D) (plan:List ah.D):List ah.D×List Int:=(aT 0 (plan.length:Int)).foldl (cG LL plan) ([],List.replicate plan.length (0:Int))
def M.bB (LK:List ai.D) (LL:List aI.D) (plan:List ah.D):List ah.D×Bool:=
 cond (bS LK LL&&bU LK plan) (cond (decide (6<((grown LL plan).1.length:Int))) ([],false) ((grown LL plan).1,true)) ([],false)
namespace M
theorem nc {σ α:Type} (g:σ->α->Option σ):∀(xs:List α) (x:α) (s:σ),dH g (xs++[x]) s=match dH g xs s with
  | some s'=>g s' x
  | none=>none
 | [],x,s=>by
  show (match g s x with | some s'=>some s' | none=>none)=_
  show _=g s x
  cases g s x<;>rfl
 | y::xs,x,s=>by
  show (match g s y with | some s'=>dH g (xs++[x]) s' | none=>none)=match (match g s y with | some s'=>dH g xs s' | none=>none) with | some s'=>g s' x | none=>none
  cases g s y with
  | none=>rfl
  | some s'=>exact nc g xs x s'
theorem qq {σ α:Type} (g:σ->α->Option σ):∀(xs:List α) (k:Nat) (s r:σ),dH g xs s=some r->∃s',dH g (xs.take k) s=some s'
 | [],k,s,r,h=>⟨s,by simp[dH]⟩
 | x::xs,0,s,r,h=>⟨s,rfl⟩
 | x::xs,k+1,s,r,h=>by
  unfold dH at h
  cases hg:g s x with
  | none=>rw[hg] at h;cases h
  | some s1=>
   rw[hg] at h
   obtain⟨s',h'⟩:=qq g xs k s1 r h
   refine⟨s',?_⟩
   rw[List.take_succ_cons]
   unfold dH
   rw[hg]
   exact h'
theorem gF {t:Ty} {xs ys:List t.D} {i:Int} (h0:0<=i) (h1:i<(xs.length:Int)):@nth t (xs++ys) i=@nth t xs i:=by
 unfold nth
 rw[List.getD_eq_getElem?_getD,List.getD_eq_getElem?_getD,List.getElem?_append_left (by omega)]
theorem fm {t:Ty} {xs:List t.D} {x:t.D} {i:Int} (h:i=(xs.length:Int)):@nth t (xs++[x]) i=x:=by
 subst h
 unfold nth
 rw[List.getD_eq_getElem?_getD]
 simp
theorem Au (to:List Int) (s:ah.D):bM (ren to s)=bM s:=by
 unfold bM ren
 simp only
 cases h1:decide (s.1=(1:Int))<;>cases h2:two s.1<;>simp
def ki (st st':fC) (to:List Int) (k:Int):Prop:=(st.1.length:Int)=k/\(st.2.length:Int)=k/\st'.1.length=st'.2.length ∧
 ∀j:Int,0<=j->j<k->(0<=nth (t:=.int .i64) to j/\nth (t:=.int .i64) to j<(st'.1.length:Int))/\nth (t:=.sl ag) st'.1 (nth (t:=.int .i64) to j)=nth (t:=.sl ag) st.1 j/\nth (t:=.int .i64) st'.2 (nth (t:=.int .i64) to j)=nth (t:=.int .i64) st.2 j
theorem jW {n N:Int}:inR n 0 (N-1)=true ↔ 0<=n/\n<N:=by
 unfold inR
 simp
 omega
theorem Ih {s:ah.D} (h:bM s=true) (h2:two s.1=false):s.2.2.1=(0:Int):=by
 unfold bM at h
 rw[h2] at h
 have h:=(Bool.and_eq_true_iff.1 (Bool.and_eq_true_iff.1 h).2).1
 simpa using h
theorem HS {LK:List ai.D} {st st':fC} {to:List Int} {k:Int} {s:ah.D} {c:List ag.D} (hS:ki st st' to k) (h:bF LK st.1 s=some c) :
  bF LK st'.1 (ren to s)=some c/\aN st'.2 (ren to s)=aN st.2 s:=by
 obtain⟨l1,l2,l3,hS⟩:=hS
 have hin:=nX h
 have hf:bM s=true:=by
  unfold bF at h
  exact(aQ h).1
 by_cases h1:s.1=(1:Int)
 ·have e:ren to s=s:=by
   unfold ren two
   rw[h1]
   exact Prod.ext h1.symm rfl
  rw[e]
  unfold bF at h ⊢
  unfold aN
  rw[decide_eq_true h1] at h ⊢
  exact⟨h,rfl⟩
 ·obtain⟨⟨a0,a1⟩,⟨b0,b1⟩⟩:=hin h1
  rw[l1] at a1 b1
  obtain⟨⟨ra0,ra1⟩,ra2,ra3⟩:=hS _ a0 a1
  obtain⟨⟨rb0,rb1⟩,rb2,rb3⟩:=hS _ b0 b1
  have eA:(ren to s).2.1=nth (t:=.int .i64) to s.2.1:=by
   unfold ren
   rw[decide_eq_false h1]
   rfl
  have eK:(ren to s).1=s.1:=rfl
  have eN:(ren to s).2.2.2=s.2.2.2:=rfl
  cases ht:two s.1 with
  | true=>
   have eB:(ren to s).2.2.1=nth (t:=.int .i64) to s.2.2.1:=by
    unfold ren
    rw[ht]
    rfl
   unfold bF at h ⊢
   unfold aN
   rw[Au,eK,eN,eA,eB,ra2,rb2,ra3,rb3,decide_eq_false h1,jW.2 ⟨ra0,ra1⟩,jW.2 ⟨rb0,rb1⟩]
   rw[decide_eq_false h1,jW.2 ⟨a0,by rw[l1];exact a1⟩,jW.2 ⟨b0,by rw[l1];exact b1⟩] at h
   exact⟨h,rfl⟩
  | false=>
   have eB:(ren to s).2.2.1=s.2.2.1:=by
    unfold ren
    rw[ht]
    rfl
   have hb:=Ih hf ht
   have k4:decide (s.1=(4:Int))=false:=by
    unfold two at ht
    exact(Bool.or_eq_false_iff.1 ht).1
   have k5:decide (s.1=(5:Int))=false:=by
    unfold two at ht
    exact(Bool.or_eq_false_iff.1 ht).2
   have hz:inR s.2.2.1 0 ((st'.1.length:Int)-1)=true:=by
    rw[hb]
    exact jW.2 ⟨Int.le_refl _,Int.lt_of_le_of_lt ra0 ra1⟩
   unfold bF at h ⊢
   unfold aN
   rw[Au,eK,eN,eA,eB,ra2,ra3,decide_eq_false h1,jW.2 ⟨ra0,ra1⟩,hz,k4,k5]
   rw[decide_eq_false h1,jW.2 ⟨a0,by rw[l1];exact a1⟩,jW.2 ⟨b0,by rw[l1];exact b1⟩,k4,k5] at h
   exact⟨h,rfl⟩
theorem jl {LK:List ai.D} {st st':fC} {s:ah.D} (h:bg LK st s=some st') :
  ∃c,bF LK st.1 s=some c/\decide ((300:Int)<aN st.2 s)=false/\st'=(st.1++[c],st.2++[aN st.2 s]):=by
 unfold bg at h
 cases hc:bF LK st.1 s with
 | none=>rw[hc] at h;cases h
 | some c=>
  rw[hc] at h
  simp only at h
  cases hd:decide ((300:Int)<aN st.2 s) with
  | true=>rw[hd] at h;cases h
  | false=>
   rw[hd] at h
   cases h
   exact⟨c,rfl,rfl,rfl⟩
theorem vS {LK:List ai.D} {st:fC} {s:ah.D} {c:List ag.D} {m:Int} (h1:bF LK st.1 s=some c) (h2:aN st.2 s=m) (h3:decide ((300:Int)<m)=false):bg LK st s=some (st.1++[c],st.2++[m]):=by
 unfold bg
 rw[h1]
 simp only
 rw[h2,h3]
 rfl
theorem GJ {LK:List ai.D} {LL:List aI.D} (hg:bS LK LL=true) {plan:List ah.D} {st st2 st':fC} {v:List ah.D×List Int} {k:Int} (k0:0<=k) (k1:k<(plan.length:Int)) (hl:v.2.length=plan.length)
  (hS:ki st st' v.2 k) (h:bg LK st (@nth ah plan k)=some st2) (h':dH (bg LK) v.1 ([],[])=some st') (hn:st'.1.length=v.1.length) :
  ∃st2',dH (bg LK) (cG LL plan v k).1 ([],[])=some st2'/\ki st2 st2' (cG LL plan v k).2 (k+1)/\st2'.1.length=(cG LL plan v k).1.length:=by
 obtain⟨c,hc,hd,rfl⟩:=jl h
 obtain⟨hc',hm'⟩:=HS hS hc
 obtain⟨l1,l2,l3,hS⟩:=hS
 have hp:=vS hc' hm' hd
 have e1:dH (bg LK) (eV v (@nth ah plan k)) ([],[])=some (st'.1++[c],st'.2++[aN st.2 (@nth ah plan k)]):=by
  unfold eV
  rw[nc,h']
  exact hp
 -- what stands behind all of them
 have fin:∀(o:List ah.D) (su:fC),dH (bg LK) o ([],[])=some su->su.1.length=o.length->su.1.length=su.2.length->0<o.length →
   (∀j:Int,0<=j->j<(st'.1.length:Int)->nth (t:=.sl ag) su.1 j=nth (t:=.sl ag) st'.1 j/\nth (t:=.int .i64) su.2 j=nth (t:=.int .i64) st'.2 j)->st'.1.length<=su.1.length →
   nth (t:=.sl ag) su.1 ((o.length:Int)-1)=c->nth (t:=.int .i64) su.2 ((o.length:Int)-1)=aN st.2 (@nth ah plan k) →
   ki (st.1++[c],st.2++[aN st.2 (@nth ah plan k)]) su (v.2.set k.toNat ((o.length:Int)-1)) (k+1):=by
  intro o su hf hlo hlu hpos hold hle hlast hlastm
  refine⟨by simp;omega,by simp;omega,hlu,fun j j0 j1=>?_⟩
  by_cases hj:j=k
  ·subst hj
   rw[Cp (t:=.int .i64) j0 (by rw[hl];exact k1),hlast,hlastm,fm (t:=.sl ag) l1.symm,fm (t:=.int .i64) l2.symm]
   have p1:(0:Int)<=(o.length:Int)-1:=by omega
   have p2:(o.length:Int)-1<(su.1.length:Int):=by omega
   exact⟨⟨p1,p2⟩,rfl,rfl⟩
  ·have hjk:j<k:=by omega
   obtain⟨⟨r0,r1⟩,r2,r3⟩:=hS j j0 hjk
   rw[qJ (t:=.int .i64) k0 j0 (fun e=>hj e.symm),gF (t:=.sl ag) j0 (by rw[l1];exact hjk),gF (t:=.int .i64) j0 (by rw[l2];exact hjk)]
   obtain⟨q1,q2⟩:=hold _ r0 r1
   rw[q1,q2]
   refine⟨⟨r0,?_⟩,r2,r3⟩
   have:(st'.1.length:Int)<=(su.1.length:Int):=by omega
   exact Int.lt_of_lt_of_le r1 this
 have g1l:(eV v (@nth ah plan k)).length=st'.1.length+1:=by unfold eV;simp[hn]
 unfold cG
 simp only
 unfold mj
 cases hgd:(decide ((@nth ah plan k).1=(1:Int))&&(guardOf LL (@nth ah plan k).2.2.2.1).2) with
 | false=>
  simp only[cond_false]
  refine⟨_,e1,?_,by simp[g1l]⟩
  refine fin _ _ e1 (by simp[g1l]) (by simp[l3]) (by omega) (fun j j0 j1=>⟨gF (t:=.sl ag) j0 j1,gF (t:=.int .i64) j0 (by rw[<-l3];exact j1)⟩) (by simp) ?_ ?_
  ·exact fm (t:=.sl ag) (by rw[g1l];omega)
  ·exact fm (t:=.int .i64) (by rw[g1l,l3];omega)
 | true=>
  simp only[cond_true]
  obtain⟨hk1,hgs⟩:=Bool.and_eq_true_iff.1 hgd
  have hk1:=of_decide_eq_true hk1
  -- the guard
  have hcol:c=(@nth ai LK (@nth ah plan k).2.2.2.1).1:=by
   unfold bF at hc
   obtain⟨_,hc⟩:=aQ hc
   rw[decide_eq_true hk1,cond_true] at hc
   exact(Option.some.inj (aQ hc).2).symm
  have hek:bR c (guardOf LL (@nth ah plan k).2.2.2.1).1=3:=by
   unfold guardOf at hgs ⊢
   cases hfd:LL.find? (fun g:aI.D=>decide (g.1=(@nth ah plan k).2.2.2.1)) with
   | none=>rw[hfd] at hgs;cases hgs
   | some g=>
    have hmem:=List.mem_of_find?_eq_some hfd
    have hgn:g.1=(@nth ah plan k).2.2.2.1:=by simpa using List.find?_some hfd
    have:=(ri hg hmem).2.1
    rw[hgn,<-hcol] at this
    exact this
  have hc3:bF LK (st'.1++[c]) ((2:Int),((eV v (@nth ah plan k)).length:Int)-1,(0:Int),(0:Int),(guardOf LL (@nth ah plan k).2.2.2.1).1,([]:List Int),())=some c:=by
   have hA:inR (((eV v (@nth ah plan k)).length:Int)-1) 0 (((st'.1++[c]).length:Int)-1)=true:=jW.2 ⟨by omega,by simp;omega⟩
   have hB:inR (0:Int) 0 (((st'.1++[c]).length:Int)-1)=true:=jW.2 ⟨by omega,by simp⟩
   have hnth:nth (t:=.sl ag) (st'.1++[c]) (((eV v (@nth ah plan k)).length:Int)-1)=c:=fm (t:=.sl ag) (by rw[g1l];omega)
   unfold bF
   simp only[hA,hB,hnth,hek,decide_true,cond_true,Bool.and_self,Int.reduceEq,decide_false,cond_false]
   unfold bM two
   simp
  have hm3:aN (st'.2++[aN st.2 (@nth ah plan k)]) ((2:Int),((eV v (@nth ah plan k)).length:Int)-1,(0:Int),(0:Int),(guardOf LL (@nth ah plan k).2.2.2.1).1,([]:List Int),())=aN st.2 (@nth ah plan k):=by
   have hnth:nth (t:=.int .i64) (st'.2++[aN st.2 (@nth ah plan k)]) (((eV v (@nth ah plan k)).length:Int)-1)=aN st.2 (@nth ah plan k):=fm (t:=.int .i64) (by rw[g1l,l3];omega)
   rw[show aN (st'.2++[aN st.2 (@nth ah plan k)]) ((2:Int),((eV v (@nth ah plan k)).length:Int)-1,(0:Int),(0:Int),(guardOf LL (@nth ah plan k).2.2.2.1).1,([]:List Int),())=nth (t:=.int .i64) (st'.2++[aN st.2 (@nth ah plan k)]) (((eV v (@nth ah plan k)).length:Int)-1) from rfl,hnth]
  have e2:=vS (st:=(st'.1++[c],st'.2++[aN st.2 (@nth ah plan k)])) hc3 hm3 hd
  have e3:dH (bg LK) (eV v (@nth ah plan k)++[((2:Int),((eV v (@nth ah plan k)).length:Int)-1,(0:Int),(0:Int),(guardOf LL (@nth ah plan k).2.2.2.1).1,([]:List Int),())]) ([],[])=some (st'.1++[c]++[c],st'.2++[aN st.2 (@nth ah plan k)]++[aN st.2 (@nth ah plan k)]):=by
   rw[nc,e1]
   exact e2
  refine⟨_,e3,?_,by simp[g1l]⟩
  refine fin _ _ e3 (by simp[g1l]) (by simp[l3]) (by simp) (fun j j0 j1=>⟨?_,?_⟩) (by simp) ?_ ?_
  ·show nth (t:=.sl ag) (st'.1++[c]++[c]) j=_
   rw[List.append_assoc]
   exact gF (t:=.sl ag) j0 j1
  ·show nth (t:=.int .i64) (st'.2++[aN st.2 (@nth ah plan k)]++[aN st.2 (@nth ah plan k)]) j=_
   rw[List.append_assoc]
   exact gF (t:=.int .i64) j0 (by rw[<-l3];exact j1)
  ·exact fm (t:=.sl ag) (by simp[g1l])
  ·exact fm (t:=.int .i64) (by simp[g1l,l3])
theorem xj {t:Ty} {xs:List t.D} {k:Nat} (h:k<xs.length):xs.take (k+1)=xs.take k++[@nth t xs (k:Int)]:=by
 rw[List.take_succ_eq_append_getElem h,qI (t:=t) (by omega) (by omega)]
 rfl
theorem BL {LK:List ai.D} {LL:List aI.D} (hg:bS LK LL=true) {plan:List ah.D} {r:fC} (hr:iM LK plan=some r) :
  ∀(n:Nat),n<=plan.length->∃st st' v,(aT 0 (n:Int)).foldl (cG LL plan) ([],List.replicate plan.length (0:Int))=v/\v.2.length=plan.length/\dH (bg LK) (plan.take n) ([],[])=some st ∧
   dH (bg LK) v.1 ([],[])=some st'/\ki st st' v.2 n/\st'.1.length=v.1.length/\n<=v.1.length/\v.1.length<=2 * n
 | 0,_=>⟨([],[]),([],[]),_,rfl,by rw[gy (by omega)];simp,rfl,rfl,⟨rfl,rfl,rfl,fun j j0 j1=>by omega⟩,rfl,Nat.le_refl _,Nat.le_refl _⟩
 | n+1,hn=>by
  obtain⟨st,st',v,e,hl,h1,h2,h3,h4,h5,h6⟩:=BL hg hr n (by omega)
  obtain⟨st2,h7⟩:=qq (bg LK) plan (n+1) ([],[]) r hr
  have h8:bg LK st (@nth ah plan (n:Int))=some st2:=by
   rw[xj (t:=ah) (by omega),nc,h1] at h7
   exact h7
  obtain⟨st2',q1,q2,q3⟩:=GJ hg (by omega) (by omega) hl h3 h8 h2 h4
  refine⟨st2,st2',cG LL plan v (n:Int),?_,?_,h7,q1,q2,q3,?_,?_⟩
  ·have hsn:aT 0 ((n+1:Nat):Int)=aT 0 (n:Int)++[(n:Int)]:=by
    unfold aT
    have e1:(((n+1:Nat):Int)-0).toNat=n+1:=by omega
    have e2:((n:Int)-0).toNat=n:=by omega
    rw[e1,e2,List.range_succ,List.map_append]
    simp
   rw[hsn,List.foldl_append,e]
   rfl
  ·unfold cG
   simp[hl]
  ·unfold cG mj eV
   simp only
   cases (decide ((@nth ah plan (n:Int)).1=(1:Int))&&(guardOf LL (@nth ah plan (n:Int)).2.2.2.1).2)<;>simp<;>omega
  ·unfold cG mj eV
   simp only
   cases (decide ((@nth ah plan (n:Int)).1=(1:Int))&&(guardOf LL (@nth ah plan (n:Int)).2.2.2.1).2)<;>simp<;>omega
theorem Ja {LK:List ai.D} {LL:List aI.D} (hg:bS LK LL=true) {plan:List ah.D} (hp:bU LK plan=true) :
  bU LK (grown LL plan).1=!decide (6<((grown LL plan).1.length:Int)):=by
 have hp':=hp
 unfold bU at hp
 obtain⟨h1,h2⟩:=Bool.and_eq_true_iff.1 hp
 obtain⟨ht,h2⟩:=Bool.and_eq_true_iff.1 h2
 have hpos:=(ot hp').1
 unfold dM at h1
 cases hr:iM LK plan with
 | none=>rw[hr] at h1;cases h1
 | some r=>
  obtain⟨st,st',v,e,hl,_,q2,q3,q4,q5,q6⟩:=BL hg hr plan.length (Nat.le_refl _)
  have hv:(grown LL plan)=v:=e
  rw[hv]
  unfold bU dM iM
  rw[q2,ht]
  simp only[Bool.true_and]
  unfold inR
  rw[decide_eq_true (show (1:Int)<=(v.1.length:Int) by omega),Bool.true_and]
  by_cases h6:6<(v.1.length:Int)
  ·rw[decide_eq_true h6,decide_eq_false (by omega)]
   rfl
  ·rw[decide_eq_false h6,decide_eq_true (by omega)]
   rfl
theorem FD {LL:List aI.D} (h:Sm (.sl aI) LL) (n:Int):Sm (.sl aD) (guardOf LL n).1:=by
 unfold guardOf
 cases hfd:LL.find? (fun g:aI.D=>decide (g.1=n)) with
 | none=>exact kJ _
 | some g=>exact(h.2 g (List.mem_of_find?_eq_some hfd)).2.1
theorem FV {LL:List aI.D} (hgs:Sm (.sl aI) LL) {plan:List ah.D} (hs:Sm (.sl ah) plan) {v:List ah.D×List Int} {k:Int} (h:∀s∈v.1,Sm ah s):∀s∈(cG LL plan v k).1,Sm ah s:=by
 have g1:∀s∈eV v (@nth ah plan k),Sm ah s:=by
  intro s hm
  rcases List.mem_append.1 hm with hm | hm
  ·exact h s hm
  ·cases List.mem_singleton.1 hm
   exact KH (aO hs k)
 unfold cG mj
 simp only
 cases (decide ((@nth ah plan k).1=(1:Int))&&(guardOf LL (@nth ah plan k).2.2.2.1).2) with
 | false=>exact g1
 | true=>
  intro s hm
  rcases List.mem_append.1 hm with hm | hm
  ·exact g1 s hm
  ·cases List.mem_singleton.1 hm
   exact⟨trivial,trivial,trivial,trivial,FD hgs _,kJ _,trivial⟩
theorem Iv {LL:List aI.D} {plan:List ah.D} {v:List ah.D×List Int} {k:Int}:((cG LL plan v k).1.length:Int)<=v.1.length+2/\(cG LL plan v k).2.length=v.2.length:=by
 unfold cG mj eV
 simp only
 cases (decide ((@nth ah plan k).1=(1:Int))&&(guardOf LL (@nth ah plan k).2.2.2.1).2)<;>simp
theorem ES {LK:List ai.D} {LL:List aI.D} (hgs:Sm (.sl aI) LL) {plan:List ah.D} (hs:Sm (.sl ah) plan):Sm (.sl ah) (bB LK LL plan).1:=by
 unfold bB
 cases (bS LK LL&&bU LK plan) with
 | false=>exact kJ _
 | true=>
  simp only[cond_true]
  by_cases h6:6<((grown LL plan).1.length:Int)
  ·rw[decide_eq_true h6]
   exact kJ _
  ·rw[decide_eq_false h6]
   refine⟨?_,?_⟩
   ·show (grown LL plan).1.length<=1048576
    omega
   ·have key:∀(l:List Int) (v:List ah.D×List Int),(∀s∈v.1,Sm ah s)->∀s∈(l.foldl (cG LL plan) v).1,Sm ah s:=by
     intro l
     induction l with
     | nil=>intro v h;exact h
     | cons x l ih=>intro v h;exact ih _ (FV hgs hs h)
    exact key _ _ (fun s h=>by cases h)
end M
end Go.AE
namespace Go.AE
open Go Go.RowKit
theorem M.HO {LK:List ai.D} {plan:List ah.D} (h:bU LK plan=true):plan.length<=6:=by
 unfold bU at h
 obtain⟨_,h⟩:=Bool.and_eq_true_iff.1 h
 obtain⟨_,h⟩:=Bool.and_eq_true_iff.1 h
 unfold inR at h
 simp at h
 omega
end Go.AE
end
