/- Plans: plain Lean. -/
import Derived.Test.YtiplhefglgpdoaaGreatAeMM
namespace Go.AE
open Go Go.RowKit
set_option linter.unusedVariables false
abbrev aF:Ty:=.pair (.sl ag) (.pair (.int .i64) .unit)
def M.two (k:Int):Bool:=decide (k=4)||decide (k=5)
def M.bJ (s:ah.D):Bool:=(!decide (s.1=(1:Int))||decide (s.2.1=(0:Int)))&&((two s.1||decide (s.2.2.1=(0:Int)))&&((decide (s.1=(1:Int))||decide (s.2.2.2.1=(0:Int))) &&
 ((decide (s.1=(2:Int))||decide (s.1=(4:Int))||decide ((s.2.2.2.2.1.length:Int)=(0:Int)))&&(decide (s.1=(3:Int))||decide ((s.2.2.2.2.2.1.length:Int)=(0:Int))))))
def M.oT (b:List ag.D) (i:Int) (v:List ag.D):Option (List ag.D):=
 cond (decide ((nth (t:=ag) v i).1=(nth (t:=ag) b i).1)) (some (v.set i.toNat ((nth (t:=ag) v i).1,((nth (t:=ag) v i).2.1||(nth (t:=ag) b i).2.1),()))) none
def M.kB (b:List ag.D):Nat->Int->List ag.D->Option (List ag.D)
 | 0,_,v=>some v
 | n+1,i,v=>match oT b i v with
  | some v'=>kB b n (i+1) v'
  | none=>none
def M.both (a b:List ag.D):Option (List ag.D):=cond (decide (a.length=b.length)) (kB b a.length 0 a) none
def M.bZ (tables:List ax.D) (ahead:List (List ag.D)) (s:ah.D):Option (List ag.D):=
 cond (bJ s) (cond (decide (s.1=(1:Int))) (cond (inR s.2.2.2.1 0 ((tables.length:Int)-1)) (some (nth (t:=ax) tables s.2.2.2.1).1) none)
  (cond (inR s.2.1 0 ((ahead.length:Int)-1)&&inR s.2.2.1 0 ((ahead.length:Int)-1))
   (cond (decide (s.1=(2:Int))) (cond (decide (cW (nth (t:=.sl ag) ahead s.2.1) s.2.2.2.2.1=3)) (some (nth (t:=.sl ag) ahead s.2.1)) none)
   (cond (decide (s.1=(3:Int))) (cond ((s.2.2.2.2.2.1.all fun n=>inR n 0 (((nth (t:=.sl ag) ahead s.2.1).length:Int)-1))&&decide ((s.2.2.2.2.2.1.length:Int)<=4)) (some (s.2.2.2.2.2.1.map fun n=>nth (t:=ag) (nth (t:=.sl ag) ahead s.2.1) n)) none)
   (cond (decide (s.1=(4:Int))) (cond (decide (((nth (t:=.sl ag) ahead s.2.1++nth (t:=.sl ag) ahead s.2.2.1:List ag.D).length:Int)<=4)&&decide (cW (nth (t:=.sl ag) ahead s.2.1++nth (t:=.sl ag) ahead s.2.2.1:List ag.D) s.2.2.2.2.1=3))
    (some (nth (t:=.sl ag) ahead s.2.1++nth (t:=.sl ag) ahead s.2.2.1:List ag.D)) none)
   (cond (decide (s.1=(5:Int))) (both (nth (t:=.sl ag) ahead s.2.1) (nth (t:=.sl ag) ahead s.2.2.1))
   (cond (decide (s.1=(6:Int))) (some (nth (t:=.sl ag) ahead s.2.1)) none))))) none)) none
def M.aP (ahead:List Int) (s:ah.D):Int:=cond (decide (s.1=(1:Int))) 6 (cond (decide (s.1=(4:Int))) (wrap64 (nth (t:=.int .i64) ahead s.2.1 * nth (t:=.int .i64) ahead s.2.2.1))
 (cond (decide (s.1=(5:Int))) (wrap64 (nth (t:=.int .i64) ahead s.2.1+nth (t:=.int .i64) ahead s.2.2.1)) (nth (t:=.int .i64) ahead s.2.1)))
def M.dr {σ α:Type} (g:σ->α->Option σ):List α->σ->Option σ
 | [],s=>some s
 | x::xs,s=>match g s x with
  | some s'=>dr g xs s'
  | none=>none
abbrev fk:Type:=List (List ag.D)×List Int
def M.bQ (tables:List ax.D) (st:fk) (s:ah.D):Option fk:=match bZ tables st.1 s with
 | some c=>cond (decide ((300:Int)<aP st.2 s)) none (some (st.1++[c],st.2++[aP st.2 s]))
 | none=>none
def M.jt (tables:List ax.D) (plan:List ah.D):Option fk:=dr (bQ tables) plan ([],[])
def M.cY (tables:List ax.D) (plan:List ah.D):List (List ag.D)×Bool:=match jt tables plan with
 | some st=>(st.1,true)
 | none=>([],false)
def M.bC (tables:List ax.D) (plan:List ah.D):Bool:=(cY tables plan).2&&(cO tables&&inR (plan.length:Int) 1 6)
def M.fI (k:Int) (s:ah.D):Prop:=¬s.1=(1:Int)->(0<=s.2.1/\s.2.1<k)/\(0<=s.2.2.1/\s.2.2.1<k)
def M.iW (plan:List ah.D):Prop:=0<plan.length/\∀i:Int,0<=i->i<(plan.length:Int)->fI i (nth (t:=ah) plan i)
def M.bu (plan:List ah.D) (k:Int) (u:List Bool):List Bool:=
 cond (nth (t:=.bool) u k&&!decide ((nth (t:=ah) plan k).1=(1:Int))) (cond (two (nth (t:=ah) plan k).1) ((u.set (nth (t:=ah) plan k).2.1.toNat true).set (nth (t:=ah) plan k).2.2.1.toNat true) (u.set (nth (t:=ah) plan k).2.1.toNat true)) u
def M.cv {σ:Type} (g:Int->σ->σ):Nat->σ->σ
 | 0,u=>u
 | n+1,u=>cv g n (g (n:Int) u)
def M.cn (plan:List ah.D):List Bool:=cv (bu plan) plan.length ((List.replicate plan.length false).set (plan.length-1) true)
def M.ren (to:List Int) (s:ah.D):ah.D:=(s.1,cond (decide (s.1=(1:Int))) s.2.1 (nth (t:=.int .i64) to s.2.1),cond (two s.1) (nth (t:=.int .i64) to s.2.2.1) s.2.2.1,s.2.2.2)
def M.bt (plan:List ah.D) (need:List Bool) (st:List Int×List ah.D) (k:Int):List Int×List ah.D:=
 cond (nth (t:=.bool) need k) (st.1.set k.toNat (st.2.length:Int),st.2++[ren st.1 (nth (t:=ah) plan k)]) st
def M.tidy (plan:List ah.D):List ah.D:=((aK 0 (plan.length:Int)).foldl (bt plan (cn plan)) (List.replicate plan.length (0:Int),[])).2
def M.cM (tables:List ax.D) (plan:List ah.D):List ah.D:=cond (bC tables plan) (tidy plan) []
namespace M
theorem DN {α σ τ ρ:Type} {f:α->τ->Option (Sum τ ρ)} (g:σ->α->Option σ) (ab:τ->σ) (I:Nat->τ->Prop) :
  ∀(xs:List α) (n:Nat) (t:τ),I n t->(∀x∈xs,∀(m:Nat) t,n<=m->m<n+xs.length->I m t->∃o,f x t=some o/\match o with
   | .inl t'=>g (ab t) x=some (ab t')/\I (m+1) t'
   | .inr _=>g (ab t) x=none)->∃o,aM f xs t=some o/\match o with
   | .inl t'=>dr g xs (ab t)=some (ab t')/\I (n+xs.length) t'
   | .inr _=>dr g xs (ab t)=none
 | [],n,t,h0,_=>⟨.inl t,rfl,rfl,h0⟩
 | x::xs,n,t,h0,h=>by
  obtain⟨o,h1,h2⟩:=h x (by simp) n t (Nat.le_refl _) (by simp) h0
  match o with
  | .inr r=>
   refine⟨.inr r,by rw[bK,h1,rL],?_⟩
   simp only at h2 ⊢
   unfold dr
   rw[h2]
  | .inl t'=>
   simp only at h2
   obtain⟨o',h3,h4⟩:=DN g ab I xs (n+1) t' h2.2 (fun y hy m t hm hm2 hI=>h y (by simp[hy]) m t (by omega) (by simp;omega) hI)
   refine⟨o',by rw[bK,h1,aU];exact h3,?_⟩
   have e:n+1+xs.length=n+(x::xs).length:=by simp;omega
   unfold dr
   rw[h2.1]
   rw[e] at h4
   exact h4
theorem AU {t:Ty} {σ τ ρ:Type} {f:Int->τ->Option (Sum τ ρ)} (g:σ->t.D->Option σ) (ab:τ->σ) (I:Nat->τ->Prop) (all:List t.D) :
  ∀(xs zs:List t.D) (s:τ),all=zs++xs->I zs.length s->(∀(m:Nat) s,m<all.length->I m s->∃o,f (m:Int) s=some o/\match o with
   | .inl s'=>g (ab s) (nth all (m:Int))=some (ab s')/\I (m+1) s'
   | .inr _=>g (ab s) (nth all (m:Int))=none)->∃o,aM f (aK (zs.length:Int) (all.length:Int)) s=some o/\match o with
   | .inl s'=>dr g xs (ab s)=some (ab s')/\I all.length s'
   | .inr _=>dr g xs (ab s)=none
 | [],zs,s,e,h0,_=>⟨.inl s,by rw[bP (by rw[e];simp)];rfl,rfl,by rw[e];simpa using h0⟩
 | x::xs,zs,s,e,h0,h=>by
  have hlt:zs.length<all.length:=by rw[e];simp
  have hn:nth (t:=t) all (zs.length:Int)=x:=by
   rw[e]
   unfold nth
   rw[List.getD_eq_getElem?_getD]
   simp
  obtain⟨o,h1,h2⟩:=h zs.length s hlt h0
  rw[hn] at h2
  rw[dw (by omega),bK,h1]
  match o with
  | .inr r=>
   refine⟨.inr r,rfl,?_⟩
   simp only at h2 ⊢
   unfold dr
   rw[h2]
  | .inl s'=>
   simp only at h2
   have e2:(zs.length:Int)+1=((zs++[x]).length:Int):=by simp
   obtain⟨o',h3,h4⟩:=AU g ab I all xs (zs++[x]) s' (by rw[e];simp) (by simpa using h2.2) h
   refine⟨o',by rw[aU,e2];exact h3,?_⟩
   unfold dr
   rw[h2.1]
   exact h4
theorem qz {σ ρ:Type} {f:Int->σ->Option (Sum σ ρ)} (g:σ->Int->σ) (I:Int->σ->Prop) (N:Nat) {s:σ} (h0:I 0 s)
  (h:∀(i:Int) (s:σ),0<=i->i<(N:Int)->I i s->f i s=some (.inl (g s i))/\I (i+1) (g s i)) :
  aM f (aK 0 (N:Int)) s=some (.inl ((aK 0 (N:Int)).foldl g s))/\I (N:Int) ((aK 0 (N:Int)).foldl g s):=by
 have key:∀(n:Nat) (i:Int) (s:σ),(N:Int)-i=n->0<=i->I i s->aM f (aK i (N:Int)) s=some (.inl ((aK i (N:Int)).foldl g s))/\I (N:Int) ((aK i (N:Int)).foldl g s):=by
  intro n
  induction n with
  | zero=>
   intro i s hn h0 hI
   rw[bP (by omega)]
   have:i=(N:Int):=by omega
   subst this
   exact⟨rfl,hI⟩
  | succ n ih=>
   intro i s hn h0 hI
   obtain⟨h1,h2⟩:=h i s h0 (by omega) hI
   rw[dw (by omega),bK,h1,aU]
   exact ih (i+1) _ (by omega) (by omega) h2
 exact key N 0 s (by omega) (by omega) h0
theorem sD {σ:Type} {f:Int×σ->Option (Sum (Int×σ) σ)} (g:Int->σ->σ) (I:σ->Prop) (N:Nat)
  (h:∀(k:Int) (u:σ),0<=k->k<(N:Int)->I u->f (k,u)=some (.inl (k-1,g k u))/\I (g k u)) (he:∀u,I u->f (-1,u)=some (.inr u)) :
  ∀(n:Nat) (u:σ),n<=N->I u->cr f ((n:Int)-1,u)=some (cv g n u)/\I (cv g n u)
 | 0,u,_,hI=>by
  rw[dQ,show ((0:Nat):Int)-1=-1 from rfl,he u hI]
  exact⟨rfl,hI⟩
 | n+1,u,hn,hI=>by
  obtain⟨h1,h2⟩:=h (n:Int) u (by omega) (by omega) hI
  rw[dQ,show ((n+1:Nat):Int)-1=(n:Int) by omega,h1,aU]
  exact sD g I N h he n _ (by omega) h2
theorem zi {α β γ:Type} (g:α×β->γ->α×β) (g':β×α->γ->β×α) (h:∀a b x,g' (b,a) x=((g (a,b) x).2,(g (a,b) x).1)) :
  ∀(xs:List γ) (a:α) (b:β),xs.foldl g' (b,a)=((xs.foldl g (a,b)).2,(xs.foldl g (a,b)).1)
 | [],_,_=>rfl
 | x::xs,a,b=>by
  rw[List.foldl_cons,List.foldl_cons,h]
  exact zi g g' h xs _ _
theorem GL {t:Ty} {u:List t.D} {i:Int} (h0:0<=i) (h1:i<(u.length:Int)):u.set i.toNat (nth (t:=t) u i)=u:=by
 rw[vN h0 h1]
 exact List.set_getElem_self ..
theorem yD {x:List ag.D} (h:x.length<=1048576):Sm (.sl ag) x:=⟨h,fun y _=>xY rfl y⟩
theorem BP {b:List ag.D} {i:Int} {v r:List ag.D} (h:oT b i v=some r):r.length=v.length:=by
 unfold oT at h
 cases hc:decide ((nth (t:=ag) v i).1=(nth (t:=ag) b i).1) with
 | true=>rw[hc] at h;simp only[cond_true,Option.some.injEq] at h;rw[<-h];simp
 | false=>rw[hc] at h;cases h
theorem kF {b:List ag.D}:∀{n:Nat} {i:Int} {v r:List ag.D},kB b n i v=some r->r.length=v.length
 | 0,i,v,r,h=>by cases h;rfl
 | n+1,i,v,r,h=>by
  unfold kB at h
  cases hs:oT b i v with
  | none=>rw[hs] at h;cases h
  | some v'=>
   rw[hs] at h
   rw[kF h,BP hs]
theorem aS {α:Type} {b:Bool} {x:Option α} {y:α} (h:cond b x none=some y):b=true/\x=some y:=by
 cases b with
 | true=>exact⟨rfl,h⟩
 | false=>cases h
theorem xb {tables:List ax.D} {ahead:List (List ag.D)} {s:ah.D} {c:List ag.D} (ht:Sm (.sl ax) tables) (ha:∀x∈ahead,x.length<=1048576) (h:bZ tables ahead s=some c):c.length<=1048576:=by
 have hn:∀i:Int,(nth (t:=.sl ag) ahead i:List ag.D).length<=1048576:=by
  intro i
  unfold nth
  rw[List.getD_eq_getElem?_getD]
  cases he:ahead[i.toNat]? with
  | none=>exact Nat.zero_le _
  | some x=>exact ha x (List.mem_of_getElem? he)
 unfold bZ at h
 obtain⟨_,h⟩:=aS h
 cases h1:decide (s.1=(1:Int)) with
 | true=>
  rw[h1,cond_true] at h
  obtain⟨_,h⟩:=aS h
  cases h
  exact(aQ ht s.2.2.2.1).1.1
 | false=>
  rw[h1,cond_false] at h
  obtain⟨_,h⟩:=aS h
  cases h2:decide (s.1=(2:Int)) with
  | true=>
   rw[h2,cond_true] at h
   obtain⟨_,h⟩:=aS h
   cases h
   exact hn _
  | false=>
   rw[h2,cond_false] at h
   cases h3:decide (s.1=(3:Int)) with
   | true=>
    rw[h3,cond_true] at h
    obtain⟨hb,h⟩:=aS h
    cases h
    have:=of_decide_eq_true (Bool.and_eq_true_iff.1 hb).2
    rw[List.length_map]
    omega
   | false=>
    rw[h3,cond_false] at h
    cases h4:decide (s.1=(4:Int)) with
    | true=>
     rw[h4,cond_true] at h
     obtain⟨hb,h⟩:=aS h
     cases h
     have:=of_decide_eq_true (Bool.and_eq_true_iff.1 hb).1
     omega
    | false=>
     rw[h4,cond_false] at h
     cases h5:decide (s.1=(5:Int)) with
     | true=>
      rw[h5,cond_true] at h
      unfold both at h
      obtain⟨_,h⟩:=aS h
      rw[kF h]
      exact hn _
     | false=>
      rw[h5,cond_false] at h
      obtain⟨_,h⟩:=aS h
      cases h
      exact hn _
theorem mX {tables:List ax.D} {ahead:List (List ag.D)} {s:ah.D} {c:List ag.D} (h:bZ tables ahead s=some c):fI (ahead.length:Int) s:=by
 intro h1
 unfold bZ at h
 obtain⟨_,h⟩:=aS h
 rw[decide_eq_false h1,cond_false] at h
 obtain⟨hb,_⟩:=aS h
 obtain⟨ha,hb⟩:=Bool.and_eq_true_iff.1 hb
 exact⟨⟨gj ha,Int.lt_of_le_sub_one (rJ ha)⟩,⟨gj hb,Int.lt_of_le_sub_one (rJ hb)⟩⟩
theorem CD {tables:List ax.D} {st st':fk} {s:ah.D} (h:bQ tables st s=some st'):fI (st.1.length:Int) s/\st'.1.length=st.1.length+1:=by
 unfold bQ at h
 cases hc:bZ tables st.1 s with
 | none=>rw[hc] at h;cases h
 | some c=>
  rw[hc] at h
  simp only at h
  cases hd:decide ((300:Int)<aP st.2 s) with
  | true=>rw[hd] at h;cases h
  | false=>
   rw[hd] at h
   cases h
   exact⟨mX hc,by simp⟩
theorem AX {tables:List ax.D}:∀(xs:List ah.D) (st st':fk),dr (bQ tables) xs st=some st'->∀i:Int,0<=i->i<(xs.length:Int)->fI ((st.1.length:Int)+i) (nth (t:=ah) xs i)
 | [],st,st',h,i,h0,h1=>by simp at h1;omega
 | x::xs,st,st',h,i,h0,h1=>by
  unfold dr at h
  cases hp:bQ tables st x with
  | none=>rw[hp] at h;cases h
  | some st1=>
   rw[hp] at h
   obtain⟨q1,q2⟩:=CD hp
   by_cases hi:i=0
   ·subst hi
    rw[zu,Int.add_zero]
    exact q1
   ·have:=AX xs st1 st' h (i-1) (by omega) (by simp at h1;omega)
    rw[q2] at this
    have e:i=(i-1)+1:=by omega
    rw[e,yu _ _ (by omega)]
    have e2:((st.1.length+1:Nat):Int)+(i-1)=(st.1.length:Int)+(i-1+1):=by omega
    rw[<-e2]
    exact this
theorem cT {tables:List ax.D} {plan:List ah.D} (h:bC tables plan=true):iW plan:=by
 unfold bC at h
 obtain⟨h1,h2⟩:=Bool.and_eq_true_iff.1 h
 obtain⟨_,h2⟩:=Bool.and_eq_true_iff.1 h2
 have hl:(1:Int)<=(plan.length:Int):=by unfold inR at h2;simp at h2;omega
 refine⟨by omega,fun i i0 i1=>?_⟩
 unfold cY at h1
 cases hr:jt tables plan with
 | none=>rw[hr] at h1;cases h1
 | some st=>
  have:=AX plan ([],[]) st hr i i0 i1
  simpa using this
theorem lU (plan:List ah.D) (k:Int) (u:List Bool):(bu plan k u).length=u.length:=by
 unfold bu
 cases (nth (t:=.bool) u k&&!decide ((nth (t:=ah) plan k).1=(1:Int)))
 ·rfl
 ·cases two (nth (t:=ah) plan k).1<;>simp
theorem wS {σ:Type} {g:Int->σ->σ} {I:σ->Prop} (h:∀k u,I u->I (g k u)):∀(n:Nat) (u:σ),I u->I (cv g n u)
 | 0,_,hu=>hu
 | n+1,u,hu=>wS h n _ (h _ _ hu)
theorem oH (plan:List ah.D):(cn plan).length=plan.length:=by
 unfold cn
 exact wS (I:=fun u:List Bool=>u.length=plan.length) (fun k u hu=>by rw[lU,hu]) _ _ (by simp)
theorem Jr {to:List Int} {s:ah.D} (h:Sm ah s):Sm ah (ren to s):=⟨trivial,trivial,trivial,h.2.2.2⟩
theorem zc {plan:List ah.D} {need:List Bool} (hs:Sm (.sl ah) plan) {st:List Int×List ah.D} {k:Int} (k0:0<=k)
  (h:st.1.length=plan.length/\(st.2.length:Int)<=k/\∀s∈st.2,Sm ah s):(bt plan need st k).1.length=plan.length/\((bt plan need st k).2.length:Int)<=k+1/\∀s∈(bt plan need st k).2,Sm ah s:=by
 obtain⟨h1,h2,h3⟩:=h
 unfold bt
 cases nth (t:=.bool) need k with
 | false=>exact⟨h1,by show (st.2.length:Int)<=k+1;omega,h3⟩
 | true=>
  refine⟨by simp[h1],by simp;omega,fun s hm=>?_⟩
  rcases List.mem_append.1 hm with hm | hm
  ·exact h3 s hm
  ·cases List.mem_singleton.1 hm
   exact Jr (aQ hs k)
theorem DI {plan:List ah.D} (hs:Sm (.sl ah) plan) (need:List Bool):∀(n:Nat) (i:Int) (st:List Int×List ah.D),(plan.length:Int)-i=n->0<=i->(st.1.length=plan.length/\(st.2.length:Int)<=i/\∀s∈st.2,Sm ah s) →
  Sm (.sl ah) ((aK i (plan.length:Int)).foldl (bt plan need) st).2
 | 0,i,st,hn,h0,h=>by
  rw[bP (by omega)]
  have:=hs.1
  refine⟨?_,h.2.2⟩
  have h2:=h.2.1
  show st.2.length<=1048576
  omega
 | n+1,i,st,hn,h0,h=>by
  rw[dw (by omega),List.foldl_cons]
  exact DI hs need n (i+1) _ (by omega) (by omega) (zc hs h0 h)
theorem IS {plan:List ah.D} (hs:Sm (.sl ah) plan):Sm (.sl ah) (tidy plan):=
 DI hs _ plan.length 0 _ (by omega) (by omega) ⟨by simp,by simp,fun s h=>by cases h⟩
theorem DD {tables:List ax.D} {plan:List ah.D} (hs:Sm (.sl ah) plan):Sm (.sl ah) (cM tables plan):=by
 unfold cM
 cases bC tables plan with
 | true=>exact IS hs
 | false=>exact jN _
theorem zf {t:Ty}:∀{xss:List (List t.D)} {n:Nat},(∀x∈xss,x.length<=n)->(xss.flatten).length<=xss.length * n
 | [],n,_=>by simp
 | x::xss,n,h=>by
  have:=zf (xss:=xss) (fun y hy=>h y (by simp[hy]))
  have h1:=h x (by simp)
  rw[List.flatten_cons,List.length_append,List.length_cons,Nat.succ_mul]
  omega
end M
end Go.AE
