/- Plans: plain Lean. -/
import Derived.Test.YtjakcjmjlfdeoaaGreatAeMM
section
namespace Go.AE
open Go Go.RowKit
set_option linter.unusedVariables false
abbrev aF:Ty:=.pair (.sl ag) (.pair (.int .i64) .unit)
def M.two (k:Int):Bool:=decide (k=4)||decide (k=5)
def M.bR (s:aj.D):Bool:=(!decide (s.1=(1:Int))||decide (s.2.1=(0:Int)))&&((two s.1||decide (s.2.2.1=(0:Int)))&&((decide (s.1=(1:Int))||decide (s.2.2.2.1=(0:Int))) &&
 ((decide (s.1=(2:Int))||decide (s.1=(4:Int))||decide ((s.2.2.2.2.1.length:Int)=(0:Int)))&&(decide (s.1=(3:Int))||decide ((s.2.2.2.2.2.1.length:Int)=(0:Int))))))
def M.nN (b:List ag.D) (i:Int) (v:List ag.D):Option (List ag.D):=
 cond (decide ((nth (t:=ag) v i).1=(nth (t:=ag) b i).1)) (some (v.set i.toNat ((nth (t:=ag) v i).1,((nth (t:=ag) v i).2.1||(nth (t:=ag) b i).2.1),()))) none
def M.jA (b:List ag.D):Nat->Int->List ag.D->Option (List ag.D)
 | 0,_,v=>some v
 | n+1,i,v=>match nN b i v with
  | some v'=>jA b n (i+1) v'
  | none=>none
def M.both (a b:List ag.D):Option (List ag.D):=cond (decide (a.length=b.length)) (jA b a.length 0 a) none
def M.cH (tables:List ax.D) (ahead:List (List ag.D)) (s:aj.D):Option (List ag.D):=
 cond (bR s) (cond (decide (s.1=(1:Int))) (cond (inR s.2.2.2.1 0 ((tables.length:Int)-1)) (some (nth (t:=ax) tables s.2.2.2.1).1) none)
  (cond (inR s.2.1 0 ((ahead.length:Int)-1)&&inR s.2.2.1 0 ((ahead.length:Int)-1))
   (cond (decide (s.1=(2:Int))) (cond (decide (cO (nth (t:=.sl ag) ahead s.2.1) s.2.2.2.2.1=3)) (some (nth (t:=.sl ag) ahead s.2.1)) none)
   (cond (decide (s.1=(3:Int))) (cond ((s.2.2.2.2.2.1.all fun n=>inR n 0 (((nth (t:=.sl ag) ahead s.2.1).length:Int)-1))&&decide ((s.2.2.2.2.2.1.length:Int)<=4)) (some (s.2.2.2.2.2.1.map fun n=>nth (t:=ag) (nth (t:=.sl ag) ahead s.2.1) n)) none)
   (cond (decide (s.1=(4:Int))) (cond (decide (((nth (t:=.sl ag) ahead s.2.1++nth (t:=.sl ag) ahead s.2.2.1:List ag.D).length:Int)<=4)&&decide (cO (nth (t:=.sl ag) ahead s.2.1++nth (t:=.sl ag) ahead s.2.2.1:List ag.D) s.2.2.2.2.1=3))
    (some (nth (t:=.sl ag) ahead s.2.1++nth (t:=.sl ag) ahead s.2.2.1:List ag.D)) none)
   (cond (decide (s.1=(5:Int))) (both (nth (t:=.sl ag) ahead s.2.1) (nth (t:=.sl ag) ahead s.2.2.1))
   (cond (decide (s.1=(6:Int))) (some (nth (t:=.sl ag) ahead s.2.1)) none))))) none)) none
def M.bf (ahead:List Int) (s:aj.D):Int:=cond (decide (s.1=(1:Int))) 6 (cond (decide (s.1=(4:Int))) (wrap64 (nth (t:=.int .i64) ahead s.2.1 * nth (t:=.int .i64) ahead s.2.2.1))
 (cond (decide (s.1=(5:Int))) (wrap64 (nth (t:=.int .i64) ahead s.2.1+nth (t:=.int .i64) ahead s.2.2.1)) (nth (t:=.int .i64) ahead s.2.1)))
def M.eA {σ α:Type} (g:σ->α->Option σ):List α->σ->Option σ
 | [],s=>some s
 | x::xs,s=>match g s x with
  | some s'=>eA g xs s'
  | none=>none
abbrev gF:Type:=List (List ag.D)×List Int
def M.bS (tables:List ax.D) (st:gF) (s:aj.D):Option gF:=match cH tables st.1 s with
 | some c=>cond (decide ((300:Int)<bf st.2 s)) none (some (st.1++[c],st.2++[bf st.2 s]))
 | none=>none
def M.mh (tables:List ax.D) (plan:List aj.D):Option gF:=eA (bS tables) plan ([],[])
def M.dg (tables:List ax.D) (plan:List aj.D):List (List ag.D)×Bool:=match mh tables plan with
 | some st=>(st.1,true)
 | none=>([],false)
def M.bL (tables:List ax.D) (plan:List aj.D):Bool:=(dg tables plan).2&&(cA tables&&inR (plan.length:Int) 1 6)
def M.oo (k:Int) (s:aj.D):Prop:=¬s.1=(1:Int)->(0<=s.2.1/\s.2.1<k)/\(0<=s.2.2.1/\s.2.2.1<k)
def M.Hz (plan:List aj.D):Prop:=0<plan.length/\∀i:Int,0<=i->i<(plan.length:Int)->oo i (nth (t:=aj) plan i)
def M.Gk (plan:List aj.D) (k:Int) (u:List Bool):List Bool:=
 cond (nth (t:=.bool) u k&&!decide ((nth (t:=aj) plan k).1=(1:Int))) (cond (two (nth (t:=aj) plan k).1) ((u.set (nth (t:=aj) plan k).2.1.toNat true).set (nth (t:=aj) plan k).2.2.1.toNat true) (u.set (nth (t:=aj) plan k).2.1.toNat true)) u
def M.DE {σ:Type} (g:Int->σ->σ):Nat->σ->σ
 | 0,u=>u
 | n+1,u=>DE g n (g (n:Int) u)
def M.Ii (plan:List aj.D):List Bool:=DE (Gk plan) plan.length ((List.replicate plan.length false).set (plan.length-1) true)
def M.ren (to:List Int) (s:aj.D):aj.D:=(s.1,cond (decide (s.1=(1:Int))) s.2.1 (nth (t:=.int .i64) to s.2.1),cond (two s.1) (nth (t:=.int .i64) to s.2.2.1) s.2.2.1,s.2.2.2)
def M.EZ (plan:List aj.D) (need:List Bool) (st:List Int×List aj.D) (k:Int):List Int×List aj.D:=
 cond (nth (t:=.bool) need k) (st.1.set k.toNat (st.2.length:Int),st.2++[ren st.1 (nth (t:=aj) plan k)]) st
def M.tidy (plan:List aj.D):List aj.D:=((br 0 (plan.length:Int)).foldl (EZ plan (Ii plan)) (List.replicate plan.length (0:Int),[])).2
namespace M
theorem CD {α σ τ ρ:Type} {f:α->τ->Option (Sum τ ρ)} (g:σ->α->Option σ) (ab:τ->σ) (I:Nat->τ->Prop) :
  ∀(xs:List α) (n:Nat) (t:τ),I n t->(∀x∈xs,∀(m:Nat) t,n<=m->m<n+xs.length->I m t->∃o,f x t=some o/\match o with
   | .inl t'=>g (ab t) x=some (ab t')/\I (m+1) t'
   | .inr _=>g (ab t) x=none)->∃o,aN f xs t=some o/\match o with
   | .inl t'=>eA g xs (ab t)=some (ab t')/\I (n+xs.length) t'
   | .inr _=>eA g xs (ab t)=none
 | [],n,t,h0,_=>⟨.inl t,rfl,rfl,h0⟩
 | x::xs,n,t,h0,h=>by
  obtain⟨o,h1,h2⟩:=h x (by simp) n t (Nat.le_refl _) (by simp) h0
  match o with
  | .inr r=>
   refine⟨.inr r,by rw[bN,h1,EN],?_⟩
   simp only at h2 ⊢
   unfold eA
   rw[h2]
  | .inl t'=>
   simp only at h2
   obtain⟨o',h3,h4⟩:=CD g ab I xs (n+1) t' h2.2 (fun y hy m t hm hm2 hI=>h y (by simp[hy]) m t (by omega) (by simp;omega) hI)
   refine⟨o',by rw[bN,h1,bp];exact h3,?_⟩
   have e:n+1+xs.length=n+(x::xs).length:=by simp;omega
   unfold eA
   rw[h2.1]
   rw[e] at h4
   exact h4
theorem Aa {t:Ty} {σ τ ρ:Type} {f:Int->τ->Option (Sum τ ρ)} (g:σ->t.D->Option σ) (ab:τ->σ) (I:Nat->τ->Prop) (all:List t.D) :
  ∀(xs zs:List t.D) (s:τ),all=zs++xs->I zs.length s->(∀(m:Nat) s,m<all.length->I m s->∃o,f (m:Int) s=some o/\match o with
   | .inl s'=>g (ab s) (nth all (m:Int))=some (ab s')/\I (m+1) s'
   | .inr _=>g (ab s) (nth all (m:Int))=none)->∃o,aN f (br (zs.length:Int) (all.length:Int)) s=some o/\match o with
   | .inl s'=>eA g xs (ab s)=some (ab s')/\I all.length s'
   | .inr _=>eA g xs (ab s)=none
 | [],zs,s,e,h0,_=>⟨.inl s,by rw[iC (by rw[e];simp)];rfl,rfl,by rw[e];simpa using h0⟩
 | x::xs,zs,s,e,h0,h=>by
  have hlt:zs.length<all.length:=by rw[e];simp
  have hn:nth (t:=t) all (zs.length:Int)=x:=by
   rw[e]
   unfold nth
   rw[List.getD_eq_getElem?_getD]
   simp
  obtain⟨o,h1,h2⟩:=h zs.length s hlt h0
  rw[hn] at h2
  rw[gD (by omega),bN,h1]
  match o with
  | .inr r=>
   refine⟨.inr r,rfl,?_⟩
   simp only at h2 ⊢
   unfold eA
   rw[h2]
  | .inl s'=>
   simp only at h2
   have e2:(zs.length:Int)+1=((zs++[x]).length:Int):=by simp
   obtain⟨o',h3,h4⟩:=Aa g ab I all xs (zs++[x]) s' (by rw[e];simp) (by simpa using h2.2) h
   refine⟨o',by rw[bp,e2];exact h3,?_⟩
   unfold eA
   rw[h2.1]
   exact h4
theorem zg {σ ρ:Type} {f:Int->σ->Option (Sum σ ρ)} (g:σ->Int->σ) (I:Int->σ->Prop) (N:Nat) {s:σ} (h0:I 0 s)
  (h:∀(i:Int) (s:σ),0<=i->i<(N:Int)->I i s->f i s=some (.inl (g s i))/\I (i+1) (g s i)) :
  aN f (br 0 (N:Int)) s=some (.inl ((br 0 (N:Int)).foldl g s))/\I (N:Int) ((br 0 (N:Int)).foldl g s):=by
 have key:∀(n:Nat) (i:Int) (s:σ),(N:Int)-i=n->0<=i->I i s->aN f (br i (N:Int)) s=some (.inl ((br i (N:Int)).foldl g s))/\I (N:Int) ((br i (N:Int)).foldl g s):=by
  intro n
  induction n with
  | zero=>
   intro i s hn h0 hI
   rw[iC (by omega)]
   have:i=(N:Int):=by omega
   subst this
   exact⟨rfl,hI⟩
  | succ n ih=>
   intro i s hn h0 hI
   obtain⟨h1,h2⟩:=h i s h0 (by omega) hI
   rw[gD (by omega),bN,h1,bp]
   exact ih (i+1) _ (by omega) (by omega) h2
 exact key N 0 s (by omega) (by omega) h0
theorem yO {x:List ag.D} (h:x.length<=1048576):Sm (.sl ag) x:=⟨h,fun y _=>xu rfl y⟩
theorem AW {b:List ag.D} {i:Int} {v r:List ag.D} (h:nN b i v=some r):r.length=v.length:=by
 unfold nN at h
 cases hc:decide ((nth (t:=ag) v i).1=(nth (t:=ag) b i).1) with
 | true=>rw[hc] at h;simp only[cond_true,Option.some.injEq] at h;rw[<-h];simp
 | false=>rw[hc] at h;cases h
theorem jP {b:List ag.D}:∀{n:Nat} {i:Int} {v r:List ag.D},jA b n i v=some r->r.length=v.length
 | 0,i,v,r,h=>by cases h;rfl
 | n+1,i,v,r,h=>by
  unfold jA at h
  cases hs:nN b i v with
  | none=>rw[hs] at h;cases h
  | some v'=>
   rw[hs] at h
   rw[jP h,AW hs]
theorem aR {α:Type} {b:Bool} {x:Option α} {y:α} (h:cond b x none=some y):b=true/\x=some y:=by
 cases b with
 | true=>exact⟨rfl,h⟩
 | false=>cases h
theorem vH {tables:List ax.D} {ahead:List (List ag.D)} {s:aj.D} {c:List ag.D} (ht:Sm (.sl ax) tables) (ha:∀x∈ahead,x.length<=1048576) (h:cH tables ahead s=some c):c.length<=1048576:=by
 have hn:∀i:Int,(nth (t:=.sl ag) ahead i:List ag.D).length<=1048576:=by
  intro i
  unfold nth
  rw[List.getD_eq_getElem?_getD]
  cases he:ahead[i.toNat]? with
  | none=>exact Nat.zero_le _
  | some x=>exact ha x (List.mem_of_getElem? he)
 unfold cH at h
 obtain⟨_,h⟩:=aR h
 cases h1:decide (s.1=(1:Int)) with
 | true=>
  rw[h1,cond_true] at h
  obtain⟨_,h⟩:=aR h
  cases h
  exact(aJ ht s.2.2.2.1).1.1
 | false=>
  rw[h1,cond_false] at h
  obtain⟨_,h⟩:=aR h
  cases h2:decide (s.1=(2:Int)) with
  | true=>
   rw[h2,cond_true] at h
   obtain⟨_,h⟩:=aR h
   cases h
   exact hn _
  | false=>
   rw[h2,cond_false] at h
   cases h3:decide (s.1=(3:Int)) with
   | true=>
    rw[h3,cond_true] at h
    obtain⟨hb,h⟩:=aR h
    cases h
    have:=of_decide_eq_true (Bool.and_eq_true_iff.1 hb).2
    rw[List.length_map]
    omega
   | false=>
    rw[h3,cond_false] at h
    cases h4:decide (s.1=(4:Int)) with
    | true=>
     rw[h4,cond_true] at h
     obtain⟨hb,h⟩:=aR h
     cases h
     have:=of_decide_eq_true (Bool.and_eq_true_iff.1 hb).1
     omega
    | false=>
     rw[h4,cond_false] at h
     cases h5:decide (s.1=(5:Int)) with
     | true=>
      rw[h5,cond_true] at h
      unfold both at h
      obtain⟨_,h⟩:=aR h
      rw[jP h]
      exact hn _
     | false=>
      rw[h5,cond_false] at h
      obtain⟨_,h⟩:=aR h
      cases h
      exact hn _
theorem qC {tables:List ax.D} {ahead:List (List ag.D)} {s:aj.D} {c:List ag.D} (h:cH tables ahead s=some c):oo (ahead.length:Int) s:=by
 intro h1
 unfold cH at h
 obtain⟨_,h⟩:=aR h
 rw[decide_eq_false h1,cond_false] at h
 obtain⟨hb,_⟩:=aR h
 obtain⟨ha,hb⟩:=Bool.and_eq_true_iff.1 hb
 exact⟨⟨fR ha,Int.lt_of_le_sub_one (qX ha)⟩,⟨fR hb,Int.lt_of_le_sub_one (qX hb)⟩⟩
theorem Cr {tables:List ax.D} {st st':gF} {s:aj.D} (h:bS tables st s=some st'):oo (st.1.length:Int) s/\st'.1.length=st.1.length+1:=by
 unfold bS at h
 cases hc:cH tables st.1 s with
 | none=>rw[hc] at h;cases h
 | some c=>
  rw[hc] at h
  simp only at h
  cases hd:decide ((300:Int)<bf st.2 s) with
  | true=>rw[hd] at h;cases h
  | false=>
   rw[hd] at h
   cases h
   exact⟨qC hc,by simp⟩
theorem zX {tables:List ax.D}:∀(xs:List aj.D) (st st':gF),eA (bS tables) xs st=some st'->∀i:Int,0<=i->i<(xs.length:Int)->oo ((st.1.length:Int)+i) (nth (t:=aj) xs i)
 | [],st,st',h,i,h0,h1=>by simp at h1;omega
 | x::xs,st,st',h,i,h0,h1=>by
  unfold eA at h
  cases hp:bS tables st x with
  | none=>rw[hp] at h;cases h
  | some st1=>
   rw[hp] at h
   obtain⟨q1,q2⟩:=Cr hp
   by_cases hi:i=0
   ·subst hi
    rw[zj,Int.add_zero]
    exact q1
   ·have:=zX xs st1 st' h (i-1) (by omega) (by simp at h1;omega)
    rw[q2] at this
    have e:i=(i-1)+1:=by omega
    rw[e,yA _ _ (by omega)]
    have e2:((st.1.length+1:Nat):Int)+(i-1)=(st.1.length:Int)+(i-1+1):=by omega
    rw[<-e2]
    exact this
theorem vI {tables:List ax.D} {plan:List aj.D} (h:bL tables plan=true):Hz plan:=by
 unfold bL at h
 obtain⟨h1,h2⟩:=Bool.and_eq_true_iff.1 h
 obtain⟨_,h2⟩:=Bool.and_eq_true_iff.1 h2
 have hl:(1:Int)<=(plan.length:Int):=by unfold inR at h2;simp at h2;omega
 refine⟨by omega,fun i i0 i1=>?_⟩
 unfold dg at h1
 cases hr:mh tables plan with
 | none=>rw[hr] at h1;cases h1
 | some st=>
  have:=zX plan ([],[]) st hr i i0 i1
  simpa using this
theorem xW {t:Ty}:∀{xss:List (List t.D)} {n:Nat},(∀x∈xss,x.length<=n)->(xss.flatten).length<=xss.length * n
 | [],n,_=>by simp
 | x::xss,n,h=>by
  have:=xW (xss:=xss) (fun y hy=>h y (by simp[hy]))
  have h1:=h x (by simp)
  rw[List.flatten_cons,List.length_append,List.length_cons,Nat.succ_mul]
  omega
end M
end Go.AE
end
section
namespace Go.AE
open Go Go.RowKit
set_option linter.unusedVariables false
namespace M
theorem xV {σ α:Type} (g:σ->α->Option σ):∀(xs:List α) (x:α) (s:σ),eA g (xs++[x]) s=match eA g xs s with
  | some s'=>g s' x
  | none=>none
 | [],x,s=>by
  show (match g s x with | some s'=>some s' | none=>none)=_
  show _=g s x
  cases g s x<;>rfl
 | y::xs,x,s=>by
  show (match g s y with | some s'=>eA g (xs++[x]) s' | none=>none)=match (match g s y with | some s'=>eA g xs s' | none=>none) with | some s'=>g s' x | none=>none
  cases g s y with
  | none=>rfl
  | some s'=>exact xV g xs x s'
theorem yI {t:Ty} {xs ys:List t.D} {i:Int} (h0:0<=i) (h1:i<(xs.length:Int)):nth (t:=t) (xs++ys) i=nth (t:=t) xs i:=by
 unfold nth
 rw[List.getD_eq_getElem?_getD,List.getD_eq_getElem?_getD,List.getElem?_append_left (by omega)]
theorem uu {t:Ty} {xs:List t.D} {x:t.D} {i:Int} (h:i=(xs.length:Int)):nth (t:=t) (xs++[x]) i=x:=by
 subst h
 unfold nth
 rw[List.getD_eq_getElem?_getD]
 simp
def lD (st st':gF) (to:List Int) (k:Int):Prop:=(st.1.length:Int)=k/\(st.2.length:Int)=k/\st'.1.length=st'.2.length ∧
 ∀j:Int,0<=j->j<k->(0<=nth (t:=.int .i64) to j/\nth (t:=.int .i64) to j<(st'.1.length:Int))/\nth (t:=.sl ag) st'.1 (nth (t:=.int .i64) to j)=nth (t:=.sl ag) st.1 j/\nth (t:=.int .i64) st'.2 (nth (t:=.int .i64) to j)=nth (t:=.int .i64) st.2 j
theorem DC {n N:Int}:inR n 0 (N-1)=true ↔ 0<=n/\n<N:=by
 unfold inR
 simp
 omega
theorem mF {tables:List ax.D} {st st':gF} {s:aj.D} (h:bS tables st s=some st') :
  ∃c,cH tables st.1 s=some c/\decide ((300:Int)<bf st.2 s)=false/\st'=(st.1++[c],st.2++[bf st.2 s]):=by
 unfold bS at h
 cases hc:cH tables st.1 s with
 | none=>rw[hc] at h;cases h
 | some c=>
  rw[hc] at h
  simp only at h
  cases hd:decide ((300:Int)<bf st.2 s) with
  | true=>rw[hd] at h;cases h
  | false=>
   rw[hd] at h
   cases h
   exact⟨c,rfl,rfl,rfl⟩
end M
end Go.AE
namespace Go.AE
open Go Go.RowKit
end Go.AE
end
