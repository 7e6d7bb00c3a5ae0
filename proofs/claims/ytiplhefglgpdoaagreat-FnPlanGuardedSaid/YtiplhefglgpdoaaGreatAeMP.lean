/- Plans: plain Lean. -/
import Derived.Test.YtiplhefglgpdoaaGreatAeMN
namespace Go.AE
open Go Go.RowKit
set_option linter.unusedVariables false
@[reducible] def aG:Ty:=.pair (.sl ag) (.pair (.int .i64) .unit)
def M.two (k:Int):Bool:=decide (k=4)||decide (k=5)
def M.bI (s:ah.D):Bool:=(!decide (s.1=(1:Int))||decide (s.2.1=(0:Int)))&&((two s.1||decide (s.2.2.1=(0:Int)))&&((decide (s.1=(1:Int))||decide (s.2.2.2.1=(0:Int))) &&
 ((decide (s.1=(2:Int))||decide (s.1=(4:Int))||decide ((s.2.2.2.2.1.length:Int)=(0:Int)))&&(decide (s.1=(3:Int))||decide ((s.2.2.2.2.2.1.length:Int)=(0:Int))))))
def M.nZ (b:List ag.D) (i:Int) (v:List ag.D):Option (List ag.D):=
 cond (decide ((nth (t:=ag) v i).1=(nth (t:=ag) b i).1)) (some (v.set i.toNat ((nth (t:=ag) v i).1,((nth (t:=ag) v i).2.1||(nth (t:=ag) b i).2.1),()))) none
def M.jY (b:List ag.D):Nat->Int->List ag.D->Option (List ag.D)
 | 0,_,v=>some v
 | n+1,i,v=>match nZ b i v with
  | some v'=>jY b n (i+1) v'
  | none=>none
def M.both (a b:List ag.D):Option (List ag.D):=cond (decide (a.length=b.length)) (jY b a.length 0 a) none
def M.bJ (tables:List ax.D) (ahead:List (List ag.D)) (s:ah.D):Option (List ag.D):=
 cond (bI s) (cond (decide (s.1=(1:Int))) (cond (inR s.2.2.2.1 0 ((tables.length:Int)-1)) (some (nth (t:=ax) tables s.2.2.2.1).1) none)
  (cond (inR s.2.1 0 ((ahead.length:Int)-1)&&inR s.2.2.1 0 ((ahead.length:Int)-1))
   (cond (decide (s.1=(2:Int))) (cond (decide (bT (nth (t:=.sl ag) ahead s.2.1) s.2.2.2.2.1=3)) (some (nth (t:=.sl ag) ahead s.2.1)) none)
   (cond (decide (s.1=(3:Int))) (cond ((s.2.2.2.2.2.1.all fun n=>inR n 0 (((nth (t:=.sl ag) ahead s.2.1).length:Int)-1))&&decide ((s.2.2.2.2.2.1.length:Int)<=4)) (some (s.2.2.2.2.2.1.map fun n=>nth (t:=ag) (nth (t:=.sl ag) ahead s.2.1) n)) none)
   (cond (decide (s.1=(4:Int))) (cond (decide (((nth (t:=.sl ag) ahead s.2.1++nth (t:=.sl ag) ahead s.2.2.1:List ag.D).length:Int)<=4)&&decide (bT (nth (t:=.sl ag) ahead s.2.1++nth (t:=.sl ag) ahead s.2.2.1:List ag.D) s.2.2.2.2.1=3))
    (some (nth (t:=.sl ag) ahead s.2.1++nth (t:=.sl ag) ahead s.2.2.1:List ag.D)) none)
   (cond (decide (s.1=(5:Int))) (both (nth (t:=.sl ag) ahead s.2.1) (nth (t:=.sl ag) ahead s.2.2.1))
   (cond (decide (s.1=(6:Int))) (some (nth (t:=.sl ag) ahead s.2.1)) none))))) none)) none
def M.aL (ahead:List Int) (s:ah.D):Int:=cond (decide (s.1=(1:Int))) 6 (cond (decide (s.1=(4:Int))) (wrap64 (nth (t:=.int .i64) ahead s.2.1 * nth (t:=.int .i64) ahead s.2.2.1))
 (cond (decide (s.1=(5:Int))) (wrap64 (nth (t:=.int .i64) ahead s.2.1+nth (t:=.int .i64) ahead s.2.2.1)) (nth (t:=.int .i64) ahead s.2.1)))
def M.cT {σ α:Type} (g:σ->α->Option σ):List α->σ->Option σ
 | [],s=>some s
 | x::xs,s=>match g s x with
  | some s'=>cT g xs s'
  | none=>none
@[reducible] def eL:Type:=List (List ag.D)×List Int
def M.br (tables:List ax.D) (st:eL) (s:ah.D):Option eL:=match bJ tables st.1 s with
 | some c=>cond (decide ((300:Int)<aL st.2 s)) none (some (st.1++[c],st.2++[aL st.2 s]))
 | none=>none
def M.iL (tables:List ax.D) (plan:List ah.D):Option eL:=cT (br tables) plan ([],[])
def M.cQ (tables:List ax.D) (plan:List ah.D):List (List ag.D)×Bool:=match iL tables plan with
 | some st=>(st.1,true)
 | none=>([],false)
def M.bQ (tables:List ax.D) (plan:List ah.D):Bool:=(cQ tables plan).2&&(bN tables&&inR (plan.length:Int) 1 6)
def M.ni (k:Int) (s:ah.D):Prop:=¬s.1=(1:Int)->(0<=s.2.1/\s.2.1<k)/\(0<=s.2.2.1/\s.2.2.1<k)
def M.HO (plan:List ah.D):Prop:=0<plan.length/\∀i:Int,0<=i->i<(plan.length:Int)->ni i (nth (t:=ah) plan i)
def M.FU (plan:List ah.D) (k:Int) (u:List Bool):List Bool:=
 cond (nth (t:=.bool) u k&&!decide ((nth (t:=ah) plan k).1=(1:Int))) (cond (two (nth (t:=ah) plan k).1) ((u.set (nth (t:=ah) plan k).2.1.toNat true).set (nth (t:=ah) plan k).2.2.1.toNat true) (u.set (nth (t:=ah) plan k).2.1.toNat true)) u
def M.Em {σ:Type} (g:Int->σ->σ):Nat->σ->σ
 | 0,u=>u
 | n+1,u=>Em g n (g (n:Int) u)
def M.Ip (plan:List ah.D):List Bool:=Em (FU plan) plan.length ((List.replicate plan.length false).set (plan.length-1) true)
def M.ren (to:List Int) (s:ah.D):ah.D:=(s.1,cond (decide (s.1=(1:Int))) s.2.1 (nth (t:=.int .i64) to s.2.1),cond (two s.1) (nth (t:=.int .i64) to s.2.2.1) s.2.2.1,s.2.2.2)
def M.FW (plan:List ah.D) (need:List Bool) (st:List Int×List ah.D) (k:Int):List Int×List ah.D:=
 cond (nth (t:=.bool) need k) (st.1.set k.toNat (st.2.length:Int),st.2++[ren st.1 (nth (t:=ah) plan k)]) st
def M.tidy (plan:List ah.D):List ah.D:=((aQ 0 (plan.length:Int)).foldl (FW plan (Ip plan)) (List.replicate plan.length (0:Int),[])).2
namespace M
theorem CI {α σ τ ρ:Type} {f:α->τ->Option (Sum τ ρ)} (g:σ->α->Option σ) (ab:τ->σ) (I:Nat->τ->Prop) :
  ∀(xs:List α) (n:Nat) (t:τ),I n t->(∀x∈xs,∀(m:Nat) t,n<=m->m<n+xs.length->I m t->∃o,f x t=some o/\match o with
   | .inl t'=>g (ab t) x=some (ab t')/\I (m+1) t'
   | .inr _=>g (ab t) x=none)->∃o,aO f xs t=some o/\match o with
   | .inl t'=>cT g xs (ab t)=some (ab t')/\I (n+xs.length) t'
   | .inr _=>cT g xs (ab t)=none
 | [],n,t,h0,_=>⟨.inl t,rfl,rfl,h0⟩
 | x::xs,n,t,h0,h=>by
  obtain⟨o,h1,h2⟩:=h x (by simp) n t (Nat.le_refl _) (by simp) h0
  match o with
  | .inr r=>
   refine⟨.inr r,by rw[bS,h1,Ew],?_⟩
   simp only at h2 ⊢
   unfold cT
   rw[h2]
  | .inl t'=>
   simp only at h2
   obtain⟨o',h3,h4⟩:=CI g ab I xs (n+1) t' h2.2 (fun y hy m t hm hm2 hI=>h y (by simp[hy]) m t (by omega) (by simp;omega) hI)
   refine⟨o',by rw[bS,h1,bq];exact h3,?_⟩
   have e:n+1+xs.length=n+(x::xs).length:=by simp;omega
   unfold cT
   rw[h2.1]
   rw[e] at h4
   exact h4
theorem Aa {t:Ty} {σ τ ρ:Type} {f:Int->τ->Option (Sum τ ρ)} (g:σ->t.D->Option σ) (ab:τ->σ) (I:Nat->τ->Prop) (all:List t.D) :
  ∀(xs zs:List t.D) (s:τ),all=zs++xs->I zs.length s->(∀(m:Nat) s,m<all.length->I m s->∃o,f (m:Int) s=some o/\match o with
   | .inl s'=>g (ab s) (nth all (m:Int))=some (ab s')/\I (m+1) s'
   | .inr _=>g (ab s) (nth all (m:Int))=none)->∃o,aO f (aQ (zs.length:Int) (all.length:Int)) s=some o/\match o with
   | .inl s'=>cT g xs (ab s)=some (ab s')/\I all.length s'
   | .inr _=>cT g xs (ab s)=none
 | [],zs,s,e,h0,_=>⟨.inl s,by rw[fM (by rw[e];simp)];rfl,rfl,by rw[e];simpa using h0⟩
 | x::xs,zs,s,e,h0,h=>by
  have hlt:zs.length<all.length:=by rw[e];simp
  have hn:nth (t:=t) all (zs.length:Int)=x:=by
   rw[e]
   unfold nth
   rw[List.getD_eq_getElem?_getD]
   simp
  obtain⟨o,h1,h2⟩:=h zs.length s hlt h0
  rw[hn] at h2
  rw[gT (by omega),bS,h1]
  match o with
  | .inr r=>
   refine⟨.inr r,rfl,?_⟩
   simp only at h2 ⊢
   unfold cT
   rw[h2]
  | .inl s'=>
   simp only at h2
   have e2:(zs.length:Int)+1=((zs++[x]).length:Int):=by simp
   obtain⟨o',h3,h4⟩:=Aa g ab I all xs (zs++[x]) s' (by rw[e];simp) (by simpa using h2.2) h
   refine⟨o',by rw[bq,e2];exact h3,?_⟩
   unfold cT
   rw[h2.1]
   exact h4
theorem qt {σ ρ:Type} {f:Int->σ->Option (Sum σ ρ)} (g:σ->Int->σ) (I:Int->σ->Prop) (N:Nat) {s:σ} (h0:I 0 s)
  (h:∀(i:Int) (s:σ),0<=i->i<(N:Int)->I i s->f i s=some (.inl (g s i))/\I (i+1) (g s i)) :
  aO f (aQ 0 (N:Int)) s=some (.inl ((aQ 0 (N:Int)).foldl g s))/\I (N:Int) ((aQ 0 (N:Int)).foldl g s):=by
 have key:∀(n:Nat) (i:Int) (s:σ),(N:Int)-i=n->0<=i->I i s->aO f (aQ i (N:Int)) s=some (.inl ((aQ i (N:Int)).foldl g s))/\I (N:Int) ((aQ i (N:Int)).foldl g s):=by
  intro n
  induction n with
  | zero=>
   intro i s hn h0 hI
   rw[fM (by omega)]
   have:i=(N:Int):=by omega
   subst this
   exact⟨rfl,hI⟩
  | succ n ih=>
   intro i s hn h0 hI
   obtain⟨h1,h2⟩:=h i s h0 (by omega) hI
   rw[gT (by omega),bS,h1,bq]
   exact ih (i+1) _ (by omega) (by omega) h2
 exact key N 0 s (by omega) (by omega) h0
theorem xK {x:List ag.D} (h:x.length<=1048576):Sm (.sl ag) x:=⟨h,fun y _=>xz rfl y⟩
theorem AQ {b:List ag.D} {i:Int} {v r:List ag.D} (h:nZ b i v=some r):r.length=v.length:=by
 unfold nZ at h
 cases hc:decide ((nth (t:=ag) v i).1=(nth (t:=ag) b i).1) with
 | true=>rw[hc] at h;simp only[cond_true,Option.some.injEq] at h;rw[<-h];simp
 | false=>rw[hc] at h;cases h
theorem kG {b:List ag.D}:∀{n:Nat} {i:Int} {v r:List ag.D},jY b n i v=some r->r.length=v.length
 | 0,i,v,r,h=>by cases h;rfl
 | n+1,i,v,r,h=>by
  unfold jY at h
  cases hs:nZ b i v with
  | none=>rw[hs] at h;cases h
  | some v'=>
   rw[hs] at h
   rw[kG h,AQ hs]
theorem aR {α:Type} {b:Bool} {x:Option α} {y:α} (h:cond b x none=some y):b=true/\x=some y:=by
 cases b with
 | true=>exact⟨rfl,h⟩
 | false=>cases h
theorem vU {tables:List ax.D} {ahead:List (List ag.D)} {s:ah.D} {c:List ag.D} (ht:Sm (.sl ax) tables) (ha:∀x∈ahead,x.length<=1048576) (h:bJ tables ahead s=some c):c.length<=1048576:=by
 have hn:∀i:Int,(nth (t:=.sl ag) ahead i:List ag.D).length<=1048576:=by
  intro i
  unfold nth
  rw[List.getD_eq_getElem?_getD]
  cases he:ahead[i.toNat]? with
  | none=>exact Nat.zero_le _
  | some x=>exact ha x (List.mem_of_getElem? he)
 unfold bJ at h
 obtain⟨_,h⟩:=aR h
 cases h1:decide (s.1=(1:Int)) with
 | true=>
  rw[h1,cond_true] at h
  obtain⟨_,h⟩:=aR h
  cases h
  exact(aN ht s.2.2.2.1).1.1
 | false=>
  rw[h1,cond_false] at h
  obtain⟨_,h⟩:=aR h
  cases h2:decide (s.1=(2:Int)) with
  | true=>
   rw[h2,cond_true] at h
   obtain⟨_,h⟩:=aR h
   cases h
   exact hn _
  | false=>
   rw[h2,cond_false] at h
   cases h3:decide (s.1=(3:Int)) with
   | true=>
    rw[h3,cond_true] at h
    obtain⟨hb,h⟩:=aR h
    cases h
    have:=of_decide_eq_true (Bool.and_eq_true_iff.1 hb).2
    rw[List.length_map]
    omega
   | false=>
    rw[h3,cond_false] at h
    cases h4:decide (s.1=(4:Int)) with
    | true=>
     rw[h4,cond_true] at h
     obtain⟨hb,h⟩:=aR h
     cases h
     have:=of_decide_eq_true (Bool.and_eq_true_iff.1 hb).1
     omega
    | false=>
     rw[h4,cond_false] at h
     cases h5:decide (s.1=(5:Int)) with
     | true=>
      rw[h5,cond_true] at h
      unfold both at h
      obtain⟨_,h⟩:=aR h
      rw[kG h]
      exact hn _
     | false=>
      rw[h5,cond_false] at h
      obtain⟨_,h⟩:=aR h
      cases h
      exact hn _
theorem mX {tables:List ax.D} {ahead:List (List ag.D)} {s:ah.D} {c:List ag.D} (h:bJ tables ahead s=some c):ni (ahead.length:Int) s:=by
 intro h1
 unfold bJ at h
 obtain⟨_,h⟩:=aR h
 rw[decide_eq_false h1,cond_false] at h
 obtain⟨hb,_⟩:=aR h
 obtain⟨ha,hb⟩:=Bool.and_eq_true_iff.1 hb
 exact⟨⟨ew ha,Int.lt_of_le_sub_one (mZ ha)⟩,⟨ew hb,Int.lt_of_le_sub_one (mZ hb)⟩⟩
theorem Cw {tables:List ax.D} {st st':eL} {s:ah.D} (h:br tables st s=some st'):ni (st.1.length:Int) s/\st'.1.length=st.1.length+1:=by
 unfold br at h
 cases hc:bJ tables st.1 s with
 | none=>rw[hc] at h;cases h
 | some c=>
  rw[hc] at h
  simp only at h
  cases hd:decide ((300:Int)<aL st.2 s) with
  | true=>rw[hd] at h;cases h
  | false=>
   rw[hd] at h
   cases h
   exact⟨mX hc,by simp⟩
theorem AD {tables:List ax.D}:∀(xs:List ah.D) (st st':eL),cT (br tables) xs st=some st'->∀i:Int,0<=i->i<(xs.length:Int)->ni ((st.1.length:Int)+i) (nth (t:=ah) xs i)
 | [],st,st',h,i,h0,h1=>by simp at h1;omega
 | x::xs,st,st',h,i,h0,h1=>by
  unfold cT at h
  cases hp:br tables st x with
  | none=>rw[hp] at h;cases h
  | some st1=>
   rw[hp] at h
   obtain⟨q1,q2⟩:=Cw hp
   by_cases hi:i=0
   ·subst hi
    rw[yA,Int.add_zero]
    exact q1
   ·have:=AD xs st1 st' h (i-1) (by omega) (by simp at h1;omega)
    rw[q2] at this
    have e:i=(i-1)+1:=by omega
    rw[e,yg _ _ (by omega)]
    have e2:((st.1.length+1:Nat):Int)+(i-1)=(st.1.length:Int)+(i-1+1):=by omega
    rw[<-e2]
    exact this
theorem ko {tables:List ax.D} {plan:List ah.D} (h:bQ tables plan=true):HO plan:=by
 unfold bQ at h
 obtain⟨h1,h2⟩:=Bool.and_eq_true_iff.1 h
 obtain⟨_,h2⟩:=Bool.and_eq_true_iff.1 h2
 have hl:(1:Int)<=(plan.length:Int):=by unfold inR at h2;simp at h2;omega
 refine⟨by omega,fun i i0 i1=>?_⟩
 unfold cQ at h1
 cases hr:iL tables plan with
 | none=>rw[hr] at h1;cases h1
 | some st=>
  have:=AD plan ([],[]) st hr i i0 i1
  simpa using this
theorem HR {to:List Int} {s:ah.D} (h:Sm ah s):Sm ah (ren to s):=⟨trivial,trivial,trivial,h.2.2.2⟩
theorem zj {t:Ty}:∀{xss:List (List t.D)} {n:Nat},(∀x∈xss,x.length<=n)->(xss.flatten).length<=xss.length * n
 | [],n,_=>by simp
 | x::xss,n,h=>by
  have:=zj (xss:=xss) (fun y hy=>h y (by simp[hy]))
  have h1:=h x (by simp)
  rw[List.flatten_cons,List.length_append,List.length_cons,Nat.succ_mul]
  omega
end M
end Go.AE
