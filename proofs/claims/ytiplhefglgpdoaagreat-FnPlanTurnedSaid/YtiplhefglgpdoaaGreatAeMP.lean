/- Plans: plain Lean. -/
import Derived.Test.YtiplhefglgpdoaaGreatAeMM
section
namespace Go.AE
open Go Go.RowKit
set_option linter.unusedVariables false
@[reducible] def aF:Ty:=.pair (.sl ag) (.pair (.int .i64) .unit)
def M.two (k:Int):Bool:=decide (k=4)||decide (k=5)
def M.cr (s:ah.D):Bool:=(!decide (s.1=(1:Int))||decide (s.2.1=(0:Int)))&&((two s.1||decide (s.2.2.1=(0:Int)))&&((decide (s.1=(1:Int))||decide (s.2.2.2.1=(0:Int))) &&
 ((decide (s.1=(2:Int))||decide (s.1=(4:Int))||decide ((s.2.2.2.2.1.length:Int)=(0:Int)))&&(decide (s.1=(3:Int))||decide ((s.2.2.2.2.2.1.length:Int)=(0:Int))))))
def M.oJ (b:List ag.D) (i:Int) (v:List ag.D):Option (List ag.D):=
 cond (decide ((nth (t:=ag) v i).1=(nth (t:=ag) b i).1)) (some (v.set i.toNat ((nth (t:=ag) v i).1,((nth (t:=ag) v i).2.1||(nth (t:=ag) b i).2.1),()))) none
def M.kq (b:List ag.D):Nat->Int->List ag.D->Option (List ag.D)
 | 0,_,v=>some v
 | n+1,i,v=>match oJ b i v with
  | some v'=>kq b n (i+1) v'
  | none=>none
def M.both (a b:List ag.D):Option (List ag.D):=cond (decide (a.length=b.length)) (kq b a.length 0 a) none
def M.bN (tables:List az.D) (ahead:List (List ag.D)) (s:ah.D):Option (List ag.D):=
 cond (cr s) (cond (decide (s.1=(1:Int))) (cond (inR s.2.2.2.1 0 ((tables.length:Int)-1)) (some (nth (t:=az) tables s.2.2.2.1).1) none)
  (cond (inR s.2.1 0 ((ahead.length:Int)-1)&&inR s.2.2.1 0 ((ahead.length:Int)-1))
   (cond (decide (s.1=(2:Int))) (cond (decide (bu (nth (t:=.sl ag) ahead s.2.1) s.2.2.2.2.1=3)) (some (nth (t:=.sl ag) ahead s.2.1)) none)
   (cond (decide (s.1=(3:Int))) (cond ((s.2.2.2.2.2.1.all fun n=>inR n 0 (((nth (t:=.sl ag) ahead s.2.1).length:Int)-1))&&decide ((s.2.2.2.2.2.1.length:Int)<=4)) (some (s.2.2.2.2.2.1.map fun n=>nth (t:=ag) (nth (t:=.sl ag) ahead s.2.1) n)) none)
   (cond (decide (s.1=(4:Int))) (cond (decide (((nth (t:=.sl ag) ahead s.2.1++nth (t:=.sl ag) ahead s.2.2.1:List ag.D).length:Int)<=4)&&decide (bu (nth (t:=.sl ag) ahead s.2.1++nth (t:=.sl ag) ahead s.2.2.1:List ag.D) s.2.2.2.2.1=3))
    (some (nth (t:=.sl ag) ahead s.2.1++nth (t:=.sl ag) ahead s.2.2.1:List ag.D)) none)
   (cond (decide (s.1=(5:Int))) (both (nth (t:=.sl ag) ahead s.2.1) (nth (t:=.sl ag) ahead s.2.2.1))
   (cond (decide (s.1=(6:Int))) (some (nth (t:=.sl ag) ahead s.2.1)) none))))) none)) none
def M.bt (ahead:List Int) (s:ah.D):Int:=cond (decide (s.1=(1:Int))) 6 (cond (decide (s.1=(4:Int))) (wrap64 (nth (t:=.int .i64) ahead s.2.1 * nth (t:=.int .i64) ahead s.2.2.1))
 (cond (decide (s.1=(5:Int))) (wrap64 (nth (t:=.int .i64) ahead s.2.1+nth (t:=.int .i64) ahead s.2.2.1)) (nth (t:=.int .i64) ahead s.2.1)))
def M.eI {σ α:Type} (g:σ->α->Option σ):List α->σ->Option σ
 | [],s=>some s
 | x::xs,s=>match g s x with
  | some s'=>eI g xs s'
  | none=>none
@[reducible] def fA:Type:=List (List ag.D)×List Int
def M.bK (tables:List az.D) (st:fA) (s:ah.D):Option fA:=match bN tables st.1 s with
 | some c=>cond (decide ((300:Int)<bt st.2 s)) none (some (st.1++[c],st.2++[bt st.2 s]))
 | none=>none
def M.kz (tables:List az.D) (plan:List ah.D):Option fA:=eI (bK tables) plan ([],[])
def M.cn (tables:List az.D) (plan:List ah.D):List (List ag.D)×Bool:=match kz tables plan with
 | some st=>(st.1,true)
 | none=>([],false)
def M.bB (tables:List az.D) (plan:List ah.D):Bool:=(cn tables plan).2&&(bX tables&&inR (plan.length:Int) 1 6)
def M.mN (k:Int) (s:ah.D):Prop:=¬s.1=(1:Int)->(0<=s.2.1/\s.2.1<k)/\(0<=s.2.2.1/\s.2.2.1<k)
def M.BC (plan:List ah.D):Prop:=0<plan.length/\∀i:Int,0<=i->i<(plan.length:Int)->mN i (nth (t:=ah) plan i)
def M.GM (plan:List ah.D) (k:Int) (u:List Bool):List Bool:=
 cond (nth (t:=.bool) u k&&!decide ((nth (t:=ah) plan k).1=(1:Int))) (cond (two (nth (t:=ah) plan k).1) ((u.set (nth (t:=ah) plan k).2.1.toNat true).set (nth (t:=ah) plan k).2.2.1.toNat true) (u.set (nth (t:=ah) plan k).2.1.toNat true)) u
def M.ET {σ:Type} (g:Int->σ->σ):Nat->σ->σ
 | 0,u=>u
 | n+1,u=>ET g n (g (n:Int) u)
def M.JF (plan:List ah.D):List Bool:=ET (GM plan) plan.length ((List.replicate plan.length false).set (plan.length-1) true)
def M.ren (to:List Int) (s:ah.D):ah.D:=(s.1,cond (decide (s.1=(1:Int))) s.2.1 (nth (t:=.int .i64) to s.2.1),cond (two s.1) (nth (t:=.int .i64) to s.2.2.1) s.2.2.1,s.2.2.2)
def M.GR (plan:List ah.D) (need:List Bool) (st:List Int×List ah.D) (k:Int):List Int×List ah.D:=
 cond (nth (t:=.bool) need k) (st.1.set k.toNat (st.2.length:Int),st.2++[ren st.1 (nth (t:=ah) plan k)]) st
def M.tidy (plan:List ah.D):List ah.D:=((aY 0 (plan.length:Int)).foldl (GR plan (JF plan)) (List.replicate plan.length (0:Int),[])).2
namespace M
theorem CJ {α σ τ ρ:Type} {f:α->τ->Option (Sum τ ρ)} (g:σ->α->Option σ) (ab:τ->σ) (I:Nat->τ->Prop) :
  ∀(xs:List α) (n:Nat) (t:τ),I n t->(∀x∈xs,∀(m:Nat) t,n<=m->m<n+xs.length->I m t->∃o,f x t=some o/\match o with
   | .inl t'=>g (ab t) x=some (ab t')/\I (m+1) t'
   | .inr _=>g (ab t) x=none)->∃o,aO f xs t=some o/\match o with
   | .inl t'=>eI g xs (ab t)=some (ab t')/\I (n+xs.length) t'
   | .inr _=>eI g xs (ab t)=none
 | [],n,t,h0,_=>⟨.inl t,rfl,rfl,h0⟩
 | x::xs,n,t,h0,h=>by
  obtain⟨o,h1,h2⟩:=h x (by simp) n t (Nat.le_refl _) (by simp) h0
  match o with
  | .inr r=>
   refine⟨.inr r,by rw[bO,h1,FQ],?_⟩
   simp only at h2 ⊢
   unfold eI
   rw[h2]
  | .inl t'=>
   simp only at h2
   obtain⟨o',h3,h4⟩:=CJ g ab I xs (n+1) t' h2.2 (fun y hy m t hm hm2 hI=>h y (by simp[hy]) m t (by omega) (by simp;omega) hI)
   refine⟨o',by rw[bO,h1,aX];exact h3,?_⟩
   have e:n+1+xs.length=n+(x::xs).length:=by simp;omega
   unfold eI
   rw[h2.1]
   rw[e] at h4
   exact h4
theorem Ba {t:Ty} {σ τ ρ:Type} {f:Int->τ->Option (Sum τ ρ)} (g:σ->t.D->Option σ) (ab:τ->σ) (I:Nat->τ->Prop) (all:List t.D) :
  ∀(xs zs:List t.D) (s:τ),all=zs++xs->I zs.length s->(∀(m:Nat) s,m<all.length->I m s->∃o,f (m:Int) s=some o/\match o with
   | .inl s'=>g (ab s) (nth all (m:Int))=some (ab s')/\I (m+1) s'
   | .inr _=>g (ab s) (nth all (m:Int))=none)->∃o,aO f (aY (zs.length:Int) (all.length:Int)) s=some o/\match o with
   | .inl s'=>eI g xs (ab s)=some (ab s')/\I all.length s'
   | .inr _=>eI g xs (ab s)=none
 | [],zs,s,e,h0,_=>⟨.inl s,by rw[fM (by rw[e];simp)];rfl,rfl,by rw[e];simpa using h0⟩
 | x::xs,zs,s,e,h0,h=>by
  have hlt:zs.length<all.length:=by rw[e];simp
  have hn:nth (t:=t) all (zs.length:Int)=x:=by
   rw[e]
   unfold nth
   rw[List.getD_eq_getElem?_getD]
   simp
  obtain⟨o,h1,h2⟩:=h zs.length s hlt h0
  rw[hn] at h2
  rw[eU (by omega),bO,h1]
  match o with
  | .inr r=>
   refine⟨.inr r,rfl,?_⟩
   simp only at h2 ⊢
   unfold eI
   rw[h2]
  | .inl s'=>
   simp only at h2
   have e2:(zs.length:Int)+1=((zs++[x]).length:Int):=by simp
   obtain⟨o',h3,h4⟩:=Ba g ab I all xs (zs++[x]) s' (by rw[e];simp) (by simpa using h2.2) h
   refine⟨o',by rw[aX,e2];exact h3,?_⟩
   unfold eI
   rw[h2.1]
   exact h4
theorem zp {σ ρ:Type} {f:Int->σ->Option (Sum σ ρ)} (g:σ->Int->σ) (I:Int->σ->Prop) (N:Nat) {s:σ} (h0:I 0 s)
  (h:∀(i:Int) (s:σ),0<=i->i<(N:Int)->I i s->f i s=some (.inl (g s i))/\I (i+1) (g s i)) :
  aO f (aY 0 (N:Int)) s=some (.inl ((aY 0 (N:Int)).foldl g s))/\I (N:Int) ((aY 0 (N:Int)).foldl g s):=by
 have key:∀(n:Nat) (i:Int) (s:σ),(N:Int)-i=n->0<=i->I i s->aO f (aY i (N:Int)) s=some (.inl ((aY i (N:Int)).foldl g s))/\I (N:Int) ((aY i (N:Int)).foldl g s):=by
  intro n
  induction n with
  | zero=>
   intro i s hn h0 hI
   rw[fM (by omega)]
   have:i=(N:Int):=by omega
   subst this
   exact⟨rfl,hI⟩
  | succ n ih=>
   intro i s hn h0 hI
   obtain⟨h1,h2⟩:=h i s h0 (by omega) hI
   rw[eU (by omega),bO,h1,aX]
   exact ih (i+1) _ (by omega) (by omega) h2
 exact key N 0 s (by omega) (by omega) h0
theorem vI {x:List ag.D} (h:x.length<=1048576):Sm (.sl ag) x:=⟨h,fun y _=>xZ rfl y⟩
theorem BS {b:List ag.D} {i:Int} {v r:List ag.D} (h:oJ b i v=some r):r.length=v.length:=by
 unfold oJ at h
 cases hc:decide ((nth (t:=ag) v i).1=(nth (t:=ag) b i).1) with
 | true=>rw[hc] at h;simp only[cond_true,Option.some.injEq] at h;rw[<-h];simp
 | false=>rw[hc] at h;cases h
theorem ja {b:List ag.D}:∀{n:Nat} {i:Int} {v r:List ag.D},kq b n i v=some r->r.length=v.length
 | 0,i,v,r,h=>by cases h;rfl
 | n+1,i,v,r,h=>by
  unfold kq at h
  cases hs:oJ b i v with
  | none=>rw[hs] at h;cases h
  | some v'=>
   rw[hs] at h
   rw[ja h,BS hs]
theorem aH {α:Type} {b:Bool} {x:Option α} {y:α} (h:cond b x none=some y):b=true/\x=some y:=by
 cases b with
 | true=>exact⟨rfl,h⟩
 | false=>cases h
theorem wK {tables:List az.D} {ahead:List (List ag.D)} {s:ah.D} {c:List ag.D} (ht:Sm (.sl az) tables) (ha:∀x∈ahead,x.length<=1048576) (h:bN tables ahead s=some c):c.length<=1048576:=by
 have hn:∀i:Int,(nth (t:=.sl ag) ahead i:List ag.D).length<=1048576:=by
  intro i
  unfold nth
  rw[List.getD_eq_getElem?_getD]
  cases he:ahead[i.toNat]? with
  | none=>exact Nat.zero_le _
  | some x=>exact ha x (List.mem_of_getElem? he)
 unfold bN at h
 obtain⟨_,h⟩:=aH h
 cases h1:decide (s.1=(1:Int)) with
 | true=>
  rw[h1,cond_true] at h
  obtain⟨_,h⟩:=aH h
  cases h
  exact(aL ht s.2.2.2.1).1.1
 | false=>
  rw[h1,cond_false] at h
  obtain⟨_,h⟩:=aH h
  cases h2:decide (s.1=(2:Int)) with
  | true=>
   rw[h2,cond_true] at h
   obtain⟨_,h⟩:=aH h
   cases h
   exact hn _
  | false=>
   rw[h2,cond_false] at h
   cases h3:decide (s.1=(3:Int)) with
   | true=>
    rw[h3,cond_true] at h
    obtain⟨hb,h⟩:=aH h
    cases h
    have:=of_decide_eq_true (Bool.and_eq_true_iff.1 hb).2
    rw[List.length_map]
    omega
   | false=>
    rw[h3,cond_false] at h
    cases h4:decide (s.1=(4:Int)) with
    | true=>
     rw[h4,cond_true] at h
     obtain⟨hb,h⟩:=aH h
     cases h
     have:=of_decide_eq_true (Bool.and_eq_true_iff.1 hb).1
     omega
    | false=>
     rw[h4,cond_false] at h
     cases h5:decide (s.1=(5:Int)) with
     | true=>
      rw[h5,cond_true] at h
      unfold both at h
      obtain⟨_,h⟩:=aH h
      rw[ja h]
      exact hn _
     | false=>
      rw[h5,cond_false] at h
      obtain⟨_,h⟩:=aH h
      cases h
      exact hn _
theorem kH {tables:List az.D} {ahead:List (List ag.D)} {s:ah.D} {c:List ag.D} (h:bN tables ahead s=some c):mN (ahead.length:Int) s:=by
 intro h1
 unfold bN at h
 obtain⟨_,h⟩:=aH h
 rw[decide_eq_false h1,cond_false] at h
 obtain⟨hb,_⟩:=aH h
 obtain⟨ha,hb⟩:=Bool.and_eq_true_iff.1 hb
 exact⟨⟨dP ha,Int.lt_of_le_sub_one (nc ha)⟩,⟨dP hb,Int.lt_of_le_sub_one (nc hb)⟩⟩
theorem Cx {tables:List az.D} {st st':fA} {s:ah.D} (h:bK tables st s=some st'):mN (st.1.length:Int) s/\st'.1.length=st.1.length+1:=by
 unfold bK at h
 cases hc:bN tables st.1 s with
 | none=>rw[hc] at h;cases h
 | some c=>
  rw[hc] at h
  simp only at h
  cases hd:decide ((300:Int)<bt st.2 s) with
  | true=>rw[hd] at h;cases h
  | false=>
   rw[hd] at h
   cases h
   exact⟨kH hc,by simp⟩
theorem AM {tables:List az.D}:∀(xs:List ah.D) (st st':fA),eI (bK tables) xs st=some st'->∀i:Int,0<=i->i<(xs.length:Int)->mN ((st.1.length:Int)+i) (nth (t:=ah) xs i)
 | [],st,st',h,i,h0,h1=>by simp at h1;omega
 | x::xs,st,st',h,i,h0,h1=>by
  unfold eI at h
  cases hp:bK tables st x with
  | none=>rw[hp] at h;cases h
  | some st1=>
   rw[hp] at h
   obtain⟨q1,q2⟩:=Cx hp
   by_cases hi:i=0
   ·subst hi
    rw[uy,Int.add_zero]
    exact q1
   ·have:=AM xs st1 st' h (i-1) (by omega) (by simp at h1;omega)
    rw[q2] at this
    have e:i=(i-1)+1:=by omega
    rw[e,uW _ _ (by omega)]
    have e2:((st.1.length+1:Nat):Int)+(i-1)=(st.1.length:Int)+(i-1+1):=by omega
    rw[<-e2]
    exact this
theorem nk {tables:List az.D} {plan:List ah.D} (h:bB tables plan=true):BC plan:=by
 unfold bB at h
 obtain⟨h1,h2⟩:=Bool.and_eq_true_iff.1 h
 obtain⟨_,h2⟩:=Bool.and_eq_true_iff.1 h2
 have hl:(1:Int)<=(plan.length:Int):=by unfold inR at h2;simp at h2;omega
 refine⟨by omega,fun i i0 i1=>?_⟩
 unfold cn at h1
 cases hr:kz tables plan with
 | none=>rw[hr] at h1;cases h1
 | some st=>
  have:=AM plan ([],[]) st hr i i0 i1
  simpa using this
theorem yB {t:Ty}:∀{xss:List (List t.D)} {n:Nat},(∀x∈xss,x.length<=n)->(xss.flatten).length<=xss.length * n
 | [],n,_=>by simp
 | x::xss,n,h=>by
  have:=yB (xss:=xss) (fun y hy=>h y (by simp[hy]))
  have h1:=h x (by simp)
  rw[List.flatten_cons,List.length_append,List.length_cons,Nat.succ_mul]
  omega
end M
end Go.AE
end
section
namespace Go.AE
open Go Go.RowKit
set_option linter.unusedVariables false
namespace M
theorem mH {t:Ty} {xs ys:List t.D} {i:Int} (h0:0<=i) (h1:i<(xs.length:Int)):nth (t:=t) (xs++ys) i=nth (t:=t) xs i:=by
 unfold nth
 rw[List.getD_eq_getElem?_getD,List.getD_eq_getElem?_getD,List.getElem?_append_left (by omega)]
theorem qN {t:Ty} {xs:List t.D} {x:t.D} {i:Int} (h:i=(xs.length:Int)):nth (t:=t) (xs++[x]) i=x:=by
 subst h
 unfold nth
 rw[List.getD_eq_getElem?_getD]
 simp
def mE (st st':fA) (to:List Int) (k:Int):Prop:=(st.1.length:Int)=k/\(st.2.length:Int)=k/\st'.1.length=st'.2.length ∧
 ∀j:Int,0<=j->j<k->(0<=nth (t:=.int .i64) to j/\nth (t:=.int .i64) to j<(st'.1.length:Int))/\nth (t:=.sl ag) st'.1 (nth (t:=.int .i64) to j)=nth (t:=.sl ag) st.1 j/\nth (t:=.int .i64) st'.2 (nth (t:=.int .i64) to j)=nth (t:=.int .i64) st.2 j
theorem fY {tables:List az.D} {st st':fA} {s:ah.D} (h:bK tables st s=some st') :
  ∃c,bN tables st.1 s=some c/\decide ((300:Int)<bt st.2 s)=false/\st'=(st.1++[c],st.2++[bt st.2 s]):=by
 unfold bK at h
 cases hc:bN tables st.1 s with
 | none=>rw[hc] at h;cases h
 | some c=>
  rw[hc] at h
  simp only at h
  cases hd:decide ((300:Int)<bt st.2 s) with
  | true=>rw[hd] at h;cases h
  | false=>
   rw[hd] at h
   cases h
   exact⟨c,rfl,rfl,rfl⟩
theorem Bq {t:Ty} {xs:List t.D} {k:Nat} (h:k<xs.length):xs.take (k+1)=xs.take k++[nth (t:=t) xs (k:Int)]:=by
 rw[List.take_succ_eq_append_getElem h,lq (t:=t) (by omega) (by omega)]
 rfl
end M
end Go.AE
namespace Go.AE
open Go Go.RowKit
theorem M.tU {tables:List az.D} {plan:List ah.D} (h:bB tables plan=true):plan.length<=6:=by
 unfold bB at h
 obtain⟨_,h⟩:=Bool.and_eq_true_iff.1 h
 obtain⟨_,h⟩:=Bool.and_eq_true_iff.1 h
 unfold inR at h
 simp at h
 omega
end Go.AE
end
