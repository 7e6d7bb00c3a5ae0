/- Guards, copies and plans: plain Lean. -/
import Derived.Test.YtjakcjmjlfdeoaaGreatAeMM
section
namespace Go.AE
open Go Go.RowKit
set_option linter.unusedVariables false
def M.holds (row:List aa.D) (e:List aC.D):Bool:=Ty.beq aa (M.fF row e) (M.valueOf 1)
def M.kH (tables:List aq.D) (guards:List aB.D) (i:Int):Bool:=
 M.inR (nth (t:=aB) guards i).1 0 ((tables.length:Int)-1)&&(decide (M.bZ (nth (t:=aq) tables (nth (t:=aB) guards i).1).1 (nth (t:=aB) guards i).2.1=3) &&
  (!decide (0<i)||!decide ((nth (t:=aB) guards i).1<=(nth (t:=aB) guards (i-1)).1)))
def M.bB (tables:List aq.D) (guards:List aB.D):Bool:=M.bT tables&&(aV 0 (guards.length:Int)).all (M.kH tables guards)
def M.eI (v:List aq.D) (g:aB.D):List aq.D:=
 v.set g.1.toNat ((nth (t:=aq) v g.1).1,List.filter (fun r=>M.holds r g.2.1) (nth (t:=aq) v g.1).2.1,())
def M.aX (tables:List aq.D) (guards:List aB.D):List aq.D:=cond (M.bB tables guards) (guards.foldl M.eI tables) []
namespace M
theorem iI {α:Type} (xs:List α):aj xs (some ((0:Int),(xs.length:Int)))=xs:=by
 unfold aj
 simp
theorem fh {α:Type} (xs:List α):xs.take ((xs.length:Int)).toNat=xs:=by simp
theorem Dh {α ρ:Type} {f:α->List α->Option (Sum (List α) ρ)} (p:α->Bool) {xs:List α} (h:∀x∈xs,∀s:List α,s.length<xs.length->f x s=some (.inl (cond (p x) (s++[x]) s))) :
  aP f xs []=some (.inl (xs.filter p)):=by
 have key:∀(ys zs:List α) (s:List α),xs=zs++ys->s.length<=zs.length->aP f ys s=some (.inl (s++ys.filter p)):=by
  intro ys
  induction ys with
  | nil=>intro zs s _ _;simp[aP]
  | cons y ys ih=>
   intro zs s e hs
   rw[bQ,h y (by rw[e];simp) s (by rw[e];simp;omega),bp]
   cases hp:p y with
   | true=>
    have:=ih (zs++[y]) (s++[y]) (by rw[e];simp) (by simp;omega)
    rw[cond_true,this]
    simp[hp]
   | false=>
    have:=ih (zs++[y]) s (by rw[e];simp) (by simp;omega)
    rw[cond_false,this]
    simp[hp]
 simpa using key xs [] [] (by simp) (by simp)
theorem wG {α σ ρ:Type} {f:α->σ->Option (Sum σ ρ)} (g:σ->α->σ) (I:σ->Prop) {xs:List α} {s:σ} (h0:I s)
  (h:∀x∈xs,∀s,I s->f x s=some (.inl (g s x))/\I (g s x)):aP f xs s=some (.inl (xs.foldl g s))/\I (xs.foldl g s):=by
 induction xs generalizing s with
 | nil=>exact⟨rfl,h0⟩
 | cons x xs ih=>
  obtain⟨h1,h2⟩:=h x (by simp) s h0
  rw[bQ,h1,bp]
  exact ih h2 (fun y hy=>h y (by simp[hy]))
theorem sA {t:Ty} {xs:List t.D}:cond (decide ((xs.length:Int)=(0:Int))) (some ([]:List t.D)) (some (xs.take (xs.length:Int).toNat))=some xs:=by
 rw[fh]
 cases xs with
 | nil=>rfl
 | cons x xs=>rw[decide_eq_false (by simp;omega)];rfl
theorem BY {B:Nat} {t:Ty} {xs:List t.D} (p:t.D->Bool) (h:SmB B (.sl t) xs):SmB B (.sl t) (xs.filter p):=⟨Nat.le_trans (List.length_filter_le _ _) h.1,fun x hx=>h.2 x (List.mem_filter.1 hx).1⟩
theorem vq {α:Type} (xs:List α):xs.map (fun x=>x)=xs:=by simp
def dD (tables v:List aq.D):Prop:=v.length=tables.length/\∀i:Int,0<=i->i<(tables.length:Int)->(nth (t:=aq) v i).1=(nth (t:=aq) tables i).1 ∧
 (nth (t:=aq) v i).2.1.length<=(nth (t:=aq) tables i).2.1.length/\∀r∈(nth (t:=aq) v i).2.1,r∈(nth (t:=aq) tables i).2.1
theorem dD.refl (tables:List aq.D):dD tables tables:=⟨rfl,fun _ _ _=>⟨rfl,Nat.le_refl _,fun _ h=>h⟩⟩
theorem qw {t:Ty} {a:List t.D} {i j:Int} {z:t.D} (h0:0<=i) (h1:0<=j) (hne:i≠j):nth (t:=t) (a.set i.toNat z) j=nth a j:=by
 have:i.toNat≠j.toNat:=by omega
 unfold nth
 rw[List.getD_eq_getElem?_getD,List.getD_eq_getElem?_getD,List.getElem?_set_ne this]
theorem dD.step {tables v:List aq.D} (h:dD tables v) {g:aB.D} (h0:0<=g.1) (h1:g.1<(tables.length:Int)):dD tables (eI v g):=by
 refine⟨by unfold eI;simp[h.1],fun i i0 i1=>?_⟩
 have hl:g.1<(v.length:Int):=by rw[h.1];exact h1
 by_cases e:g.1=i
 ·subst e
  obtain⟨q1,q2,q3⟩:=h.2 _ i0 i1
  unfold eI
  rw[Ch i0 hl]
  exact⟨q1,Nat.le_trans (List.length_filter_le _ _) q2,fun r hr=>q3 r (List.mem_filter.1 hr).1⟩
 ·unfold eI
  rw[qw h0 i0 e]
  exact h.2 i i0 i1
theorem dD.sm {tables v:List aq.D} (h:dD tables v) (hs:Sm (.sl aq) tables):Sm (.sl aq) v:=by
 refine⟨by rw[h.1];exact hs.1,fun t ht=>?_⟩
 obtain⟨k,hk,e⟩:=List.getElem_of_mem ht
 have hi:(k:Int)<(tables.length:Int):=by rw[<-h.1];omega
 have hn:nth (t:=aq) v (k:Int)=t:=by
  unfold nth
  rw[List.getD_eq_getElem?_getD]
  simp[hk,e]
 obtain⟨q1,q2,q3⟩:=h.2 (k:Int) (by omega) hi
 rw[hn] at q1 q2 q3
 have hm:=aH hs (k:Int)
 refine⟨by rw[q1];exact hm.1,⟨Nat.le_trans q2 hm.2.1.1,fun r hr=>hm.2.1.2 r (q3 r hr)⟩,trivial⟩
theorem nq {tables:List aq.D} {guards:List aB.D} (h:bB tables guards=true) {g:aB.D} (hg:g∈guards) :
  (0<=g.1/\g.1<(tables.length:Int))/\bZ (nth (t:=aq) tables g.1).1 g.2.1=3/\bT tables=true:=by
 unfold bB at h
 obtain⟨h1,h2⟩:=Bool.and_eq_true_iff.1 h
 obtain⟨k,hk,e⟩:=List.getElem_of_mem hg
 have:=List.all_eq_true.1 h2 (k:Int) (fz.2 ⟨by omega,by omega⟩)
 have hn:nth (t:=aB) guards (k:Int)=g:=by
  unfold nth
  rw[List.getD_eq_getElem?_getD]
  simp[hk,e]
 unfold kH at this
 rw[hn] at this
 obtain⟨q1,q2⟩:=Bool.and_eq_true_iff.1 this
 obtain⟨q2,_⟩:=Bool.and_eq_true_iff.1 q2
 have a0:=eC q1
 have a1:=ng q1
 exact⟨⟨a0,Int.lt_of_le_sub_one a1⟩,of_decide_eq_true q2,h1⟩
theorem CC {tables:List aq.D} (h:bT tables=true) {i:Int} (h0:0<=i) (h1:i<(tables.length:Int)) {r:List aa.D} (hr:r∈(nth (t:=aq) tables i).2.1):r.length=(nth (t:=aq) tables i).1.length:=by
 have hm:=iQ (t:=aq) h0 h1
 unfold bT at h
 obtain⟨_,h2⟩:=Bool.and_eq_true_iff.1 h
 have h3:=List.all_eq_true.1 h2 _ hm
 unfold cZ at h3
 obtain⟨_,h4⟩:=Bool.and_eq_true_iff.1 h3
 unfold gA at h4
 obtain⟨_,h5⟩:=Bool.and_eq_true_iff.1 h4
 have h6:=List.all_eq_true.1 h5 r hr
 unfold cF at h6
 simp only[Bool.and_eq_true,decide_eq_true_eq] at h6
 omega
theorem II {tables:List aq.D} {guards:List aB.D} (hs:Sm (.sl aq) tables):Sm (.sl aq) (aX tables guards):=by
 unfold aX
 cases h:bB tables guards with
 | false=>exact fY _
 | true=>
  have key:∀(l:List aB.D) (v:List aq.D),(∀g∈l,g∈guards)->dD tables v->dD tables (l.foldl eI v):=by
   intro l
   induction l with
   | nil=>intro v _ hv;exact hv
   | cons g l ih=>
    intro v hl hv
    have:=(nq h (hl g (by simp))).1
    exact ih _ (fun x hx=>hl x (by simp[hx])) (hv.step this.1 this.2)
  exact(key guards tables (fun _ h=>h) (dD.refl tables)).sm hs
end M
end Go.AE
end
section
namespace Go.AE
open Go Go.RowKit
set_option linter.unusedVariables false
abbrev aI:Ty:=.pair (.sl ag) (.pair (.int .i64) .unit)
def M.two (k:Int):Bool:=decide (k=4)||decide (k=5)
def M.bM (s:ah.D):Bool:=(!decide (s.1=(1:Int))||decide (s.2.1=(0:Int)))&&((two s.1||decide (s.2.2.1=(0:Int)))&&((decide (s.1=(1:Int))||decide (s.2.2.2.1=(0:Int))) &&
 ((decide (s.1=(2:Int))||decide (s.1=(4:Int))||decide ((s.2.2.2.2.1.length:Int)=(0:Int)))&&(decide (s.1=(3:Int))||decide ((s.2.2.2.2.2.1.length:Int)=(0:Int))))))
def M.pg (b:List ag.D) (i:Int) (v:List ag.D):Option (List ag.D):=
 cond (decide ((nth (t:=ag) v i).1=(nth (t:=ag) b i).1)) (some (v.set i.toNat ((nth (t:=ag) v i).1,((nth (t:=ag) v i).2.1||(nth (t:=ag) b i).2.1),()))) none
def M.ko (b:List ag.D):Nat->Int->List ag.D->Option (List ag.D)
 | 0,_,v=>some v
 | n+1,i,v=>match pg b i v with
  | some v'=>ko b n (i+1) v'
  | none=>none
def M.both (a b:List ag.D):Option (List ag.D):=cond (decide (a.length=b.length)) (ko b a.length 0 a) none
def M.bO (tables:List aq.D) (ahead:List (List ag.D)) (s:ah.D):Option (List ag.D):=
 cond (bM s) (cond (decide (s.1=(1:Int))) (cond (inR s.2.2.2.1 0 ((tables.length:Int)-1)) (some (nth (t:=aq) tables s.2.2.2.1).1) none)
  (cond (inR s.2.1 0 ((ahead.length:Int)-1)&&inR s.2.2.1 0 ((ahead.length:Int)-1))
   (cond (decide (s.1=(2:Int))) (cond (decide (bZ (nth (t:=.sl ag) ahead s.2.1) s.2.2.2.2.1=3)) (some (nth (t:=.sl ag) ahead s.2.1)) none)
   (cond (decide (s.1=(3:Int))) (cond ((s.2.2.2.2.2.1.all fun n=>inR n 0 (((nth (t:=.sl ag) ahead s.2.1).length:Int)-1))&&decide ((s.2.2.2.2.2.1.length:Int)<=4)) (some (s.2.2.2.2.2.1.map fun n=>nth (t:=ag) (nth (t:=.sl ag) ahead s.2.1) n)) none)
   (cond (decide (s.1=(4:Int))) (cond (decide (((nth (t:=.sl ag) ahead s.2.1++nth (t:=.sl ag) ahead s.2.2.1:List ag.D).length:Int)<=4)&&decide (bZ (nth (t:=.sl ag) ahead s.2.1++nth (t:=.sl ag) ahead s.2.2.1:List ag.D) s.2.2.2.2.1=3))
    (some (nth (t:=.sl ag) ahead s.2.1++nth (t:=.sl ag) ahead s.2.2.1:List ag.D)) none)
   (cond (decide (s.1=(5:Int))) (both (nth (t:=.sl ag) ahead s.2.1) (nth (t:=.sl ag) ahead s.2.2.1))
   (cond (decide (s.1=(6:Int))) (some (nth (t:=.sl ag) ahead s.2.1)) none))))) none)) none
def M.aN (ahead:List Int) (s:ah.D):Int:=cond (decide (s.1=(1:Int))) 6 (cond (decide (s.1=(4:Int))) (wrap64 (nth (t:=.int .i64) ahead s.2.1 * nth (t:=.int .i64) ahead s.2.2.1))
 (cond (decide (s.1=(5:Int))) (wrap64 (nth (t:=.int .i64) ahead s.2.1+nth (t:=.int .i64) ahead s.2.2.1)) (nth (t:=.int .i64) ahead s.2.1)))
def M.cV {σ α:Type} (g:σ->α->Option σ):List α->σ->Option σ
 | [],s=>some s
 | x::xs,s=>match g s x with
  | some s'=>cV g xs s'
  | none=>none
abbrev eW:Type:=List (List ag.D)×List Int
def M.bC (tables:List aq.D) (st:eW) (s:ah.D):Option eW:=match bO tables st.1 s with
 | some c=>cond (decide ((300:Int)<aN st.2 s)) none (some (st.1++[c],st.2++[aN st.2 s]))
 | none=>none
def M.jf (tables:List aq.D) (plan:List ah.D):Option eW:=cV (bC tables) plan ([],[])
def M.cT (tables:List aq.D) (plan:List ah.D):List (List ag.D)×Bool:=match jf tables plan with
 | some st=>(st.1,true)
 | none=>([],false)
def M.bK (tables:List aq.D) (plan:List ah.D):Bool:=(cT tables plan).2&&(bT tables&&inR (plan.length:Int) 1 6)
def M.nK (k:Int) (s:ah.D):Prop:=¬s.1=(1:Int)->(0<=s.2.1/\s.2.1<k)/\(0<=s.2.2.1/\s.2.2.1<k)
def M.Jn (plan:List ah.D):Prop:=0<plan.length/\∀i:Int,0<=i->i<(plan.length:Int)->nK i (nth (t:=ah) plan i)
def M.GN (plan:List ah.D) (k:Int) (u:List Bool):List Bool:=
 cond (nth (t:=.bool) u k&&!decide ((nth (t:=ah) plan k).1=(1:Int))) (cond (two (nth (t:=ah) plan k).1) ((u.set (nth (t:=ah) plan k).2.1.toNat true).set (nth (t:=ah) plan k).2.2.1.toNat true) (u.set (nth (t:=ah) plan k).2.1.toNat true)) u
def M.Fu {σ:Type} (g:Int->σ->σ):Nat->σ->σ
 | 0,u=>u
 | n+1,u=>Fu g n (g (n:Int) u)
def M.JH (plan:List ah.D):List Bool:=Fu (GN plan) plan.length ((List.replicate plan.length false).set (plan.length-1) true)
def M.ren (to:List Int) (s:ah.D):ah.D:=(s.1,cond (decide (s.1=(1:Int))) s.2.1 (nth (t:=.int .i64) to s.2.1),cond (two s.1) (nth (t:=.int .i64) to s.2.2.1) s.2.2.1,s.2.2.2)
def M.Hg (plan:List ah.D) (need:List Bool) (st:List Int×List ah.D) (k:Int):List Int×List ah.D:=
 cond (nth (t:=.bool) need k) (st.1.set k.toNat (st.2.length:Int),st.2++[ren st.1 (nth (t:=ah) plan k)]) st
def M.tidy (plan:List ah.D):List ah.D:=((aV 0 (plan.length:Int)).foldl (Hg plan (JH plan)) (List.replicate plan.length (0:Int),[])).2
namespace M
theorem Eg {α σ τ ρ:Type} {f:α->τ->Option (Sum τ ρ)} (g:σ->α->Option σ) (ab:τ->σ) (I:Nat->τ->Prop) :
  ∀(xs:List α) (n:Nat) (t:τ),I n t->(∀x∈xs,∀(m:Nat) t,n<=m->m<n+xs.length->I m t->∃o,f x t=some o/\match o with
   | .inl t'=>g (ab t) x=some (ab t')/\I (m+1) t'
   | .inr _=>g (ab t) x=none)->∃o,aP f xs t=some o/\match o with
   | .inl t'=>cV g xs (ab t)=some (ab t')/\I (n+xs.length) t'
   | .inr _=>cV g xs (ab t)=none
 | [],n,t,h0,_=>⟨.inl t,rfl,rfl,h0⟩
 | x::xs,n,t,h0,h=>by
  obtain⟨o,h1,h2⟩:=h x (by simp) n t (Nat.le_refl _) (by simp) h0
  match o with
  | .inr r=>
   refine⟨.inr r,by rw[bQ,h1,Gc],?_⟩
   simp only at h2 ⊢
   unfold cV
   rw[h2]
  | .inl t'=>
   simp only at h2
   obtain⟨o',h3,h4⟩:=Eg g ab I xs (n+1) t' h2.2 (fun y hy m t hm hm2 hI=>h y (by simp[hy]) m t (by omega) (by simp;omega) hI)
   refine⟨o',by rw[bQ,h1,bp];exact h3,?_⟩
   have e:n+1+xs.length=n+(x::xs).length:=by simp;omega
   unfold cV
   rw[h2.1]
   rw[e] at h4
   exact h4
theorem BZ {t:Ty} {σ τ ρ:Type} {f:Int->τ->Option (Sum τ ρ)} (g:σ->t.D->Option σ) (ab:τ->σ) (I:Nat->τ->Prop) (all:List t.D) :
  ∀(xs zs:List t.D) (s:τ),all=zs++xs->I zs.length s->(∀(m:Nat) s,m<all.length->I m s->∃o,f (m:Int) s=some o/\match o with
   | .inl s'=>g (ab s) (nth all (m:Int))=some (ab s')/\I (m+1) s'
   | .inr _=>g (ab s) (nth all (m:Int))=none)->∃o,aP f (aV (zs.length:Int) (all.length:Int)) s=some o/\match o with
   | .inl s'=>cV g xs (ab s)=some (ab s')/\I all.length s'
   | .inr _=>cV g xs (ab s)=none
 | [],zs,s,e,h0,_=>⟨.inl s,by rw[ga (by rw[e];simp)];rfl,rfl,by rw[e];simpa using h0⟩
 | x::xs,zs,s,e,h0,h=>by
  have hlt:zs.length<all.length:=by rw[e];simp
  have hn:nth (t:=t) all (zs.length:Int)=x:=by
   rw[e]
   unfold nth
   rw[List.getD_eq_getElem?_getD]
   simp
  obtain⟨o,h1,h2⟩:=h zs.length s hlt h0
  rw[hn] at h2
  rw[gZ (by omega),bQ,h1]
  match o with
  | .inr r=>
   refine⟨.inr r,rfl,?_⟩
   simp only at h2 ⊢
   unfold cV
   rw[h2]
  | .inl s'=>
   simp only at h2
   have e2:(zs.length:Int)+1=((zs++[x]).length:Int):=by simp
   obtain⟨o',h3,h4⟩:=BZ g ab I all xs (zs++[x]) s' (by rw[e];simp) (by simpa using h2.2) h
   refine⟨o',by rw[bp,e2];exact h3,?_⟩
   unfold cV
   rw[h2.1]
   exact h4
theorem qO {σ ρ:Type} {f:Int->σ->Option (Sum σ ρ)} (g:σ->Int->σ) (I:Int->σ->Prop) (N:Nat) {s:σ} (h0:I 0 s)
  (h:∀(i:Int) (s:σ),0<=i->i<(N:Int)->I i s->f i s=some (.inl (g s i))/\I (i+1) (g s i)) :
  aP f (aV 0 (N:Int)) s=some (.inl ((aV 0 (N:Int)).foldl g s))/\I (N:Int) ((aV 0 (N:Int)).foldl g s):=by
 have key:∀(n:Nat) (i:Int) (s:σ),(N:Int)-i=n->0<=i->I i s->aP f (aV i (N:Int)) s=some (.inl ((aV i (N:Int)).foldl g s))/\I (N:Int) ((aV i (N:Int)).foldl g s):=by
  intro n
  induction n with
  | zero=>
   intro i s hn h0 hI
   rw[ga (by omega)]
   have:i=(N:Int):=by omega
   subst this
   exact⟨rfl,hI⟩
  | succ n ih=>
   intro i s hn h0 hI
   obtain⟨h1,h2⟩:=h i s h0 (by omega) hI
   rw[gZ (by omega),bQ,h1,bp]
   exact ih (i+1) _ (by omega) (by omega) h2
 exact key N 0 s (by omega) (by omega) h0
theorem zo {x:List ag.D} (h:x.length<=1048576):Sm (.sl ag) x:=⟨h,fun y _=>yV rfl y⟩
theorem CB {b:List ag.D} {i:Int} {v r:List ag.D} (h:pg b i v=some r):r.length=v.length:=by
 unfold pg at h
 cases hc:decide ((nth (t:=ag) v i).1=(nth (t:=ag) b i).1) with
 | true=>rw[hc] at h;simp only[cond_true,Option.some.injEq] at h;rw[<-h];simp
 | false=>rw[hc] at h;cases h
theorem kZ {b:List ag.D}:∀{n:Nat} {i:Int} {v r:List ag.D},ko b n i v=some r->r.length=v.length
 | 0,i,v,r,h=>by cases h;rfl
 | n+1,i,v,r,h=>by
  unfold ko at h
  cases hs:pg b i v with
  | none=>rw[hs] at h;cases h
  | some v'=>
   rw[hs] at h
   rw[kZ h,CB hs]
theorem aS {α:Type} {b:Bool} {x:Option α} {y:α} (h:cond b x none=some y):b=true/\x=some y:=by
 cases b with
 | true=>exact⟨rfl,h⟩
 | false=>cases h
theorem xP {tables:List aq.D} {ahead:List (List ag.D)} {s:ah.D} {c:List ag.D} (ht:Sm (.sl aq) tables) (ha:∀x∈ahead,x.length<=1048576) (h:bO tables ahead s=some c):c.length<=1048576:=by
 have hn:∀i:Int,(nth (t:=.sl ag) ahead i:List ag.D).length<=1048576:=by
  intro i
  unfold nth
  rw[List.getD_eq_getElem?_getD]
  cases he:ahead[i.toNat]? with
  | none=>exact Nat.zero_le _
  | some x=>exact ha x (List.mem_of_getElem? he)
 unfold bO at h
 obtain⟨_,h⟩:=aS h
 cases h1:decide (s.1=(1:Int)) with
 | true=>
  rw[h1,cond_true] at h
  obtain⟨_,h⟩:=aS h
  cases h
  exact(aH ht s.2.2.2.1).1.1
 | false=>
  rw[h1,cond_false] at h
  obtain⟨_,h⟩:=aS h
  cases h2:decide (s.1=(2:Int)) with
  | true=>
   rw[h2,cond_true] at h
   obtain⟨_,h⟩:=aS h
   cases h
   exact hn _
  | false=>
   rw[h2,cond_false] at h
   cases h3:decide (s.1=(3:Int)) with
   | true=>
    rw[h3,cond_true] at h
    obtain⟨hb,h⟩:=aS h
    cases h
    have:=of_decide_eq_true (Bool.and_eq_true_iff.1 hb).2
    rw[List.length_map]
    omega
   | false=>
    rw[h3,cond_false] at h
    cases h4:decide (s.1=(4:Int)) with
    | true=>
     rw[h4,cond_true] at h
     obtain⟨hb,h⟩:=aS h
     cases h
     have:=of_decide_eq_true (Bool.and_eq_true_iff.1 hb).1
     omega
    | false=>
     rw[h4,cond_false] at h
     cases h5:decide (s.1=(5:Int)) with
     | true=>
      rw[h5,cond_true] at h
      unfold both at h
      obtain⟨_,h⟩:=aS h
      rw[kZ h]
      exact hn _
     | false=>
      rw[h5,cond_false] at h
      obtain⟨_,h⟩:=aS h
      cases h
      exact hn _
theorem nc {tables:List aq.D} {ahead:List (List ag.D)} {s:ah.D} {c:List ag.D} (h:bO tables ahead s=some c):nK (ahead.length:Int) s:=by
 intro h1
 unfold bO at h
 obtain⟨_,h⟩:=aS h
 rw[decide_eq_false h1,cond_false] at h
 obtain⟨hb,_⟩:=aS h
 obtain⟨ha,hb⟩:=Bool.and_eq_true_iff.1 hb
 exact⟨⟨eC ha,Int.lt_of_le_sub_one (ng ha)⟩,⟨eC hb,Int.lt_of_le_sub_one (ng hb)⟩⟩
theorem Eb {tables:List aq.D} {st st':eW} {s:ah.D} (h:bC tables st s=some st'):nK (st.1.length:Int) s/\st'.1.length=st.1.length+1:=by
 unfold bC at h
 cases hc:bO tables st.1 s with
 | none=>rw[hc] at h;cases h
 | some c=>
  rw[hc] at h
  simp only at h
  cases hd:decide ((300:Int)<aN st.2 s) with
  | true=>rw[hd] at h;cases h
  | false=>
   rw[hd] at h
   cases h
   exact⟨nc hc,by simp⟩
theorem Bz {tables:List aq.D}:∀(xs:List ah.D) (st st':eW),cV (bC tables) xs st=some st'->∀i:Int,0<=i->i<(xs.length:Int)->nK ((st.1.length:Int)+i) (nth (t:=ah) xs i)
 | [],st,st',h,i,h0,h1=>by simp at h1;omega
 | x::xs,st,st',h,i,h0,h1=>by
  unfold cV at h
  cases hp:bC tables st x with
  | none=>rw[hp] at h;cases h
  | some st1=>
   rw[hp] at h
   obtain⟨q1,q2⟩:=Eb hp
   by_cases hi:i=0
   ·subst hi
    rw[An,Int.add_zero]
    exact q1
   ·have:=Bz xs st1 st' h (i-1) (by omega) (by simp at h1;omega)
    rw[q2] at this
    have e:i=(i-1)+1:=by omega
    rw[e,AL _ _ (by omega)]
    have e2:((st.1.length+1:Nat):Int)+(i-1)=(st.1.length:Int)+(i-1+1):=by omega
    rw[<-e2]
    exact this
theorem ju {tables:List aq.D} {plan:List ah.D} (h:bK tables plan=true):Jn plan:=by
 unfold bK at h
 obtain⟨h1,h2⟩:=Bool.and_eq_true_iff.1 h
 obtain⟨_,h2⟩:=Bool.and_eq_true_iff.1 h2
 have hl:(1:Int)<=(plan.length:Int):=by unfold inR at h2;simp at h2;omega
 refine⟨by omega,fun i i0 i1=>?_⟩
 unfold cT at h1
 cases hr:jf tables plan with
 | none=>rw[hr] at h1;cases h1
 | some st=>
  have:=Bz plan ([],[]) st hr i i0 i1
  simpa using this
theorem Jm {to:List Int} {s:ah.D} (h:Sm ah s):Sm ah (ren to s):=⟨trivial,trivial,trivial,h.2.2.2⟩
theorem zG {t:Ty}:∀{xss:List (List t.D)} {n:Nat},(∀x∈xss,x.length<=n)->(xss.flatten).length<=xss.length * n
 | [],n,_=>by simp
 | x::xss,n,h=>by
  have:=zG (xss:=xss) (fun y hy=>h y (by simp[hy]))
  have h1:=h x (by simp)
  rw[List.flatten_cons,List.length_append,List.length_cons,Nat.succ_mul]
  omega
end M
end Go.AE
end
