/- Guards, copies and plans: plain Lean. -/
import Derived.Test.YtiplhefglgpdoaaGreatAeMM
section
namespace Go.AE
open Go Go.RowKit
set_option linter.unusedVariables false
def M.holds (row:List af.D) (e:List ax.D):Bool:=Ty.beq af (M.dQ row e) (M.valueOf 1)
def M.uZ (v:List az.D) (g:mh.D):List az.D:=
 v.set g.1.toNat ((nth (t:=az) v g.1).1,List.filter (fun r=>M.holds r g.2.1) (nth (t:=az) v g.1).2.1,())
namespace M
theorem jQ {α:Type} (xs:List α):aj xs (some ((0:Int),(xs.length:Int)))=xs:=by
 unfold aj
 simp
theorem ia {α:Type} (xs:List α):xs.take ((xs.length:Int)).toNat=xs:=by simp
theorem zb {t:Ty} {σ ρ:Type} {f:Int->σ->Option (Sum σ ρ)} (g:σ->t.D->σ) (I:σ->Prop) (xs:List t.D) {s:σ} (h0:I s)
  (h:∀(i:Int) (s:σ),0<=i->i<(xs.length:Int)->I s->f i s=some (.inl (g s (nth xs i)))/\I (g s (nth xs i))) :
  aO f (aP (0:Int) (xs.length:Int)) s=some (.inl (xs.foldl g s))/\I (xs.foldl g s):=by
 have key:∀(ys zs:List t.D) (s:σ),xs=zs++ys->I s->aO f (aP (zs.length:Int) (xs.length:Int)) s=some (.inl (ys.foldl g s))/\I (ys.foldl g s):=by
  intro ys
  induction ys with
  | nil=>
   intro zs s e hs
   rw[cH (by rw[e];simp)]
   exact⟨rfl,hs⟩
  | cons y ys ih=>
   intro zs s e hs
   have hlt:(zs.length:Int)<(xs.length:Int):=by rw[e];simp;omega
   have hn:nth (t:=t) xs (zs.length:Int)=y:=by
    rw[e]
    unfold nth
    rw[List.getD_eq_getElem?_getD]
    simp
   obtain⟨h1,h2⟩:=h (zs.length:Int) s (by omega) hlt hs
   rw[hn] at h1 h2
   rw[dr hlt,bM,h1,bp]
   have e2:(zs.length:Int)+1=((zs++[y]).length:Int):=by simp
   rw[e2]
   exact ih (zs++[y]) _ (by rw[e];simp) h2
 exact key xs [] s (by simp) h0
theorem CJ {α σ ρ:Type} {f:α->σ->Option (Sum σ ρ)} (g:σ->α->σ) (I:σ->Prop) {xs:List α} {s:σ} (h0:I s)
  (h:∀x∈xs,∀s,I s->f x s=some (.inl (g s x))/\I (g s x)):aO f xs s=some (.inl (xs.foldl g s))/\I (xs.foldl g s):=by
 induction xs generalizing s with
 | nil=>exact⟨rfl,h0⟩
 | cons x xs ih=>
  obtain⟨h1,h2⟩:=h x (by simp) s h0
  rw[bM,h1,bp]
  exact ih h2 (fun y hy=>h y (by simp[hy]))
theorem tn {t:Ty} {xs:List t.D}:cond (decide ((xs.length:Int)=(0:Int))) (some ([]:List t.D)) (some (xs.take (xs.length:Int).toNat))=some xs:=by
 rw[ia]
 cases xs with
 | nil=>rfl
 | cons x xs=>rw[decide_eq_false (by simp;omega)];rfl
theorem Ic {B:Nat} {t:Ty} {xs:List t.D} (p:t.D->Bool) (h:SmB B (.sl t) xs):SmB B (.sl t) (xs.filter p):=⟨Nat.le_trans (List.length_filter_le _ _) h.1,fun x hx=>h.2 x (List.mem_filter.1 hx).1⟩
theorem AH {α:Type} (xs:List α):xs.map (fun x=>x)=xs:=by simp
def ff (tables v:List az.D):Prop:=v.length=tables.length/\∀i:Int,0<=i->i<(tables.length:Int)->(nth (t:=az) v i).1=(nth (t:=az) tables i).1 ∧
 (nth (t:=az) v i).2.1.length<=(nth (t:=az) tables i).2.1.length/\∀r∈(nth (t:=az) v i).2.1,r∈(nth (t:=az) tables i).2.1
theorem ff.refl (tables:List az.D):ff tables tables:=⟨rfl,fun _ _ _=>⟨rfl,Nat.le_refl _,fun _ h=>h⟩⟩
theorem gm {t:Ty} {a:List t.D} {i j:Int} {z:t.D} (h0:0<=i) (h1:0<=j) (hne:i≠j):nth (t:=t) (a.set i.toNat z) j=nth a j:=by
 have:i.toNat≠j.toNat:=by omega
 unfold nth
 rw[List.getD_eq_getElem?_getD,List.getD_eq_getElem?_getD,List.getElem?_set_ne this]
theorem ff.step {tables v:List az.D} (h:ff tables v) {g:mh.D} (h0:0<=g.1) (h1:g.1<(tables.length:Int)):ff tables (uZ v g):=by
 refine⟨by unfold uZ;simp[h.1],fun i i0 i1=>?_⟩
 have hl:g.1<(v.length:Int):=by rw[h.1];exact h1
 by_cases e:g.1=i
 ·subst e
  obtain⟨q1,q2,q3⟩:=h.2 _ i0 i1
  unfold uZ
  rw[Kc i0 hl]
  exact⟨q1,Nat.le_trans (List.length_filter_le _ _) q2,fun r hr=>q3 r (List.mem_filter.1 hr).1⟩
 ·unfold uZ
  rw[gm h0 i0 e]
  exact h.2 i i0 i1
theorem GU {tables:List az.D} (h:cC tables=true) {i:Int} (h0:0<=i) (h1:i<(tables.length:Int)) {r:List af.D} (hr:r∈(nth (t:=az) tables i).2.1):r.length=(nth (t:=az) tables i).1.length:=by
 have hm:=wz (t:=az) h0 h1
 unfold cC at h
 obtain⟨_,h2⟩:=Bool.and_eq_true_iff.1 h
 have h3:=List.all_eq_true.1 h2 _ hm
 unfold dy at h3
 obtain⟨_,h4⟩:=Bool.and_eq_true_iff.1 h3
 unfold gI at h4
 obtain⟨_,h5⟩:=Bool.and_eq_true_iff.1 h4
 have h6:=List.all_eq_true.1 h5 r hr
 unfold cM at h6
 simp only[Bool.and_eq_true,decide_eq_true_eq] at h6
 omega
end M
end Go.AE
end
section
namespace Go.AE
open Go Go.RowKit
set_option linter.unusedVariables false
abbrev aF:Ty:=.pair (.sl ah) (.pair (.int .i64) .unit)
def M.two (k:Int):Bool:=decide (k=4)||decide (k=5)
def M.bW (s:aa.D):Bool:=(!decide (s.1=(1:Int))||decide (s.2.1=(0:Int)))&&((two s.1||decide (s.2.2.1=(0:Int)))&&((decide (s.1=(1:Int))||decide (s.2.2.2.1=(0:Int))) &&
 ((decide (s.1=(2:Int))||decide (s.1=(4:Int))||decide ((s.2.2.2.2.1.length:Int)=(0:Int)))&&(decide (s.1=(3:Int))||decide ((s.2.2.2.2.2.1.length:Int)=(0:Int))))))
def M.qm (b:List ah.D) (i:Int) (v:List ah.D):Option (List ah.D):=
 cond (decide ((nth (t:=ah) v i).1=(nth (t:=ah) b i).1)) (some (v.set i.toNat ((nth (t:=ah) v i).1,((nth (t:=ah) v i).2.1||(nth (t:=ah) b i).2.1),()))) none
def M.lq (b:List ah.D):Nat->Int->List ah.D->Option (List ah.D)
 | 0,_,v=>some v
 | n+1,i,v=>match qm b i v with
  | some v'=>lq b n (i+1) v'
  | none=>none
def M.both (a b:List ah.D):Option (List ah.D):=cond (decide (a.length=b.length)) (lq b a.length 0 a) none
def M.bF (tables:List az.D) (ahead:List (List ah.D)) (s:aa.D):Option (List ah.D):=
 cond (bW s) (cond (decide (s.1=(1:Int))) (cond (inR s.2.2.2.1 0 ((tables.length:Int)-1)) (some (nth (t:=az) tables s.2.2.2.1).1) none)
  (cond (inR s.2.1 0 ((ahead.length:Int)-1)&&inR s.2.2.1 0 ((ahead.length:Int)-1))
   (cond (decide (s.1=(2:Int))) (cond (decide (bE (nth (t:=.sl ah) ahead s.2.1) s.2.2.2.2.1=3)) (some (nth (t:=.sl ah) ahead s.2.1)) none)
   (cond (decide (s.1=(3:Int))) (cond ((s.2.2.2.2.2.1.all fun n=>inR n 0 (((nth (t:=.sl ah) ahead s.2.1).length:Int)-1))&&decide ((s.2.2.2.2.2.1.length:Int)<=4)) (some (s.2.2.2.2.2.1.map fun n=>nth (t:=ah) (nth (t:=.sl ah) ahead s.2.1) n)) none)
   (cond (decide (s.1=(4:Int))) (cond (decide (((nth (t:=.sl ah) ahead s.2.1++nth (t:=.sl ah) ahead s.2.2.1:List ah.D).length:Int)<=4)&&decide (bE (nth (t:=.sl ah) ahead s.2.1++nth (t:=.sl ah) ahead s.2.2.1:List ah.D) s.2.2.2.2.1=3))
    (some (nth (t:=.sl ah) ahead s.2.1++nth (t:=.sl ah) ahead s.2.2.1:List ah.D)) none)
   (cond (decide (s.1=(5:Int))) (both (nth (t:=.sl ah) ahead s.2.1) (nth (t:=.sl ah) ahead s.2.2.1))
   (cond (decide (s.1=(6:Int))) (some (nth (t:=.sl ah) ahead s.2.1)) none))))) none)) none
def M.bf (ahead:List Int) (s:aa.D):Int:=cond (decide (s.1=(1:Int))) 6 (cond (decide (s.1=(4:Int))) (wrap64 (nth (t:=.int .i64) ahead s.2.1 * nth (t:=.int .i64) ahead s.2.2.1))
 (cond (decide (s.1=(5:Int))) (wrap64 (nth (t:=.int .i64) ahead s.2.1+nth (t:=.int .i64) ahead s.2.2.1)) (nth (t:=.int .i64) ahead s.2.1)))
def M.cS {σ α:Type} (g:σ->α->Option σ):List α->σ->Option σ
 | [],s=>some s
 | x::xs,s=>match g s x with
  | some s'=>cS g xs s'
  | none=>none
abbrev eP:Type:=List (List ah.D)×List Int
def M.bH (tables:List az.D) (st:eP) (s:aa.D):Option eP:=match bF tables st.1 s with
 | some c=>cond (decide ((300:Int)<bf st.2 s)) none (some (st.1++[c],st.2++[bf st.2 s]))
 | none=>none
def M.fO (tables:List az.D) (plan:List aa.D):Option eP:=cS (bH tables) plan ([],[])
def M.aX (tables:List az.D) (plan:List aa.D):List (List ah.D)×Bool:=match fO tables plan with
 | some st=>(st.1,true)
 | none=>([],false)
def M.aQ (tables:List az.D) (plan:List aa.D):Bool:=(aX tables plan).2&&(cC tables&&inR (plan.length:Int) 1 6)
def M.bV (tables:List az.D) (plan:List aa.D):List ah.D:=cond (M.aQ tables plan) (nth (t:=.sl ah) (M.aX tables plan).1 ((plan.length:Int)-1)) []
def M.gi (k:Int) (s:aa.D):Prop:=¬s.1=(1:Int)->(0<=s.2.1/\s.2.1<k)/\(0<=s.2.2.1/\s.2.2.1<k)
def M.jS (plan:List aa.D):Prop:=0<plan.length/\∀i:Int,0<=i->i<(plan.length:Int)->gi i (nth (t:=aa) plan i)
def M.dx (plan:List aa.D) (k:Int) (u:List Bool):List Bool:=
 cond (nth (t:=.bool) u k&&!decide ((nth (t:=aa) plan k).1=(1:Int))) (cond (two (nth (t:=aa) plan k).1) ((u.set (nth (t:=aa) plan k).2.1.toNat true).set (nth (t:=aa) plan k).2.2.1.toNat true) (u.set (nth (t:=aa) plan k).2.1.toNat true)) u
def M.jL {σ:Type} (g:Int->σ->σ):Nat->σ->σ
 | 0,u=>u
 | n+1,u=>jL g n (g (n:Int) u)
def M.eX (plan:List aa.D):List Bool:=jL (dx plan) plan.length ((List.replicate plan.length false).set (plan.length-1) true)
def M.ren (to:List Int) (s:aa.D):aa.D:=(s.1,cond (decide (s.1=(1:Int))) s.2.1 (nth (t:=.int .i64) to s.2.1),cond (two s.1) (nth (t:=.int .i64) to s.2.2.1) s.2.2.1,s.2.2.2)
def M.cv (plan:List aa.D) (need:List Bool) (st:List Int×List aa.D) (k:Int):List Int×List aa.D:=
 cond (nth (t:=.bool) need k) (st.1.set k.toNat (st.2.length:Int),st.2++[ren st.1 (nth (t:=aa) plan k)]) st
def M.tidy (plan:List aa.D):List aa.D:=((aP 0 (plan.length:Int)).foldl (cv plan (eX plan)) (List.replicate plan.length (0:Int),[])).2
def M.kg (tables:List az.D) (plan:List aa.D):List aa.D:=cond (aQ tables plan) (tidy plan) []
namespace M
theorem EM {α σ τ ρ:Type} {f:α->τ->Option (Sum τ ρ)} (g:σ->α->Option σ) (ab:τ->σ) (I:Nat->τ->Prop) :
  ∀(xs:List α) (n:Nat) (t:τ),I n t->(∀x∈xs,∀(m:Nat) t,n<=m->m<n+xs.length->I m t->∃o,f x t=some o/\match o with
   | .inl t'=>g (ab t) x=some (ab t')/\I (m+1) t'
   | .inr _=>g (ab t) x=none)->∃o,aO f xs t=some o/\match o with
   | .inl t'=>cS g xs (ab t)=some (ab t')/\I (n+xs.length) t'
   | .inr _=>cS g xs (ab t)=none
 | [],n,t,h0,_=>⟨.inl t,rfl,rfl,h0⟩
 | x::xs,n,t,h0,h=>by
  obtain⟨o,h1,h2⟩:=h x (by simp) n t (Nat.le_refl _) (by simp) h0
  match o with
  | .inr r=>
   refine⟨.inr r,by rw[bM,h1,HU],?_⟩
   simp only at h2 ⊢
   unfold cS
   rw[h2]
  | .inl t'=>
   simp only at h2
   obtain⟨o',h3,h4⟩:=EM g ab I xs (n+1) t' h2.2 (fun y hy m t hm hm2 hI=>h y (by simp[hy]) m t (by omega) (by simp;omega) hI)
   refine⟨o',by rw[bM,h1,bp];exact h3,?_⟩
   have e:n+1+xs.length=n+(x::xs).length:=by simp;omega
   unfold cS
   rw[h2.1]
   rw[e] at h4
   exact h4
theorem Ck {t:Ty} {σ τ ρ:Type} {f:Int->τ->Option (Sum τ ρ)} (g:σ->t.D->Option σ) (ab:τ->σ) (I:Nat->τ->Prop) (all:List t.D) :
  ∀(xs zs:List t.D) (s:τ),all=zs++xs->I zs.length s->(∀(m:Nat) s,m<all.length->I m s->∃o,f (m:Int) s=some o/\match o with
   | .inl s'=>g (ab s) (nth all (m:Int))=some (ab s')/\I (m+1) s'
   | .inr _=>g (ab s) (nth all (m:Int))=none)->∃o,aO f (aP (zs.length:Int) (all.length:Int)) s=some o/\match o with
   | .inl s'=>cS g xs (ab s)=some (ab s')/\I all.length s'
   | .inr _=>cS g xs (ab s)=none
 | [],zs,s,e,h0,_=>⟨.inl s,by rw[cH (by rw[e];simp)];rfl,rfl,by rw[e];simpa using h0⟩
 | x::xs,zs,s,e,h0,h=>by
  have hlt:zs.length<all.length:=by rw[e];simp
  have hn:nth (t:=t) all (zs.length:Int)=x:=by
   rw[e]
   unfold nth
   rw[List.getD_eq_getElem?_getD]
   simp
  obtain⟨o,h1,h2⟩:=h zs.length s hlt h0
  rw[hn] at h2
  rw[dr (by omega),bM,h1]
  match o with
  | .inr r=>
   refine⟨.inr r,rfl,?_⟩
   simp only at h2 ⊢
   unfold cS
   rw[h2]
  | .inl s'=>
   simp only at h2
   have e2:(zs.length:Int)+1=((zs++[x]).length:Int):=by simp
   obtain⟨o',h3,h4⟩:=Ck g ab I all xs (zs++[x]) s' (by rw[e];simp) (by simpa using h2.2) h
   refine⟨o',by rw[bp,e2];exact h3,?_⟩
   unfold cS
   rw[h2.1]
   exact h4
theorem rU {σ ρ:Type} {f:Int->σ->Option (Sum σ ρ)} (g:σ->Int->σ) (I:Int->σ->Prop) (N:Nat) {s:σ} (h0:I 0 s)
  (h:∀(i:Int) (s:σ),0<=i->i<(N:Int)->I i s->f i s=some (.inl (g s i))/\I (i+1) (g s i)) :
  aO f (aP 0 (N:Int)) s=some (.inl ((aP 0 (N:Int)).foldl g s))/\I (N:Int) ((aP 0 (N:Int)).foldl g s):=by
 have key:∀(n:Nat) (i:Int) (s:σ),(N:Int)-i=n->0<=i->I i s->aO f (aP i (N:Int)) s=some (.inl ((aP i (N:Int)).foldl g s))/\I (N:Int) ((aP i (N:Int)).foldl g s):=by
  intro n
  induction n with
  | zero=>
   intro i s hn h0 hI
   rw[cH (by omega)]
   have:i=(N:Int):=by omega
   subst this
   exact⟨rfl,hI⟩
  | succ n ih=>
   intro i s hn h0 hI
   obtain⟨h1,h2⟩:=h i s h0 (by omega) hI
   rw[dr (by omega),bM,h1,bp]
   exact ih (i+1) _ (by omega) (by omega) h2
 exact key N 0 s (by omega) (by omega) h0
theorem tY {σ:Type} {f:Int×σ->Option (Sum (Int×σ) σ)} (g:Int->σ->σ) (I:σ->Prop) (N:Nat)
  (h:∀(k:Int) (u:σ),0<=k->k<(N:Int)->I u->f (k,u)=some (.inl (k-1,g k u))/\I (g k u)) (he:∀u,I u->f (-1,u)=some (.inr u)) :
  ∀(n:Nat) (u:σ),n<=N->I u->ck f ((n:Int)-1,u)=some (jL g n u)/\I (jL g n u)
 | 0,u,_,hI=>by
  rw[ct,show ((0:Nat):Int)-1=-1 from rfl,he u hI]
  exact⟨rfl,hI⟩
 | n+1,u,hn,hI=>by
  obtain⟨h1,h2⟩:=h (n:Int) u (by omega) (by omega) hI
  rw[ct,show ((n+1:Nat):Int)-1=(n:Int) by omega,h1,bp]
  exact tY g I N h he n _ (by omega) h2
theorem zV {α β γ:Type} (g:α×β->γ->α×β) (g':β×α->γ->β×α) (h:∀a b x,g' (b,a) x=((g (a,b) x).2,(g (a,b) x).1)) :
  ∀(xs:List γ) (a:α) (b:β),xs.foldl g' (b,a)=((xs.foldl g (a,b)).2,(xs.foldl g (a,b)).1)
 | [],_,_=>rfl
 | x::xs,a,b=>by
  rw[List.foldl_cons,List.foldl_cons,h]
  exact zV g g' h xs _ _
theorem It {t:Ty} {u:List t.D} {i:Int} (h0:0<=i) (h1:i<(u.length:Int)):u.set i.toNat (nth (t:=t) u i)=u:=by
 rw[iq h0 h1]
 exact List.set_getElem_self ..
theorem xO {x:List ah.D} (h:x.length<=1048576):Sm (.sl ah) x:=⟨h,fun y _=>zn rfl y⟩
theorem DM {b:List ah.D} {i:Int} {v r:List ah.D} (h:qm b i v=some r):r.length=v.length:=by
 unfold qm at h
 cases hc:decide ((nth (t:=ah) v i).1=(nth (t:=ah) b i).1) with
 | true=>rw[hc] at h;simp only[cond_true,Option.some.injEq] at h;rw[<-h];simp
 | false=>rw[hc] at h;cases h
theorem jH {b:List ah.D}:∀{n:Nat} {i:Int} {v r:List ah.D},lq b n i v=some r->r.length=v.length
 | 0,i,v,r,h=>by cases h;rfl
 | n+1,i,v,r,h=>by
  unfold lq at h
  cases hs:qm b i v with
  | none=>rw[hs] at h;cases h
  | some v'=>
   rw[hs] at h
   rw[jH h,DM hs]
theorem aG {α:Type} {b:Bool} {x:Option α} {y:α} (h:cond b x none=some y):b=true/\x=some y:=by
 cases b with
 | true=>exact⟨rfl,h⟩
 | false=>cases h
theorem yw {tables:List az.D} {ahead:List (List ah.D)} {s:aa.D} {c:List ah.D} (ht:Sm (.sl az) tables) (ha:∀x∈ahead,x.length<=1048576) (h:bF tables ahead s=some c):c.length<=1048576:=by
 have hn:∀i:Int,(nth (t:=.sl ah) ahead i:List ah.D).length<=1048576:=by
  intro i
  unfold nth
  rw[List.getD_eq_getElem?_getD]
  cases he:ahead[i.toNat]? with
  | none=>exact Nat.zero_le _
  | some x=>exact ha x (List.mem_of_getElem? he)
 unfold bF at h
 obtain⟨_,h⟩:=aG h
 cases h1:decide (s.1=(1:Int)) with
 | true=>
  rw[h1,cond_true] at h
  obtain⟨_,h⟩:=aG h
  cases h
  exact(aL ht s.2.2.2.1).1.1
 | false=>
  rw[h1,cond_false] at h
  obtain⟨_,h⟩:=aG h
  cases h2:decide (s.1=(2:Int)) with
  | true=>
   rw[h2,cond_true] at h
   obtain⟨_,h⟩:=aG h
   cases h
   exact hn _
  | false=>
   rw[h2,cond_false] at h
   cases h3:decide (s.1=(3:Int)) with
   | true=>
    rw[h3,cond_true] at h
    obtain⟨hb,h⟩:=aG h
    cases h
    have:=of_decide_eq_true (Bool.and_eq_true_iff.1 hb).2
    rw[List.length_map]
    omega
   | false=>
    rw[h3,cond_false] at h
    cases h4:decide (s.1=(4:Int)) with
    | true=>
     rw[h4,cond_true] at h
     obtain⟨hb,h⟩:=aG h
     cases h
     have:=of_decide_eq_true (Bool.and_eq_true_iff.1 hb).1
     omega
    | false=>
     rw[h4,cond_false] at h
     cases h5:decide (s.1=(5:Int)) with
     | true=>
      rw[h5,cond_true] at h
      unfold both at h
      obtain⟨_,h⟩:=aG h
      rw[jH h]
      exact hn _
     | false=>
      rw[h5,cond_false] at h
      obtain⟨_,h⟩:=aG h
      cases h
      exact hn _
theorem jI {tables:List az.D} {ahead:List (List ah.D)} {s:aa.D} {c:List ah.D} (h:bF tables ahead s=some c):gi (ahead.length:Int) s:=by
 intro h1
 unfold bF at h
 obtain⟨_,h⟩:=aG h
 rw[decide_eq_false h1,cond_false] at h
 obtain⟨hb,_⟩:=aG h
 obtain⟨ha,hb⟩:=Bool.and_eq_true_iff.1 hb
 exact⟨⟨fk ha,Int.lt_of_le_sub_one (og ha)⟩,⟨fk hb,Int.lt_of_le_sub_one (og hb)⟩⟩
theorem Eh {tables:List az.D} {st st':eP} {s:aa.D} (h:bH tables st s=some st'):gi (st.1.length:Int) s/\st'.1.length=st.1.length+1:=by
 unfold bH at h
 cases hc:bF tables st.1 s with
 | none=>rw[hc] at h;cases h
 | some c=>
  rw[hc] at h
  simp only at h
  cases hd:decide ((300:Int)<bf st.2 s) with
  | true=>rw[hd] at h;cases h
  | false=>
   rw[hd] at h
   cases h
   exact⟨jI hc,by simp⟩
theorem CP {tables:List az.D}:∀(xs:List aa.D) (st st':eP),cS (bH tables) xs st=some st'->∀i:Int,0<=i->i<(xs.length:Int)->gi ((st.1.length:Int)+i) (nth (t:=aa) xs i)
 | [],st,st',h,i,h0,h1=>by simp at h1;omega
 | x::xs,st,st',h,i,h0,h1=>by
  unfold cS at h
  cases hp:bH tables st x with
  | none=>rw[hp] at h;cases h
  | some st1=>
   rw[hp] at h
   obtain⟨q1,q2⟩:=Eh hp
   by_cases hi:i=0
   ·subst hi
    rw[vJ,Int.add_zero]
    exact q1
   ·have:=CP xs st1 st' h (i-1) (by omega) (by simp at h1;omega)
    rw[q2] at this
    have e:i=(i-1)+1:=by omega
    rw[e,vW _ _ (by omega)]
    have e2:((st.1.length+1:Nat):Int)+(i-1)=(st.1.length:Int)+(i-1+1):=by omega
    rw[<-e2]
    exact this
theorem cz {tables:List az.D} {plan:List aa.D} (h:aQ tables plan=true):jS plan:=by
 unfold aQ at h
 obtain⟨h1,h2⟩:=Bool.and_eq_true_iff.1 h
 obtain⟨_,h2⟩:=Bool.and_eq_true_iff.1 h2
 have hl:(1:Int)<=(plan.length:Int):=by unfold inR at h2;simp at h2;omega
 refine⟨by omega,fun i i0 i1=>?_⟩
 unfold aX at h1
 cases hr:fO tables plan with
 | none=>rw[hr] at h1;cases h1
 | some st=>
  have:=CP plan ([],[]) st hr i i0 i1
  simpa using this
theorem mR (plan:List aa.D) (k:Int) (u:List Bool):(dx plan k u).length=u.length:=by
 unfold dx
 cases (nth (t:=.bool) u k&&!decide ((nth (t:=aa) plan k).1=(1:Int)))
 ·rfl
 ·cases two (nth (t:=aa) plan k).1<;>simp
theorem yy {σ:Type} {g:Int->σ->σ} {I:σ->Prop} (h:∀k u,I u->I (g k u)):∀(n:Nat) (u:σ),I u->I (jL g n u)
 | 0,_,hu=>hu
 | n+1,u,hu=>yy h n _ (h _ _ hu)
theorem xL (plan:List aa.D):(eX plan).length=plan.length:=by
 unfold eX
 exact yy (I:=fun u:List Bool=>u.length=plan.length) (fun k u hu=>by rw[mR,hu]) _ _ (by simp)
theorem Lj {to:List Int} {s:aa.D} (h:Sm aa s):Sm aa (ren to s):=⟨trivial,trivial,trivial,h.2.2.2⟩
theorem zQ {plan:List aa.D} {need:List Bool} (hs:Sm (.sl aa) plan) {st:List Int×List aa.D} {k:Int} (k0:0<=k)
  (h:st.1.length=plan.length/\(st.2.length:Int)<=k/\∀s∈st.2,Sm aa s):(cv plan need st k).1.length=plan.length/\((cv plan need st k).2.length:Int)<=k+1/\∀s∈(cv plan need st k).2,Sm aa s:=by
 obtain⟨h1,h2,h3⟩:=h
 unfold cv
 cases nth (t:=.bool) need k with
 | false=>exact⟨h1,by show (st.2.length:Int)<=k+1;omega,h3⟩
 | true=>
  refine⟨by simp[h1],by simp;omega,fun s hm=>?_⟩
  rcases List.mem_append.1 hm with hm | hm
  ·exact h3 s hm
  ·cases List.mem_singleton.1 hm
   exact Lj (aL hs k)
theorem EO {plan:List aa.D} (hs:Sm (.sl aa) plan) (need:List Bool):∀(n:Nat) (i:Int) (st:List Int×List aa.D),(plan.length:Int)-i=n->0<=i->(st.1.length=plan.length/\(st.2.length:Int)<=i/\∀s∈st.2,Sm aa s) →
  Sm (.sl aa) ((aP i (plan.length:Int)).foldl (cv plan need) st).2
 | 0,i,st,hn,h0,h=>by
  rw[cH (by omega)]
  have:=hs.1
  refine⟨?_,h.2.2⟩
  have h2:=h.2.1
  show st.2.length<=1048576
  omega
 | n+1,i,st,hn,h0,h=>by
  rw[dr (by omega),List.foldl_cons]
  exact EO hs need n (i+1) _ (by omega) (by omega) (zQ hs h0 h)
theorem Kd {plan:List aa.D} (hs:Sm (.sl aa) plan):Sm (.sl aa) (tidy plan):=
 EO hs _ plan.length 0 _ (by omega) (by omega) ⟨by simp,by simp,fun s h=>by cases h⟩
theorem Bm {t:Ty}:∀{xss:List (List t.D)} {n:Nat},(∀x∈xss,x.length<=n)->(xss.flatten).length<=xss.length * n
 | [],n,_=>by simp
 | x::xss,n,h=>by
  have:=Bm (xss:=xss) (fun y hy=>h y (by simp[hy]))
  have h1:=h x (by simp)
  rw[List.flatten_cons,List.length_append,List.length_cons,Nat.succ_mul]
  omega
end M
end Go.AE
end
