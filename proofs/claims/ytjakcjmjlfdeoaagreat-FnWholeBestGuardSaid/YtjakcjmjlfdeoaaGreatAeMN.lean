/- Guards, copies and plans: plain Lean. -/
import Derived.Test.YtjakcjmjlfdeoaaGreatAeMM
section
namespace Go.AE
open Go Go.RowKit
set_option linter.unusedVariables false
def M.holds (row:List aa.D) (e:List az.D):Bool:=Ty.beq aa (M.dM row e) (M.valueOf 1)
def M.sG (tables:List aq.D) (guards:List aL.D) (i:Int):Bool:=
 M.inR (nth (t:=aL) guards i).1 0 ((tables.length:Int)-1)&&(decide (M.bp (nth (t:=aq) tables (nth (t:=aL) guards i).1).1 (nth (t:=aL) guards i).2.1=3) &&
  (!decide (0<i)||!decide ((nth (t:=aL) guards i).1<=(nth (t:=aL) guards (i-1)).1)))
def M.cF (tables:List aq.D) (guards:List aL.D):Bool:=M.cm tables&&(aN 0 (guards.length:Int)).all (M.sG tables guards)
def M.fN (v:List aq.D) (g:aL.D):List aq.D:=
 v.set g.1.toNat ((nth (t:=aq) v g.1).1,List.filter (fun r=>M.holds r g.2.1) (nth (t:=aq) v g.1).2.1,())
def M.bR (tables:List aq.D) (guards:List aL.D):List aq.D:=cond (M.cF tables guards) (guards.foldl M.fN tables) []
namespace M
theorem jg {α:Type} (xs:List α):ah xs (some ((0:Int),(xs.length:Int)))=xs:=by
 unfold ah
 simp
theorem ia {α:Type} (xs:List α):xs.take ((xs.length:Int)).toNat=xs:=by simp
theorem By {α σ ρ:Type} {f:α->σ->Option (Sum σ ρ)} (g:σ->α->σ) (I:σ->Prop) {xs:List α} {s:σ} (h0:I s)
  (h:∀x∈xs,∀s,I s->f x s=some (.inl (g s x))/\I (g s x)):aQ f xs s=some (.inl (xs.foldl g s))/\I (xs.foldl g s):=by
 induction xs generalizing s with
 | nil=>exact⟨rfl,h0⟩
 | cons x xs ih=>
  obtain⟨h1,h2⟩:=h x (by simp) s h0
  rw[bH,h1,bq]
  exact ih h2 (fun y hy=>h y (by simp[hy]))
theorem sD {t:Ty} {xs:List t.D}:cond (decide ((xs.length:Int)=(0:Int))) (some ([]:List t.D)) (some (xs.take (xs.length:Int).toNat))=some xs:=by
 rw[ia]
 cases xs with
 | nil=>rfl
 | cons x xs=>rw[decide_eq_false (by simp;omega)];rfl
theorem GN {B:Nat} {t:Ty} {xs:List t.D} (p:t.D->Bool) (h:SmB B (.sl t) xs):SmB B (.sl t) (xs.filter p):=⟨Nat.le_trans (List.length_filter_le _ _) h.1,fun x hx=>h.2 x (List.mem_filter.1 hx).1⟩
theorem DM {α:Type} (xs:List α):xs.map (fun x=>x)=xs:=by simp
def fm (tables v:List aq.D):Prop:=v.length=tables.length/\∀i:Int,0<=i->i<(tables.length:Int)->(nth (t:=aq) v i).1=(nth (t:=aq) tables i).1 ∧
 (nth (t:=aq) v i).2.1.length<=(nth (t:=aq) tables i).2.1.length/\∀r∈(nth (t:=aq) v i).2.1,r∈(nth (t:=aq) tables i).2.1
theorem fm.refl (tables:List aq.D):fm tables tables:=⟨rfl,fun _ _ _=>⟨rfl,Nat.le_refl _,fun _ h=>h⟩⟩
theorem eI {t:Ty} {a:List t.D} {i j:Int} {z:t.D} (h0:0<=i) (h1:0<=j) (hne:i≠j):nth (t:=t) (a.set i.toNat z) j=nth a j:=by
 have:i.toNat≠j.toNat:=by omega
 unfold nth
 rw[List.getD_eq_getElem?_getD,List.getD_eq_getElem?_getD,List.getElem?_set_ne this]
theorem fm.step {tables v:List aq.D} (h:fm tables v) {g:aL.D} (h0:0<=g.1) (h1:g.1<(tables.length:Int)):fm tables (fN v g):=by
 refine⟨by unfold fN;simp[h.1],fun i i0 i1=>?_⟩
 have hl:g.1<(v.length:Int):=by rw[h.1];exact h1
 by_cases e:g.1=i
 ·subst e
  obtain⟨q1,q2,q3⟩:=h.2 _ i0 i1
  unfold fN
  rw[CB i0 hl]
  exact⟨q1,Nat.le_trans (List.length_filter_le _ _) q2,fun r hr=>q3 r (List.mem_filter.1 hr).1⟩
 ·unfold fN
  rw[eI h0 i0 e]
  exact h.2 i i0 i1
theorem xJ {tables:List aq.D} {guards:List aL.D} (h:cF tables guards=true) {g:aL.D} (hg:g∈guards) :
  (0<=g.1/\g.1<(tables.length:Int))/\bp (nth (t:=aq) tables g.1).1 g.2.1=3/\cm tables=true:=by
 unfold cF at h
 obtain⟨h1,h2⟩:=Bool.and_eq_true_iff.1 h
 obtain⟨k,hk,e⟩:=List.getElem_of_mem hg
 have:=List.all_eq_true.1 h2 (k:Int) (eZ.2 ⟨by omega,by omega⟩)
 have hn:nth (t:=aL) guards (k:Int)=g:=by
  unfold nth
  rw[List.getD_eq_getElem?_getD]
  simp[hk,e]
 unfold sG at this
 rw[hn] at this
 obtain⟨q1,q2⟩:=Bool.and_eq_true_iff.1 this
 obtain⟨q2,_⟩:=Bool.and_eq_true_iff.1 q2
 have a0:=eU q1
 have a1:=kW q1
 exact⟨⟨a0,Int.lt_of_le_sub_one a1⟩,of_decide_eq_true q2,h1⟩
theorem Gs {tables:List aq.D} (h:cm tables=true) {i:Int} (h0:0<=i) (h1:i<(tables.length:Int)) {r:List aa.D} (hr:r∈(nth (t:=aq) tables i).2.1):r.length=(nth (t:=aq) tables i).1.length:=by
 have hm:=jG (t:=aq) h0 h1
 unfold cm at h
 obtain⟨_,h2⟩:=Bool.and_eq_true_iff.1 h
 have h3:=List.all_eq_true.1 h2 _ hm
 unfold dU at h3
 obtain⟨_,h4⟩:=Bool.and_eq_true_iff.1 h3
 unfold kR at h4
 obtain⟨_,h5⟩:=Bool.and_eq_true_iff.1 h4
 have h6:=List.all_eq_true.1 h5 r hr
 unfold dS at h6
 simp only[Bool.and_eq_true,decide_eq_true_eq] at h6
 omega
end M
end Go.AE
end
section
namespace Go.AE
open Go Go.RowKit
set_option linter.unusedVariables false
abbrev aF:Ty:=.pair (.sl ai) (.pair (.int .i64) .unit)
def M.two (k:Int):Bool:=decide (k=4)||decide (k=5)
def M.bJ (s:ag.D):Bool:=(!decide (s.1=(1:Int))||decide (s.2.1=(0:Int)))&&((two s.1||decide (s.2.2.1=(0:Int)))&&((decide (s.1=(1:Int))||decide (s.2.2.2.1=(0:Int))) &&
 ((decide (s.1=(2:Int))||decide (s.1=(4:Int))||decide ((s.2.2.2.2.1.length:Int)=(0:Int)))&&(decide (s.1=(3:Int))||decide ((s.2.2.2.2.2.1.length:Int)=(0:Int))))))
def M.oX (b:List ai.D) (i:Int) (v:List ai.D):Option (List ai.D):=
 cond (decide ((nth (t:=ai) v i).1=(nth (t:=ai) b i).1)) (some (v.set i.toNat ((nth (t:=ai) v i).1,((nth (t:=ai) v i).2.1||(nth (t:=ai) b i).2.1),()))) none
def M.kS (b:List ai.D):Nat->Int->List ai.D->Option (List ai.D)
 | 0,_,v=>some v
 | n+1,i,v=>match oX b i v with
  | some v'=>kS b n (i+1) v'
  | none=>none
def M.both (a b:List ai.D):Option (List ai.D):=cond (decide (a.length=b.length)) (kS b a.length 0 a) none
def M.aV (tables:List aq.D) (ahead:List (List ai.D)) (s:ag.D):Option (List ai.D):=
 cond (bJ s) (cond (decide (s.1=(1:Int))) (cond (inR s.2.2.2.1 0 ((tables.length:Int)-1)) (some (nth (t:=aq) tables s.2.2.2.1).1) none)
  (cond (inR s.2.1 0 ((ahead.length:Int)-1)&&inR s.2.2.1 0 ((ahead.length:Int)-1))
   (cond (decide (s.1=(2:Int))) (cond (decide (bp (nth (t:=.sl ai) ahead s.2.1) s.2.2.2.2.1=3)) (some (nth (t:=.sl ai) ahead s.2.1)) none)
   (cond (decide (s.1=(3:Int))) (cond ((s.2.2.2.2.2.1.all fun n=>inR n 0 (((nth (t:=.sl ai) ahead s.2.1).length:Int)-1))&&decide ((s.2.2.2.2.2.1.length:Int)<=4)) (some (s.2.2.2.2.2.1.map fun n=>nth (t:=ai) (nth (t:=.sl ai) ahead s.2.1) n)) none)
   (cond (decide (s.1=(4:Int))) (cond (decide (((nth (t:=.sl ai) ahead s.2.1++nth (t:=.sl ai) ahead s.2.2.1:List ai.D).length:Int)<=4)&&decide (bp (nth (t:=.sl ai) ahead s.2.1++nth (t:=.sl ai) ahead s.2.2.1:List ai.D) s.2.2.2.2.1=3))
    (some (nth (t:=.sl ai) ahead s.2.1++nth (t:=.sl ai) ahead s.2.2.1:List ai.D)) none)
   (cond (decide (s.1=(5:Int))) (both (nth (t:=.sl ai) ahead s.2.1) (nth (t:=.sl ai) ahead s.2.2.1))
   (cond (decide (s.1=(6:Int))) (some (nth (t:=.sl ai) ahead s.2.1)) none))))) none)) none
def M.aK (ahead:List Int) (s:ag.D):Int:=cond (decide (s.1=(1:Int))) 6 (cond (decide (s.1=(4:Int))) (wrap64 (nth (t:=.int .i64) ahead s.2.1 * nth (t:=.int .i64) ahead s.2.2.1))
 (cond (decide (s.1=(5:Int))) (wrap64 (nth (t:=.int .i64) ahead s.2.1+nth (t:=.int .i64) ahead s.2.2.1)) (nth (t:=.int .i64) ahead s.2.1)))
def M.cC {σ α:Type} (g:σ->α->Option σ):List α->σ->Option σ
 | [],s=>some s
 | x::xs,s=>match g s x with
  | some s'=>cC g xs s'
  | none=>none
abbrev dy:Type:=List (List ai.D)×List Int
def M.aS (tables:List aq.D) (st:dy) (s:ag.D):Option dy:=match aV tables st.1 s with
 | some c=>cond (decide ((300:Int)<aK st.2 s)) none (some (st.1++[c],st.2++[aK st.2 s]))
 | none=>none
def M.fE (tables:List aq.D) (plan:List ag.D):Option dy:=cC (aS tables) plan ([],[])
def M.cz (tables:List aq.D) (plan:List ag.D):List (List ai.D)×Bool:=match fE tables plan with
 | some st=>(st.1,true)
 | none=>([],false)
def M.aW (tables:List aq.D) (plan:List ag.D):Bool:=(cz tables plan).2&&(cm tables&&inR (plan.length:Int) 1 6)
def M.gd (k:Int) (s:ag.D):Prop:=¬s.1=(1:Int)->(0<=s.2.1/\s.2.1<k)/\(0<=s.2.2.1/\s.2.2.1<k)
def M.jU (plan:List ag.D):Prop:=0<plan.length/\∀i:Int,0<=i->i<(plan.length:Int)->gd i (nth (t:=ag) plan i)
def M.eg (plan:List ag.D) (k:Int) (u:List Bool):List Bool:=
 cond (nth (t:=.bool) u k&&!decide ((nth (t:=ag) plan k).1=(1:Int))) (cond (two (nth (t:=ag) plan k).1) ((u.set (nth (t:=ag) plan k).2.1.toNat true).set (nth (t:=ag) plan k).2.2.1.toNat true) (u.set (nth (t:=ag) plan k).2.1.toNat true)) u
def M.jM {σ:Type} (g:Int->σ->σ):Nat->σ->σ
 | 0,u=>u
 | n+1,u=>jM g n (g (n:Int) u)
def M.gY (plan:List ag.D):List Bool:=jM (eg plan) plan.length ((List.replicate plan.length false).set (plan.length-1) true)
def M.ren (to:List Int) (s:ag.D):ag.D:=(s.1,cond (decide (s.1=(1:Int))) s.2.1 (nth (t:=.int .i64) to s.2.1),cond (two s.1) (nth (t:=.int .i64) to s.2.2.1) s.2.2.1,s.2.2.2)
def M.cr (plan:List ag.D) (need:List Bool) (st:List Int×List ag.D) (k:Int):List Int×List ag.D:=
 cond (nth (t:=.bool) need k) (st.1.set k.toNat (st.2.length:Int),st.2++[ren st.1 (nth (t:=ag) plan k)]) st
def M.tidy (plan:List ag.D):List ag.D:=((aN 0 (plan.length:Int)).foldl (cr plan (gY plan)) (List.replicate plan.length (0:Int),[])).2
namespace M
theorem DW {α σ τ ρ:Type} {f:α->τ->Option (Sum τ ρ)} (g:σ->α->Option σ) (ab:τ->σ) (I:Nat->τ->Prop) :
  ∀(xs:List α) (n:Nat) (t:τ),I n t->(∀x∈xs,∀(m:Nat) t,n<=m->m<n+xs.length->I m t->∃o,f x t=some o/\match o with
   | .inl t'=>g (ab t) x=some (ab t')/\I (m+1) t'
   | .inr _=>g (ab t) x=none)->∃o,aQ f xs t=some o/\match o with
   | .inl t'=>cC g xs (ab t)=some (ab t')/\I (n+xs.length) t'
   | .inr _=>cC g xs (ab t)=none
 | [],n,t,h0,_=>⟨.inl t,rfl,rfl,h0⟩
 | x::xs,n,t,h0,h=>by
  obtain⟨o,h1,h2⟩:=h x (by simp) n t (Nat.le_refl _) (by simp) h0
  match o with
  | .inr r=>
   refine⟨.inr r,by rw[bH,h1,Hq],?_⟩
   simp only at h2 ⊢
   unfold cC
   rw[h2]
  | .inl t'=>
   simp only at h2
   obtain⟨o',h3,h4⟩:=DW g ab I xs (n+1) t' h2.2 (fun y hy m t hm hm2 hI=>h y (by simp[hy]) m t (by omega) (by simp;omega) hI)
   refine⟨o',by rw[bH,h1,bq];exact h3,?_⟩
   have e:n+1+xs.length=n+(x::xs).length:=by simp;omega
   unfold cC
   rw[h2.1]
   rw[e] at h4
   exact h4
theorem Cb {t:Ty} {σ τ ρ:Type} {f:Int->τ->Option (Sum τ ρ)} (g:σ->t.D->Option σ) (ab:τ->σ) (I:Nat->τ->Prop) (all:List t.D) :
  ∀(xs zs:List t.D) (s:τ),all=zs++xs->I zs.length s->(∀(m:Nat) s,m<all.length->I m s->∃o,f (m:Int) s=some o/\match o with
   | .inl s'=>g (ab s) (nth all (m:Int))=some (ab s')/\I (m+1) s'
   | .inr _=>g (ab s) (nth all (m:Int))=none)->∃o,aQ f (aN (zs.length:Int) (all.length:Int)) s=some o/\match o with
   | .inl s'=>cC g xs (ab s)=some (ab s')/\I all.length s'
   | .inr _=>cC g xs (ab s)=none
 | [],zs,s,e,h0,_=>⟨.inl s,by rw[cD (by rw[e];simp)];rfl,rfl,by rw[e];simpa using h0⟩
 | x::xs,zs,s,e,h0,h=>by
  have hlt:zs.length<all.length:=by rw[e];simp
  have hn:nth (t:=t) all (zs.length:Int)=x:=by
   rw[e]
   unfold nth
   rw[List.getD_eq_getElem?_getD]
   simp
  obtain⟨o,h1,h2⟩:=h zs.length s hlt h0
  rw[hn] at h2
  rw[ep (by omega),bH,h1]
  match o with
  | .inr r=>
   refine⟨.inr r,rfl,?_⟩
   simp only at h2 ⊢
   unfold cC
   rw[h2]
  | .inl s'=>
   simp only at h2
   have e2:(zs.length:Int)+1=((zs++[x]).length:Int):=by simp
   obtain⟨o',h3,h4⟩:=Cb g ab I all xs (zs++[x]) s' (by rw[e];simp) (by simpa using h2.2) h
   refine⟨o',by rw[bq,e2];exact h3,?_⟩
   unfold cC
   rw[h2.1]
   exact h4
theorem sk {σ ρ:Type} {f:Int->σ->Option (Sum σ ρ)} (g:σ->Int->σ) (I:Int->σ->Prop) (N:Nat) {s:σ} (h0:I 0 s)
  (h:∀(i:Int) (s:σ),0<=i->i<(N:Int)->I i s->f i s=some (.inl (g s i))/\I (i+1) (g s i)) :
  aQ f (aN 0 (N:Int)) s=some (.inl ((aN 0 (N:Int)).foldl g s))/\I (N:Int) ((aN 0 (N:Int)).foldl g s):=by
 have key:∀(n:Nat) (i:Int) (s:σ),(N:Int)-i=n->0<=i->I i s->aQ f (aN i (N:Int)) s=some (.inl ((aN i (N:Int)).foldl g s))/\I (N:Int) ((aN i (N:Int)).foldl g s):=by
  intro n
  induction n with
  | zero=>
   intro i s hn h0 hI
   rw[cD (by omega)]
   have:i=(N:Int):=by omega
   subst this
   exact⟨rfl,hI⟩
  | succ n ih=>
   intro i s hn h0 hI
   obtain⟨h1,h2⟩:=h i s h0 (by omega) hI
   rw[ep (by omega),bH,h1,bq]
   exact ih (i+1) _ (by omega) (by omega) h2
 exact key N 0 s (by omega) (by omega) h0
theorem zJ {σ:Type} {f:Int×σ->Option (Sum (Int×σ) σ)} (g:Int->σ->σ) (I:σ->Prop) (N:Nat)
  (h:∀(k:Int) (u:σ),0<=k->k<(N:Int)->I u->f (k,u)=some (.inl (k-1,g k u))/\I (g k u)) (he:∀u,I u->f (-1,u)=some (.inr u)) :
  ∀(n:Nat) (u:σ),n<=N->I u->cN f ((n:Int)-1,u)=some (jM g n u)/\I (jM g n u)
 | 0,u,_,hI=>by
  rw[eV,show ((0:Nat):Int)-1=-1 from rfl,he u hI]
  exact⟨rfl,hI⟩
 | n+1,u,hn,hI=>by
  obtain⟨h1,h2⟩:=h (n:Int) u (by omega) (by omega) hI
  rw[eV,show ((n+1:Nat):Int)-1=(n:Int) by omega,h1,bq]
  exact zJ g I N h he n _ (by omega) h2
theorem yS {α β γ:Type} (g:α×β->γ->α×β) (g':β×α->γ->β×α) (h:∀a b x,g' (b,a) x=((g (a,b) x).2,(g (a,b) x).1)) :
  ∀(xs:List γ) (a:α) (b:β),xs.foldl g' (b,a)=((xs.foldl g (a,b)).2,(xs.foldl g (a,b)).1)
 | [],_,_=>rfl
 | x::xs,a,b=>by
  rw[List.foldl_cons,List.foldl_cons,h]
  exact yS g g' h xs _ _
theorem zn {x:List ai.D} (h:x.length<=1048576):Sm (.sl ai) x:=⟨h,fun y _=>yM rfl y⟩
theorem CV {b:List ai.D} {i:Int} {v r:List ai.D} (h:oX b i v=some r):r.length=v.length:=by
 unfold oX at h
 cases hc:decide ((nth (t:=ai) v i).1=(nth (t:=ai) b i).1) with
 | true=>rw[hc] at h;simp only[cond_true,Option.some.injEq] at h;rw[<-h];simp
 | false=>rw[hc] at h;cases h
theorem jw {b:List ai.D}:∀{n:Nat} {i:Int} {v r:List ai.D},kS b n i v=some r->r.length=v.length
 | 0,i,v,r,h=>by cases h;rfl
 | n+1,i,v,r,h=>by
  unfold kS at h
  cases hs:oX b i v with
  | none=>rw[hs] at h;cases h
  | some v'=>
   rw[hs] at h
   rw[jw h,CV hs]
theorem aG {α:Type} {b:Bool} {x:Option α} {y:α} (h:cond b x none=some y):b=true/\x=some y:=by
 cases b with
 | true=>exact⟨rfl,h⟩
 | false=>cases h
theorem xj {tables:List aq.D} {ahead:List (List ai.D)} {s:ag.D} {c:List ai.D} (ht:Sm (.sl aq) tables) (ha:∀x∈ahead,x.length<=1048576) (h:aV tables ahead s=some c):c.length<=1048576:=by
 have hn:∀i:Int,(nth (t:=.sl ai) ahead i:List ai.D).length<=1048576:=by
  intro i
  unfold nth
  rw[List.getD_eq_getElem?_getD]
  cases he:ahead[i.toNat]? with
  | none=>exact Nat.zero_le _
  | some x=>exact ha x (List.mem_of_getElem? he)
 unfold aV at h
 obtain⟨_,h⟩:=aG h
 cases h1:decide (s.1=(1:Int)) with
 | true=>
  rw[h1,cond_true] at h
  obtain⟨_,h⟩:=aG h
  cases h
  exact(aO ht s.2.2.2.1).1.1
 | false=>
  rw[h1,cond_false] at h
  obtain⟨_,h⟩:=aG h
  cases h2:decide (s.1=(2:Int)) with
  | true=>
   rw[h2,cond_true] at h
   obtain⟨_,h⟩:=aG h
   cases h
   exact hn _
  | false=>
   rw[h2,cond_false] at h
   cases h3:decide (s.1=(3:Int)) with
   | true=>
    rw[h3,cond_true] at h
    obtain⟨hb,h⟩:=aG h
    cases h
    have:=of_decide_eq_true (Bool.and_eq_true_iff.1 hb).2
    rw[List.length_map]
    omega
   | false=>
    rw[h3,cond_false] at h
    cases h4:decide (s.1=(4:Int)) with
    | true=>
     rw[h4,cond_true] at h
     obtain⟨hb,h⟩:=aG h
     cases h
     have:=of_decide_eq_true (Bool.and_eq_true_iff.1 hb).1
     omega
    | false=>
     rw[h4,cond_false] at h
     cases h5:decide (s.1=(5:Int)) with
     | true=>
      rw[h5,cond_true] at h
      unfold both at h
      obtain⟨_,h⟩:=aG h
      rw[jw h]
      exact hn _
     | false=>
      rw[h5,cond_false] at h
      obtain⟨_,h⟩:=aG h
      cases h
      exact hn _
theorem iz {tables:List aq.D} {ahead:List (List ai.D)} {s:ag.D} {c:List ai.D} (h:aV tables ahead s=some c):gd (ahead.length:Int) s:=by
 intro h1
 unfold aV at h
 obtain⟨_,h⟩:=aG h
 rw[decide_eq_false h1,cond_false] at h
 obtain⟨hb,_⟩:=aG h
 obtain⟨ha,hb⟩:=Bool.and_eq_true_iff.1 hb
 exact⟨⟨eU ha,Int.lt_of_le_sub_one (kW ha)⟩,⟨eU hb,Int.lt_of_le_sub_one (kW hb)⟩⟩
theorem DT {tables:List aq.D} {st st':dy} {s:ag.D} (h:aS tables st s=some st'):gd (st.1.length:Int) s/\st'.1.length=st.1.length+1:=by
 unfold aS at h
 cases hc:aV tables st.1 s with
 | none=>rw[hc] at h;cases h
 | some c=>
  rw[hc] at h
  simp only at h
  cases hd:decide ((300:Int)<aK st.2 s) with
  | true=>rw[hd] at h;cases h
  | false=>
   rw[hd] at h
   cases h
   exact⟨iz hc,by simp⟩
theorem BA {tables:List aq.D}:∀(xs:List ag.D) (st st':dy),cC (aS tables) xs st=some st'->∀i:Int,0<=i->i<(xs.length:Int)->gd ((st.1.length:Int)+i) (nth (t:=ag) xs i)
 | [],st,st',h,i,h0,h1=>by simp at h1;omega
 | x::xs,st,st',h,i,h0,h1=>by
  unfold cC at h
  cases hp:aS tables st x with
  | none=>rw[hp] at h;cases h
  | some st1=>
   rw[hp] at h
   obtain⟨q1,q2⟩:=DT hp
   by_cases hi:i=0
   ·subst hi
    rw[vM,Int.add_zero]
    exact q1
   ·have:=BA xs st1 st' h (i-1) (by omega) (by simp at h1;omega)
    rw[q2] at this
    have e:i=(i-1)+1:=by omega
    rw[e,uW _ _ (by omega)]
    have e2:((st.1.length+1:Nat):Int)+(i-1)=(st.1.length:Int)+(i-1+1):=by omega
    rw[<-e2]
    exact this
theorem dX {tables:List aq.D} {plan:List ag.D} (h:aW tables plan=true):jU plan:=by
 unfold aW at h
 obtain⟨h1,h2⟩:=Bool.and_eq_true_iff.1 h
 obtain⟨_,h2⟩:=Bool.and_eq_true_iff.1 h2
 have hl:(1:Int)<=(plan.length:Int):=by unfold inR at h2;simp at h2;omega
 refine⟨by omega,fun i i0 i1=>?_⟩
 unfold cz at h1
 cases hr:fE tables plan with
 | none=>rw[hr] at h1;cases h1
 | some st=>
  have:=BA plan ([],[]) st hr i i0 i1
  simpa using this
theorem pT (plan:List ag.D) (k:Int) (u:List Bool):(eg plan k u).length=u.length:=by
 unfold eg
 cases (nth (t:=.bool) u k&&!decide ((nth (t:=ag) plan k).1=(1:Int)))
 ·rfl
 ·cases two (nth (t:=ag) plan k).1<;>simp
theorem xC {σ:Type} {g:Int->σ->σ} {I:σ->Prop} (h:∀k u,I u->I (g k u)):∀(n:Nat) (u:σ),I u->I (jM g n u)
 | 0,_,hu=>hu
 | n+1,u,hu=>xC h n _ (h _ _ hu)
theorem BV (plan:List ag.D):(gY plan).length=plan.length:=by
 unfold gY
 exact xC (I:=fun u:List Bool=>u.length=plan.length) (fun k u hu=>by rw[pT,hu]) _ _ (by simp)
theorem II {to:List Int} {s:ag.D} (h:Sm ag s):Sm ag (ren to s):=⟨trivial,trivial,trivial,h.2.2.2⟩
theorem DV {plan:List ag.D} {need:List Bool} (hs:Sm (.sl ag) plan) {st:List Int×List ag.D} {k:Int} (k0:0<=k)
  (h:st.1.length=plan.length/\(st.2.length:Int)<=k/\∀s∈st.2,Sm ag s):(cr plan need st k).1.length=plan.length/\((cr plan need st k).2.length:Int)<=k+1/\∀s∈(cr plan need st k).2,Sm ag s:=by
 obtain⟨h1,h2,h3⟩:=h
 unfold cr
 cases nth (t:=.bool) need k with
 | false=>exact⟨h1,by show (st.2.length:Int)<=k+1;omega,h3⟩
 | true=>
  refine⟨by simp[h1],by simp;omega,fun s hm=>?_⟩
  rcases List.mem_append.1 hm with hm | hm
  ·exact h3 s hm
  ·cases List.mem_singleton.1 hm
   exact II (aO hs k)
theorem Es {plan:List ag.D} (hs:Sm (.sl ag) plan) (need:List Bool):∀(n:Nat) (i:Int) (st:List Int×List ag.D),(plan.length:Int)-i=n->0<=i->(st.1.length=plan.length/\(st.2.length:Int)<=i/\∀s∈st.2,Sm ag s) →
  Sm (.sl ag) ((aN i (plan.length:Int)).foldl (cr plan need) st).2
 | 0,i,st,hn,h0,h=>by
  rw[cD (by omega)]
  have:=hs.1
  refine⟨?_,h.2.2⟩
  have h2:=h.2.1
  show st.2.length<=1048576
  omega
 | n+1,i,st,hn,h0,h=>by
  rw[ep (by omega),List.foldl_cons]
  exact Es hs need n (i+1) _ (by omega) (by omega) (DV hs h0 h)
theorem Ke {plan:List ag.D} (hs:Sm (.sl ag) plan):Sm (.sl ag) (tidy plan):=
 Es hs _ plan.length 0 _ (by omega) (by omega) ⟨by simp,by simp,fun s h=>by cases h⟩
theorem zS {t:Ty}:∀{xss:List (List t.D)} {n:Nat},(∀x∈xss,x.length<=n)->(xss.flatten).length<=xss.length * n
 | [],n,_=>by simp
 | x::xss,n,h=>by
  have:=zS (xss:=xss) (fun y hy=>h y (by simp[hy]))
  have h1:=h x (by simp)
  rw[List.flatten_cons,List.length_append,List.length_cons,Nat.succ_mul]
  omega
end M
end Go.AE
end
