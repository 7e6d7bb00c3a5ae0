/- Plans with guards: plain Lean. -/
import Derived.Test.YtjakcjmjlfdeoaaGreatAeMN
namespace Go.AE
open Go Go.RowKit
set_option linter.unusedVariables false
def M.guardOf (guards:List aL.D) (n:Int):List az.D×Bool:=match guards.find? (fun g:aL.D=>decide (g.1=n)) with
 | some g=>(g.2.1,true)
 | none=>([],false)
def M.eS (v:List ag.D×List Int) (s:ag.D):List ag.D:=v.1++[ren v.2 s]
def M.me (guards:List aL.D) (o:List ag.D) (s:ag.D):List ag.D:=
 cond (decide (s.1=(1:Int))&&(guardOf guards s.2.2.2.1).2) (o++[((2:Int),(o.length:Int)-1,(0:Int),(0:Int),(guardOf guards s.2.2.2.1).1,([]:List Int),())]) o
def M.ct (guards:List aL.D) (plan:List ag.D) (v:List ag.D×List Int) (k:Int):List ag.D×List Int:=
 (me guards (eS v (nth (t:=ag) plan k)) (nth (t:=ag) plan k),v.2.set k.toNat (((me guards (eS v (nth (t:=ag) plan k)) (nth (t:=ag) plan k)).length:Int)-1))
def M.grown (guards:List aL.D) (plan:List ag.D):List ag.D×List Int:=(aN 0 (plan.length:Int)).foldl (ct guards plan) ([],List.replicate plan.length (0:Int))
def M.cU (tables:List aq.D) (guards:List aL.D) (plan:List ag.D):List ag.D×Bool:=
 cond (cF tables guards&&aW tables plan) (cond (decide (6<((grown guards plan).1.length:Int))) ([],false) ((grown guards plan).1,true)) ([],false)
namespace M
theorem ju {σ α:Type} (g:σ->α->Option σ):∀(xs:List α) (x:α) (s:σ),cC g (xs++[x]) s=match cC g xs s with
  | some s'=>g s' x
  | none=>none
 | [],x,s=>by
  show (match g s x with | some s'=>some s' | none=>none)=_
  show _=g s x
  cases g s x<;>rfl
 | y::xs,x,s=>by
  show (match g s y with | some s'=>cC g (xs++[x]) s' | none=>none)=match (match g s y with | some s'=>cC g xs s' | none=>none) with | some s'=>g s' x | none=>none
  cases g s y with
  | none=>rfl
  | some s'=>exact ju g xs x s'
theorem mM {σ α:Type} (g:σ->α->Option σ):∀(xs:List α) (k:Nat) (s r:σ),cC g xs s=some r->∃s',cC g (xs.take k) s=some s'
 | [],k,s,r,h=>⟨s,by simp[cC]⟩
 | x::xs,0,s,r,h=>⟨s,rfl⟩
 | x::xs,k+1,s,r,h=>by
  unfold cC at h
  cases hg:g s x with
  | none=>rw[hg] at h;cases h
  | some s1=>
   rw[hg] at h
   obtain⟨s',h'⟩:=mM g xs k s1 r h
   refine⟨s',?_⟩
   rw[List.take_succ_cons]
   unfold cC
   rw[hg]
   exact h'
theorem cw {t:Ty} {xs ys:List t.D} {i:Int} (h0:0<=i) (h1:i<(xs.length:Int)):nth (t:=t) (xs++ys) i=nth (t:=t) xs i:=by
 unfold nth
 rw[List.getD_eq_getElem?_getD,List.getD_eq_getElem?_getD,List.getElem?_append_left (by omega)]
theorem cL {t:Ty} {xs:List t.D} {x:t.D} {i:Int} (h:i=(xs.length:Int)):nth (t:=t) (xs++[x]) i=x:=by
 subst h
 unfold nth
 rw[List.getD_eq_getElem?_getD]
 simp
theorem qf (to:List Int) (s:ag.D):bJ (ren to s)=bJ s:=by
 unfold bJ ren
 simp only
 cases h1:decide (s.1=(1:Int))<;>cases h2:two s.1<;>simp
def ko (st st':dy) (to:List Int) (k:Int):Prop:=(st.1.length:Int)=k/\(st.2.length:Int)=k/\st'.1.length=st'.2.length ∧
 ∀j:Int,0<=j->j<k->(0<=nth (t:=.int .i64) to j/\nth (t:=.int .i64) to j<(st'.1.length:Int))/\nth (t:=.sl ai) st'.1 (nth (t:=.int .i64) to j)=nth (t:=.sl ai) st.1 j/\nth (t:=.int .i64) st'.2 (nth (t:=.int .i64) to j)=nth (t:=.int .i64) st.2 j
theorem fj {n N:Int}:inR n 0 (N-1)=true ↔ 0<=n/\n<N:=by
 unfold inR
 simp
 omega
theorem Dp {s:ag.D} (h:bJ s=true) (h2:two s.1=false):s.2.2.1=(0:Int):=by
 unfold bJ at h
 rw[h2] at h
 have h:=(Bool.and_eq_true_iff.1 (Bool.and_eq_true_iff.1 h).2).1
 simpa using h
theorem HQ {tables:List aq.D} {st st':dy} {to:List Int} {k:Int} {s:ag.D} {c:List ai.D} (hS:ko st st' to k) (h:aV tables st.1 s=some c) :
  aV tables st'.1 (ren to s)=some c/\aK st'.2 (ren to s)=aK st.2 s:=by
 obtain⟨l1,l2,l3,hS⟩:=hS
 have hin:=iz h
 have hf:bJ s=true:=by
  unfold aV at h
  exact(aG h).1
 by_cases h1:s.1=(1:Int)
 ·have e:ren to s=s:=by
   unfold ren two
   rw[h1]
   exact Prod.ext h1.symm rfl
  rw[e]
  unfold aV at h ⊢
  unfold aK
  rw[decide_eq_true h1] at h ⊢
  exact⟨h,rfl⟩
 ·obtain⟨⟨a0,a1⟩,⟨b0,b1⟩⟩:=hin h1
  rw[l1] at a1 b1
  obtain⟨⟨ra0,ra1⟩,ra2,ra3⟩:=hS _ a0 a1
  obtain⟨⟨rb0,rb1⟩,rb2,rb3⟩:=hS _ b0 b1
  have eA:(ren to s).2.1=nth (t:=.int .i64) to s.2.1:=by
   unfold ren
   rw[decide_eq_false h1]
   rfl
  have eK:(ren to s).1=s.1:=rfl
  have eN:(ren to s).2.2.2=s.2.2.2:=rfl
  cases ht:two s.1 with
  | true=>
   have eB:(ren to s).2.2.1=nth (t:=.int .i64) to s.2.2.1:=by
    unfold ren
    rw[ht]
    rfl
   unfold aV at h ⊢
   unfold aK
   rw[qf,eK,eN,eA,eB,ra2,rb2,ra3,rb3,decide_eq_false h1,fj.2 ⟨ra0,ra1⟩,fj.2 ⟨rb0,rb1⟩]
   rw[decide_eq_false h1,fj.2 ⟨a0,by rw[l1];exact a1⟩,fj.2 ⟨b0,by rw[l1];exact b1⟩] at h
   exact⟨h,rfl⟩
  | false=>
   have eB:(ren to s).2.2.1=s.2.2.1:=by
    unfold ren
    rw[ht]
    rfl
   have hb:=Dp hf ht
   have k4:decide (s.1=(4:Int))=false:=by
    unfold two at ht
    exact(Bool.or_eq_false_iff.1 ht).1
   have k5:decide (s.1=(5:Int))=false:=by
    unfold two at ht
    exact(Bool.or_eq_false_iff.1 ht).2
   have hz:inR s.2.2.1 0 ((st'.1.length:Int)-1)=true:=by
    rw[hb]
    exact fj.2 ⟨Int.le_refl _,Int.lt_of_le_of_lt ra0 ra1⟩
   unfold aV at h ⊢
   unfold aK
   rw[qf,eK,eN,eA,eB,ra2,ra3,decide_eq_false h1,fj.2 ⟨ra0,ra1⟩,hz,k4,k5]
   rw[decide_eq_false h1,fj.2 ⟨a0,by rw[l1];exact a1⟩,fj.2 ⟨b0,by rw[l1];exact b1⟩,k4,k5] at h
   exact⟨h,rfl⟩
theorem dQ {tables:List aq.D} {st st':dy} {s:ag.D} (h:aS tables st s=some st') :
  ∃c,aV tables st.1 s=some c/\decide ((300:Int)<aK st.2 s)=false/\st'=(st.1++[c],st.2++[aK st.2 s]):=by
 unfold aS at h
 cases hc:aV tables st.1 s with
 | none=>rw[hc] at h;cases h
 | some c=>
  rw[hc] at h
  simp only at h
  cases hd:decide ((300:Int)<aK st.2 s) with
  | true=>rw[hd] at h;cases h
  | false=>
   rw[hd] at h
   cases h
   exact⟨c,rfl,rfl,rfl⟩
theorem qx {tables:List aq.D} {st:dy} {s:ag.D} {c:List ai.D} {m:Int} (h1:aV tables st.1 s=some c) (h2:aK st.2 s=m) (h3:decide ((300:Int)<m)=false):aS tables st s=some (st.1++[c],st.2++[m]):=by
 unfold aS
 rw[h1]
 simp only
 rw[h2,h3]
 rfl
theorem Hj {tables:List aq.D} {guards:List aL.D} (hg:cF tables guards=true) {plan:List ag.D} {st st2 st':dy} {v:List ag.D×List Int} {k:Int} (k0:0<=k) (k1:k<(plan.length:Int)) (hl:v.2.length=plan.length)
  (hS:ko st st' v.2 k) (h:aS tables st (nth (t:=ag) plan k)=some st2) (h':cC (aS tables) v.1 ([],[])=some st') (hn:st'.1.length=v.1.length) :
  ∃st2',cC (aS tables) (ct guards plan v k).1 ([],[])=some st2'/\ko st2 st2' (ct guards plan v k).2 (k+1)/\st2'.1.length=(ct guards plan v k).1.length:=by
 obtain⟨c,hc,hd,rfl⟩:=dQ h
 obtain⟨hc',hm'⟩:=HQ hS hc
 obtain⟨l1,l2,l3,hS⟩:=hS
 have hp:=qx hc' hm' hd
 have e1:cC (aS tables) (eS v (nth (t:=ag) plan k)) ([],[])=some (st'.1++[c],st'.2++[aK st.2 (nth (t:=ag) plan k)]):=by
  unfold eS
  rw[ju,h']
  exact hp
 -- what stands behind all of them
 have fin:∀(o:List ag.D) (su:dy),cC (aS tables) o ([],[])=some su->su.1.length=o.length->su.1.length=su.2.length->0<o.length →
   (∀j:Int,0<=j->j<(st'.1.length:Int)->nth (t:=.sl ai) su.1 j=nth (t:=.sl ai) st'.1 j/\nth (t:=.int .i64) su.2 j=nth (t:=.int .i64) st'.2 j)->st'.1.length<=su.1.length →
   nth (t:=.sl ai) su.1 ((o.length:Int)-1)=c->nth (t:=.int .i64) su.2 ((o.length:Int)-1)=aK st.2 (nth (t:=ag) plan k) →
   ko (st.1++[c],st.2++[aK st.2 (nth (t:=ag) plan k)]) su (v.2.set k.toNat ((o.length:Int)-1)) (k+1):=by
  intro o su hf hlo hlu hpos hold hle hlast hlastm
  refine⟨by simp;omega,by simp;omega,hlu,fun j j0 j1=>?_⟩
  by_cases hj:j=k
  ·subst hj
   rw[CB (t:=.int .i64) j0 (by rw[hl];exact k1),hlast,hlastm,cL (t:=.sl ai) l1.symm,cL (t:=.int .i64) l2.symm]
   have p1:(0:Int)<=(o.length:Int)-1:=by omega
   have p2:(o.length:Int)-1<(su.1.length:Int):=by omega
   exact⟨⟨p1,p2⟩,rfl,rfl⟩
  ·have hjk:j<k:=by omega
   obtain⟨⟨r0,r1⟩,r2,r3⟩:=hS j j0 hjk
   rw[eI (t:=.int .i64) k0 j0 (fun e=>hj e.symm),cw (t:=.sl ai) j0 (by rw[l1];exact hjk),cw (t:=.int .i64) j0 (by rw[l2];exact hjk)]
   obtain⟨q1,q2⟩:=hold _ r0 r1
   rw[q1,q2]
   refine⟨⟨r0,?_⟩,r2,r3⟩
   have:(st'.1.length:Int)<=(su.1.length:Int):=by omega
   exact Int.lt_of_lt_of_le r1 this
 have g1l:(eS v (nth (t:=ag) plan k)).length=st'.1.length+1:=by unfold eS;simp[hn]
 unfold ct
 simp only
 unfold me
 cases hgd:(decide ((nth (t:=ag) plan k).1=(1:Int))&&(guardOf guards (nth (t:=ag) plan k).2.2.2.1).2) with
 | false=>
  simp only[cond_false]
  refine⟨_,e1,?_,by simp[g1l]⟩
  refine fin _ _ e1 (by simp[g1l]) (by simp[l3]) (by omega) (fun j j0 j1=>⟨cw (t:=.sl ai) j0 j1,cw (t:=.int .i64) j0 (by rw[<-l3];exact j1)⟩) (by simp) ?_ ?_
  ·exact cL (t:=.sl ai) (by rw[g1l];omega)
  ·exact cL (t:=.int .i64) (by rw[g1l,l3];omega)
 | true=>
  simp only[cond_true]
  obtain⟨hk1,hgs⟩:=Bool.and_eq_true_iff.1 hgd
  have hk1:=of_decide_eq_true hk1
  -- the guard
  have hcol:c=(nth (t:=aq) tables (nth (t:=ag) plan k).2.2.2.1).1:=by
   unfold aV at hc
   obtain⟨_,hc⟩:=aG hc
   rw[decide_eq_true hk1,cond_true] at hc
   exact(Option.some.inj (aG hc).2).symm
  have hek:bp c (guardOf guards (nth (t:=ag) plan k).2.2.2.1).1=3:=by
   unfold guardOf at hgs ⊢
   cases hfd:guards.find? (fun g:aL.D=>decide (g.1=(nth (t:=ag) plan k).2.2.2.1)) with
   | none=>rw[hfd] at hgs;cases hgs
   | some g=>
    have hmem:=List.mem_of_find?_eq_some hfd
    have hgn:g.1=(nth (t:=ag) plan k).2.2.2.1:=by simpa using List.find?_some hfd
    have:=(xJ hg hmem).2.1
    rw[hgn,<-hcol] at this
    exact this
  have hc3:aV tables (st'.1++[c]) ((2:Int),((eS v (nth (t:=ag) plan k)).length:Int)-1,(0:Int),(0:Int),(guardOf guards (nth (t:=ag) plan k).2.2.2.1).1,([]:List Int),())=some c:=by
   have hA:inR (((eS v (nth (t:=ag) plan k)).length:Int)-1) 0 (((st'.1++[c]).length:Int)-1)=true:=fj.2 ⟨by omega,by simp;omega⟩
   have hB:inR (0:Int) 0 (((st'.1++[c]).length:Int)-1)=true:=fj.2 ⟨by omega,by simp⟩
   have hnth:nth (t:=.sl ai) (st'.1++[c]) (((eS v (nth (t:=ag) plan k)).length:Int)-1)=c:=cL (t:=.sl ai) (by rw[g1l];omega)
   unfold aV
   simp only[hA,hB,hnth,hek,decide_true,cond_true,Bool.and_self,Int.reduceEq,decide_false,cond_false]
   unfold bJ two
   simp
  have hm3:aK (st'.2++[aK st.2 (nth (t:=ag) plan k)]) ((2:Int),((eS v (nth (t:=ag) plan k)).length:Int)-1,(0:Int),(0:Int),(guardOf guards (nth (t:=ag) plan k).2.2.2.1).1,([]:List Int),())=aK st.2 (nth (t:=ag) plan k):=by
   have hnth:nth (t:=.int .i64) (st'.2++[aK st.2 (nth (t:=ag) plan k)]) (((eS v (nth (t:=ag) plan k)).length:Int)-1)=aK st.2 (nth (t:=ag) plan k):=cL (t:=.int .i64) (by rw[g1l,l3];omega)
   rw[show aK (st'.2++[aK st.2 (nth (t:=ag) plan k)]) ((2:Int),((eS v (nth (t:=ag) plan k)).length:Int)-1,(0:Int),(0:Int),(guardOf guards (nth (t:=ag) plan k).2.2.2.1).1,([]:List Int),())=nth (t:=.int .i64) (st'.2++[aK st.2 (nth (t:=ag) plan k)]) (((eS v (nth (t:=ag) plan k)).length:Int)-1) from rfl,hnth]
  have e2:=qx (st:=(st'.1++[c],st'.2++[aK st.2 (nth (t:=ag) plan k)])) hc3 hm3 hd
  have e3:cC (aS tables) (eS v (nth (t:=ag) plan k)++[((2:Int),((eS v (nth (t:=ag) plan k)).length:Int)-1,(0:Int),(0:Int),(guardOf guards (nth (t:=ag) plan k).2.2.2.1).1,([]:List Int),())]) ([],[])=some (st'.1++[c]++[c],st'.2++[aK st.2 (nth (t:=ag) plan k)]++[aK st.2 (nth (t:=ag) plan k)]):=by
   rw[ju,e1]
   exact e2
  refine⟨_,e3,?_,by simp[g1l]⟩
  refine fin _ _ e3 (by simp[g1l]) (by simp[l3]) (by simp) (fun j j0 j1=>⟨?_,?_⟩) (by simp) ?_ ?_
  ·show nth (t:=.sl ai) (st'.1++[c]++[c]) j=_
   rw[List.append_assoc]
   exact cw (t:=.sl ai) j0 j1
  ·show nth (t:=.int .i64) (st'.2++[aK st.2 (nth (t:=ag) plan k)]++[aK st.2 (nth (t:=ag) plan k)]) j=_
   rw[List.append_assoc]
   exact cw (t:=.int .i64) j0 (by rw[<-l3];exact j1)
  ·exact cL (t:=.sl ai) (by simp[g1l])
  ·exact cL (t:=.int .i64) (by simp[g1l,l3])
theorem sx {t:Ty} {xs:List t.D} {k:Nat} (h:k<xs.length):xs.take (k+1)=xs.take k++[nth (t:=t) xs (k:Int)]:=by
 rw[List.take_succ_eq_append_getElem h,jH (t:=t) (by omega) (by omega)]
 rfl
theorem BT {tables:List aq.D} {guards:List aL.D} (hg:cF tables guards=true) {plan:List ag.D} {r:dy} (hr:fE tables plan=some r) :
  ∀(n:Nat),n<=plan.length->∃st st' v,(aN 0 (n:Int)).foldl (ct guards plan) ([],List.replicate plan.length (0:Int))=v/\v.2.length=plan.length/\cC (aS tables) (plan.take n) ([],[])=some st ∧
   cC (aS tables) v.1 ([],[])=some st'/\ko st st' v.2 n/\st'.1.length=v.1.length/\n<=v.1.length/\v.1.length<=2 * n
 | 0,_=>⟨([],[]),([],[]),_,rfl,by rw[cD (by omega)];simp,rfl,rfl,⟨rfl,rfl,rfl,fun j j0 j1=>by omega⟩,rfl,Nat.le_refl _,Nat.le_refl _⟩
 | n+1,hn=>by
  obtain⟨st,st',v,e,hl,h1,h2,h3,h4,h5,h6⟩:=BT hg hr n (by omega)
  obtain⟨st2,h7⟩:=mM (aS tables) plan (n+1) ([],[]) r hr
  have h8:aS tables st (nth (t:=ag) plan (n:Int))=some st2:=by
   rw[sx (t:=ag) (by omega),ju,h1] at h7
   exact h7
  obtain⟨st2',q1,q2,q3⟩:=Hj hg (by omega) (by omega) hl h3 h8 h2 h4
  refine⟨st2,st2',ct guards plan v (n:Int),?_,?_,h7,q1,q2,q3,?_,?_⟩
  ·have hsn:aN 0 ((n+1:Nat):Int)=aN 0 (n:Int)++[(n:Int)]:=by
    unfold aN
    have e1:(((n+1:Nat):Int)-0).toNat=n+1:=by omega
    have e2:((n:Int)-0).toNat=n:=by omega
    rw[e1,e2,List.range_succ,List.map_append]
    simp
   rw[hsn,List.foldl_append,e]
   rfl
  ·unfold ct
   simp[hl]
  ·unfold ct me eS
   simp only
   cases (decide ((nth (t:=ag) plan (n:Int)).1=(1:Int))&&(guardOf guards (nth (t:=ag) plan (n:Int)).2.2.2.1).2)<;>simp<;>omega
  ·unfold ct me eS
   simp only
   cases (decide ((nth (t:=ag) plan (n:Int)).1=(1:Int))&&(guardOf guards (nth (t:=ag) plan (n:Int)).2.2.2.1).2)<;>simp<;>omega
theorem Jj {tables:List aq.D} {guards:List aL.D} (hg:cF tables guards=true) {plan:List ag.D} (hp:aW tables plan=true) :
  aW tables (grown guards plan).1=!decide (6<((grown guards plan).1.length:Int)):=by
 have hp':=hp
 unfold aW at hp
 obtain⟨h1,h2⟩:=Bool.and_eq_true_iff.1 hp
 obtain⟨ht,h2⟩:=Bool.and_eq_true_iff.1 h2
 have hpos:=(dX hp').1
 unfold cz at h1
 cases hr:fE tables plan with
 | none=>rw[hr] at h1;cases h1
 | some r=>
  obtain⟨st,st',v,e,hl,_,q2,q3,q4,q5,q6⟩:=BT hg hr plan.length (Nat.le_refl _)
  have hv:(grown guards plan)=v:=e
  rw[hv]
  unfold aW cz fE
  rw[q2,ht]
  simp only[Bool.true_and]
  unfold inR
  rw[decide_eq_true (show (1:Int)<=(v.1.length:Int) by omega),Bool.true_and]
  by_cases h6:6<(v.1.length:Int)
  ·rw[decide_eq_true h6,decide_eq_false (by omega)]
   rfl
  ·rw[decide_eq_false h6,decide_eq_true (by omega)]
   rfl
theorem ES {guards:List aL.D} (h:Sm (.sl aL) guards) (n:Int):Sm (.sl az) (guardOf guards n).1:=by
 unfold guardOf
 cases hfd:guards.find? (fun g:aL.D=>decide (g.1=n)) with
 | none=>exact kF _
 | some g=>exact(h.2 g (List.mem_of_find?_eq_some hfd)).2.1
theorem Gn {guards:List aL.D} (hgs:Sm (.sl aL) guards) {plan:List ag.D} (hs:Sm (.sl ag) plan) {v:List ag.D×List Int} {k:Int} (h:∀s∈v.1,Sm ag s):∀s∈(ct guards plan v k).1,Sm ag s:=by
 have g1:∀s∈eS v (nth (t:=ag) plan k),Sm ag s:=by
  intro s hm
  rcases List.mem_append.1 hm with hm | hm
  ·exact h s hm
  ·cases List.mem_singleton.1 hm
   exact II (aO hs k)
 unfold ct me
 simp only
 cases (decide ((nth (t:=ag) plan k).1=(1:Int))&&(guardOf guards (nth (t:=ag) plan k).2.2.2.1).2) with
 | false=>exact g1
 | true=>
  intro s hm
  rcases List.mem_append.1 hm with hm | hm
  ·exact g1 s hm
  ·cases List.mem_singleton.1 hm
   exact⟨trivial,trivial,trivial,trivial,ES hgs _,kF _,trivial⟩
theorem Jm {guards:List aL.D} {plan:List ag.D} {v:List ag.D×List Int} {k:Int}:((ct guards plan v k).1.length:Int)<=v.1.length+2/\(ct guards plan v k).2.length=v.2.length:=by
 unfold ct me eS
 simp only
 cases (decide ((nth (t:=ag) plan k).1=(1:Int))&&(guardOf guards (nth (t:=ag) plan k).2.2.2.1).2)<;>simp
theorem Fx {tables:List aq.D} {guards:List aL.D} (hgs:Sm (.sl aL) guards) {plan:List ag.D} (hs:Sm (.sl ag) plan):Sm (.sl ag) (cU tables guards plan).1:=by
 unfold cU
 cases (cF tables guards&&aW tables plan) with
 | false=>exact kF _
 | true=>
  simp only[cond_true]
  by_cases h6:6<((grown guards plan).1.length:Int)
  ·rw[decide_eq_true h6]
   exact kF _
  ·rw[decide_eq_false h6]
   refine⟨?_,?_⟩
   ·show (grown guards plan).1.length<=1048576
    omega
   ·have key:∀(l:List Int) (v:List ag.D×List Int),(∀s∈v.1,Sm ag s)->∀s∈(l.foldl (ct guards plan) v).1,Sm ag s:=by
     intro l
     induction l with
     | nil=>intro v h;exact h
     | cons x l ih=>intro v h;exact ih _ (Gn hgs hs h)
    exact key _ _ (fun s h=>by cases h)
end M
end Go.AE
namespace Go.AE
open Go Go.RowKit
theorem M.rP {tables:List aq.D} {plan:List ag.D} (h:aW tables plan=true):plan.length<=6:=by
 unfold aW at h
 obtain⟨_,h⟩:=Bool.and_eq_true_iff.1 h
 obtain⟨_,h⟩:=Bool.and_eq_true_iff.1 h
 unfold inR at h
 simp at h
 omega
end Go.AE
