/- Plans with guards: plain Lean. -/
import Derived.Test.YtjakcjmjlfdeoaaGreatAeMN
namespace Go.AE
open Go Go.RowKit
set_option linter.unusedVariables false
def M.guardOf (guards:List aB.D) (n:Int):List aC.D×Bool:=match guards.find? (fun g:aB.D=>decide (g.1=n)) with
 | some g=>(g.2.1,true)
 | none=>([],false)
def M.dS (v:List ah.D×List Int) (s:ah.D):List ah.D:=v.1++[ren v.2 s]
def M.kR (guards:List aB.D) (o:List ah.D) (s:ah.D):List ah.D:=
 cond (decide (s.1=(1:Int))&&(guardOf guards s.2.2.2.1).2) (o++[((2:Int),(o.length:Int)-1,(0:Int),(0:Int),(guardOf guards s.2.2.2.1).1,([]:List Int),())]) o
def M.bR (guards:List aB.D) (plan:List ah.D) (v:List ah.D×List Int) (k:Int):List ah.D×List Int:=
 (kR guards (dS v (nth (t:=ah) plan k)) (nth (t:=ah) plan k),v.2.set k.toNat (((kR guards (dS v (nth (t:=ah) plan k)) (nth (t:=ah) plan k)).length:Int)-1))
def M.grown (guards:List aB.D) (plan:List ah.D):List ah.D×List Int:=(aV 0 (plan.length:Int)).foldl (bR guards plan) ([],List.replicate plan.length (0:Int))
def M.bn (tables:List aq.D) (guards:List aB.D) (plan:List ah.D):List ah.D×Bool:=
 cond (bB tables guards&&bK tables plan) (cond (decide (6<((grown guards plan).1.length:Int))) ([],false) ((grown guards plan).1,true)) ([],false)
namespace M
theorem mE {σ α:Type} (g:σ->α->Option σ):∀(xs:List α) (x:α) (s:σ),cV g (xs++[x]) s=match cV g xs s with
  | some s'=>g s' x
  | none=>none
 | [],x,s=>by
  show (match g s x with | some s'=>some s' | none=>none)=_
  show _=g s x
  cases g s x<;>rfl
 | y::xs,x,s=>by
  show (match g s y with | some s'=>cV g (xs++[x]) s' | none=>none)=match (match g s y with | some s'=>cV g xs s' | none=>none) with | some s'=>g s' x | none=>none
  cases g s y with
  | none=>rfl
  | some s'=>exact mE g xs x s'
theorem pJ {σ α:Type} (g:σ->α->Option σ):∀(xs:List α) (k:Nat) (s r:σ),cV g xs s=some r->∃s',cV g (xs.take k) s=some s'
 | [],k,s,r,h=>⟨s,by simp[cV]⟩
 | x::xs,0,s,r,h=>⟨s,rfl⟩
 | x::xs,k+1,s,r,h=>by
  unfold cV at h
  cases hg:g s x with
  | none=>rw[hg] at h;cases h
  | some s1=>
   rw[hg] at h
   obtain⟨s',h'⟩:=pJ g xs k s1 r h
   refine⟨s',?_⟩
   rw[List.take_succ_cons]
   unfold cV
   rw[hg]
   exact h'
theorem gu {t:Ty} {xs ys:List t.D} {i:Int} (h0:0<=i) (h1:i<(xs.length:Int)):nth (t:=t) (xs++ys) i=nth (t:=t) xs i:=by
 unfold nth
 rw[List.getD_eq_getElem?_getD,List.getD_eq_getElem?_getD,List.getElem?_append_left (by omega)]
theorem eJ {t:Ty} {xs:List t.D} {x:t.D} {i:Int} (h:i=(xs.length:Int)):nth (t:=t) (xs++[x]) i=x:=by
 subst h
 unfold nth
 rw[List.getD_eq_getElem?_getD]
 simp
theorem AK (to:List Int) (s:ah.D):bM (ren to s)=bM s:=by
 unfold bM ren
 simp only
 cases h1:decide (s.1=(1:Int))<;>cases h2:two s.1<;>simp
def jN (st st':eW) (to:List Int) (k:Int):Prop:=(st.1.length:Int)=k/\(st.2.length:Int)=k/\st'.1.length=st'.2.length ∧
 ∀j:Int,0<=j->j<k->(0<=nth (t:=.int .i64) to j/\nth (t:=.int .i64) to j<(st'.1.length:Int))/\nth (t:=.sl ag) st'.1 (nth (t:=.int .i64) to j)=nth (t:=.sl ag) st.1 j/\nth (t:=.int .i64) st'.2 (nth (t:=.int .i64) to j)=nth (t:=.int .i64) st.2 j
theorem kF {n N:Int}:inR n 0 (N-1)=true ↔ 0<=n/\n<N:=by
 unfold inR
 simp
 omega
theorem HA {s:ah.D} (h:bM s=true) (h2:two s.1=false):s.2.2.1=(0:Int):=by
 unfold bM at h
 rw[h2] at h
 have h:=(Bool.and_eq_true_iff.1 (Bool.and_eq_true_iff.1 h).2).1
 simpa using h
theorem Hw {tables:List aq.D} {st st':eW} {to:List Int} {k:Int} {s:ah.D} {c:List ag.D} (hS:jN st st' to k) (h:bO tables st.1 s=some c) :
  bO tables st'.1 (ren to s)=some c/\aN st'.2 (ren to s)=aN st.2 s:=by
 obtain⟨l1,l2,l3,hS⟩:=hS
 have hin:=nc h
 have hf:bM s=true:=by
  unfold bO at h
  exact(aS h).1
 by_cases h1:s.1=(1:Int)
 ·have e:ren to s=s:=by
   unfold ren two
   rw[h1]
   exact Prod.ext h1.symm rfl
  rw[e]
  unfold bO at h ⊢
  unfold aN
  rw[decide_eq_true h1] at h ⊢
  exact⟨h,rfl⟩
 ·obtain⟨⟨a0,a1⟩,⟨b0,b1⟩⟩:=hin h1
  rw[l1] at a1 b1
  obtain⟨⟨ra0,ra1⟩,ra2,ra3⟩:=hS _ a0 a1
  obtain⟨⟨rb0,rb1⟩,rb2,rb3⟩:=hS _ b0 b1
  have eA:(ren to s).2.1=nth (t:=.int .i64) to s.2.1:=by
   unfold ren
   rw[decide_eq_false h1]
   rfl
  have eK:(ren to s).1=s.1:=rfl
  have eN:(ren to s).2.2.2=s.2.2.2:=rfl
  cases ht:two s.1 with
  | true=>
   have eB:(ren to s).2.2.1=nth (t:=.int .i64) to s.2.2.1:=by
    unfold ren
    rw[ht]
    rfl
   unfold bO at h ⊢
   unfold aN
   rw[AK,eK,eN,eA,eB,ra2,rb2,ra3,rb3,decide_eq_false h1,kF.2 ⟨ra0,ra1⟩,kF.2 ⟨rb0,rb1⟩]
   rw[decide_eq_false h1,kF.2 ⟨a0,by rw[l1];exact a1⟩,kF.2 ⟨b0,by rw[l1];exact b1⟩] at h
   exact⟨h,rfl⟩
  | false=>
   have eB:(ren to s).2.2.1=s.2.2.1:=by
    unfold ren
    rw[ht]
    rfl
   have hb:=HA hf ht
   have k4:decide (s.1=(4:Int))=false:=by
    unfold two at ht
    exact(Bool.or_eq_false_iff.1 ht).1
   have k5:decide (s.1=(5:Int))=false:=by
    unfold two at ht
    exact(Bool.or_eq_false_iff.1 ht).2
   have hz:inR s.2.2.1 0 ((st'.1.length:Int)-1)=true:=by
    rw[hb]
    exact kF.2 ⟨Int.le_refl _,Int.lt_of_le_of_lt ra0 ra1⟩
   unfold bO at h ⊢
   unfold aN
   rw[AK,eK,eN,eA,eB,ra2,ra3,decide_eq_false h1,kF.2 ⟨ra0,ra1⟩,hz,k4,k5]
   rw[decide_eq_false h1,kF.2 ⟨a0,by rw[l1];exact a1⟩,kF.2 ⟨b0,by rw[l1];exact b1⟩,k4,k5] at h
   exact⟨h,rfl⟩
theorem iY {tables:List aq.D} {st st':eW} {s:ah.D} (h:bC tables st s=some st') :
  ∃c,bO tables st.1 s=some c/\decide ((300:Int)<aN st.2 s)=false/\st'=(st.1++[c],st.2++[aN st.2 s]):=by
 unfold bC at h
 cases hc:bO tables st.1 s with
 | none=>rw[hc] at h;cases h
 | some c=>
  rw[hc] at h
  simp only at h
  cases hd:decide ((300:Int)<aN st.2 s) with
  | true=>rw[hd] at h;cases h
  | false=>
   rw[hd] at h
   cases h
   exact⟨c,rfl,rfl,rfl⟩
theorem uH {tables:List aq.D} {st:eW} {s:ah.D} {c:List ag.D} {m:Int} (h1:bO tables st.1 s=some c) (h2:aN st.2 s=m) (h3:decide ((300:Int)<m)=false):bC tables st s=some (st.1++[c],st.2++[m]):=by
 unfold bC
 rw[h1]
 simp only
 rw[h2,h3]
 rfl
theorem GF {tables:List aq.D} {guards:List aB.D} (hg:bB tables guards=true) {plan:List ah.D} {st st2 st':eW} {v:List ah.D×List Int} {k:Int} (k0:0<=k) (k1:k<(plan.length:Int)) (hl:v.2.length=plan.length)
  (hS:jN st st' v.2 k) (h:bC tables st (nth (t:=ah) plan k)=some st2) (h':cV (bC tables) v.1 ([],[])=some st') (hn:st'.1.length=v.1.length) :
  ∃st2',cV (bC tables) (bR guards plan v k).1 ([],[])=some st2'/\jN st2 st2' (bR guards plan v k).2 (k+1)/\st2'.1.length=(bR guards plan v k).1.length:=by
 obtain⟨c,hc,hd,rfl⟩:=iY h
 obtain⟨hc',hm'⟩:=Hw hS hc
 obtain⟨l1,l2,l3,hS⟩:=hS
 have hp:=uH hc' hm' hd
 have e1:cV (bC tables) (dS v (nth (t:=ah) plan k)) ([],[])=some (st'.1++[c],st'.2++[aN st.2 (nth (t:=ah) plan k)]):=by
  unfold dS
  rw[mE,h']
  exact hp
 -- what stands behind all of them
 have fin:∀(o:List ah.D) (su:eW),cV (bC tables) o ([],[])=some su->su.1.length=o.length->su.1.length=su.2.length->0<o.length →
   (∀j:Int,0<=j->j<(st'.1.length:Int)->nth (t:=.sl ag) su.1 j=nth (t:=.sl ag) st'.1 j/\nth (t:=.int .i64) su.2 j=nth (t:=.int .i64) st'.2 j)->st'.1.length<=su.1.length →
   nth (t:=.sl ag) su.1 ((o.length:Int)-1)=c->nth (t:=.int .i64) su.2 ((o.length:Int)-1)=aN st.2 (nth (t:=ah) plan k) →
   jN (st.1++[c],st.2++[aN st.2 (nth (t:=ah) plan k)]) su (v.2.set k.toNat ((o.length:Int)-1)) (k+1):=by
  intro o su hf hlo hlu hpos hold hle hlast hlastm
  refine⟨by simp;omega,by simp;omega,hlu,fun j j0 j1=>?_⟩
  by_cases hj:j=k
  ·subst hj
   rw[Ch (t:=.int .i64) j0 (by rw[hl];exact k1),hlast,hlastm,eJ (t:=.sl ag) l1.symm,eJ (t:=.int .i64) l2.symm]
   have p1:(0:Int)<=(o.length:Int)-1:=by omega
   have p2:(o.length:Int)-1<(su.1.length:Int):=by omega
   exact⟨⟨p1,p2⟩,rfl,rfl⟩
  ·have hjk:j<k:=by omega
   obtain⟨⟨r0,r1⟩,r2,r3⟩:=hS j j0 hjk
   rw[qw (t:=.int .i64) k0 j0 (fun e=>hj e.symm),gu (t:=.sl ag) j0 (by rw[l1];exact hjk),gu (t:=.int .i64) j0 (by rw[l2];exact hjk)]
   obtain⟨q1,q2⟩:=hold _ r0 r1
   rw[q1,q2]
   refine⟨⟨r0,?_⟩,r2,r3⟩
   have:(st'.1.length:Int)<=(su.1.length:Int):=by omega
   exact Int.lt_of_lt_of_le r1 this
 have g1l:(dS v (nth (t:=ah) plan k)).length=st'.1.length+1:=by unfold dS;simp[hn]
 unfold bR
 simp only
 unfold kR
 cases hgd:(decide ((nth (t:=ah) plan k).1=(1:Int))&&(guardOf guards (nth (t:=ah) plan k).2.2.2.1).2) with
 | false=>
  simp only[cond_false]
  refine⟨_,e1,?_,by simp[g1l]⟩
  refine fin _ _ e1 (by simp[g1l]) (by simp[l3]) (by omega) (fun j j0 j1=>⟨gu (t:=.sl ag) j0 j1,gu (t:=.int .i64) j0 (by rw[<-l3];exact j1)⟩) (by simp) ?_ ?_
  ·exact eJ (t:=.sl ag) (by rw[g1l];omega)
  ·exact eJ (t:=.int .i64) (by rw[g1l,l3];omega)
 | true=>
  simp only[cond_true]
  obtain⟨hk1,hgs⟩:=Bool.and_eq_true_iff.1 hgd
  have hk1:=of_decide_eq_true hk1
  -- the guard
  have hcol:c=(nth (t:=aq) tables (nth (t:=ah) plan k).2.2.2.1).1:=by
   unfold bO at hc
   obtain⟨_,hc⟩:=aS hc
   rw[decide_eq_true hk1,cond_true] at hc
   exact(Option.some.inj (aS hc).2).symm
  have hek:bZ c (guardOf guards (nth (t:=ah) plan k).2.2.2.1).1=3:=by
   unfold guardOf at hgs ⊢
   cases hfd:guards.find? (fun g:aB.D=>decide (g.1=(nth (t:=ah) plan k).2.2.2.1)) with
   | none=>rw[hfd] at hgs;cases hgs
   | some g=>
    have hmem:=List.mem_of_find?_eq_some hfd
    have hgn:g.1=(nth (t:=ah) plan k).2.2.2.1:=by simpa using List.find?_some hfd
    have:=(nq hg hmem).2.1
    rw[hgn,<-hcol] at this
    exact this
  have hc3:bO tables (st'.1++[c]) ((2:Int),((dS v (nth (t:=ah) plan k)).length:Int)-1,(0:Int),(0:Int),(guardOf guards (nth (t:=ah) plan k).2.2.2.1).1,([]:List Int),())=some c:=by
   have hA:inR (((dS v (nth (t:=ah) plan k)).length:Int)-1) 0 (((st'.1++[c]).length:Int)-1)=true:=kF.2 ⟨by omega,by simp;omega⟩
   have hB:inR (0:Int) 0 (((st'.1++[c]).length:Int)-1)=true:=kF.2 ⟨by omega,by simp⟩
   have hnth:nth (t:=.sl ag) (st'.1++[c]) (((dS v (nth (t:=ah) plan k)).length:Int)-1)=c:=eJ (t:=.sl ag) (by rw[g1l];omega)
   unfold bO
   simp only[hA,hB,hnth,hek,decide_true,cond_true,Bool.and_self,Int.reduceEq,decide_false,cond_false]
   unfold bM two
   simp
  have hm3:aN (st'.2++[aN st.2 (nth (t:=ah) plan k)]) ((2:Int),((dS v (nth (t:=ah) plan k)).length:Int)-1,(0:Int),(0:Int),(guardOf guards (nth (t:=ah) plan k).2.2.2.1).1,([]:List Int),())=aN st.2 (nth (t:=ah) plan k):=by
   have hnth:nth (t:=.int .i64) (st'.2++[aN st.2 (nth (t:=ah) plan k)]) (((dS v (nth (t:=ah) plan k)).length:Int)-1)=aN st.2 (nth (t:=ah) plan k):=eJ (t:=.int .i64) (by rw[g1l,l3];omega)
   rw[show aN (st'.2++[aN st.2 (nth (t:=ah) plan k)]) ((2:Int),((dS v (nth (t:=ah) plan k)).length:Int)-1,(0:Int),(0:Int),(guardOf guards (nth (t:=ah) plan k).2.2.2.1).1,([]:List Int),())=nth (t:=.int .i64) (st'.2++[aN st.2 (nth (t:=ah) plan k)]) (((dS v (nth (t:=ah) plan k)).length:Int)-1) from rfl,hnth]
  have e2:=uH (st:=(st'.1++[c],st'.2++[aN st.2 (nth (t:=ah) plan k)])) hc3 hm3 hd
  have e3:cV (bC tables) (dS v (nth (t:=ah) plan k)++[((2:Int),((dS v (nth (t:=ah) plan k)).length:Int)-1,(0:Int),(0:Int),(guardOf guards (nth (t:=ah) plan k).2.2.2.1).1,([]:List Int),())]) ([],[])=some (st'.1++[c]++[c],st'.2++[aN st.2 (nth (t:=ah) plan k)]++[aN st.2 (nth (t:=ah) plan k)]):=by
   rw[mE,e1]
   exact e2
  refine⟨_,e3,?_,by simp[g1l]⟩
  refine fin _ _ e3 (by simp[g1l]) (by simp[l3]) (by simp) (fun j j0 j1=>⟨?_,?_⟩) (by simp) ?_ ?_
  ·show nth (t:=.sl ag) (st'.1++[c]++[c]) j=_
   rw[List.append_assoc]
   exact gu (t:=.sl ag) j0 j1
  ·show nth (t:=.int .i64) (st'.2++[aN st.2 (nth (t:=ah) plan k)]++[aN st.2 (nth (t:=ah) plan k)]) j=_
   rw[List.append_assoc]
   exact gu (t:=.int .i64) j0 (by rw[<-l3];exact j1)
  ·exact eJ (t:=.sl ag) (by simp[g1l])
  ·exact eJ (t:=.int .i64) (by simp[g1l,l3])
theorem xj {t:Ty} {xs:List t.D} {k:Nat} (h:k<xs.length):xs.take (k+1)=xs.take k++[nth (t:=t) xs (k:Int)]:=by
 rw[List.take_succ_eq_append_getElem h,oI (t:=t) (by omega) (by omega)]
 rfl
theorem BV {tables:List aq.D} {guards:List aB.D} (hg:bB tables guards=true) {plan:List ah.D} {r:eW} (hr:jf tables plan=some r) :
  ∀(n:Nat),n<=plan.length->∃st st' v,(aV 0 (n:Int)).foldl (bR guards plan) ([],List.replicate plan.length (0:Int))=v/\v.2.length=plan.length/\cV (bC tables) (plan.take n) ([],[])=some st ∧
   cV (bC tables) v.1 ([],[])=some st'/\jN st st' v.2 n/\st'.1.length=v.1.length/\n<=v.1.length/\v.1.length<=2 * n
 | 0,_=>⟨([],[]),([],[]),_,rfl,by rw[ga (by omega)];simp,rfl,rfl,⟨rfl,rfl,rfl,fun j j0 j1=>by omega⟩,rfl,Nat.le_refl _,Nat.le_refl _⟩
 | n+1,hn=>by
  obtain⟨st,st',v,e,hl,h1,h2,h3,h4,h5,h6⟩:=BV hg hr n (by omega)
  obtain⟨st2,h7⟩:=pJ (bC tables) plan (n+1) ([],[]) r hr
  have h8:bC tables st (nth (t:=ah) plan (n:Int))=some st2:=by
   rw[xj (t:=ah) (by omega),mE,h1] at h7
   exact h7
  obtain⟨st2',q1,q2,q3⟩:=GF hg (by omega) (by omega) hl h3 h8 h2 h4
  refine⟨st2,st2',bR guards plan v (n:Int),?_,?_,h7,q1,q2,q3,?_,?_⟩
  ·have hsn:aV 0 ((n+1:Nat):Int)=aV 0 (n:Int)++[(n:Int)]:=by
    unfold aV
    have e1:(((n+1:Nat):Int)-0).toNat=n+1:=by omega
    have e2:((n:Int)-0).toNat=n:=by omega
    rw[e1,e2,List.range_succ,List.map_append]
    simp
   rw[hsn,List.foldl_append,e]
   rfl
  ·unfold bR
   simp[hl]
  ·unfold bR kR dS
   simp only
   cases (decide ((nth (t:=ah) plan (n:Int)).1=(1:Int))&&(guardOf guards (nth (t:=ah) plan (n:Int)).2.2.2.1).2)<;>simp<;>omega
  ·unfold bR kR dS
   simp only
   cases (decide ((nth (t:=ah) plan (n:Int)).1=(1:Int))&&(guardOf guards (nth (t:=ah) plan (n:Int)).2.2.2.1).2)<;>simp<;>omega
theorem DC {tables:List aq.D} {guards:List aB.D} (hg:bB tables guards=true) {plan:List ah.D} (hp:bK tables plan=true) :
  bK tables (grown guards plan).1=!decide (6<((grown guards plan).1.length:Int)):=by
 have hp':=hp
 unfold bK at hp
 obtain⟨h1,h2⟩:=Bool.and_eq_true_iff.1 hp
 obtain⟨ht,h2⟩:=Bool.and_eq_true_iff.1 h2
 have hpos:=(ju hp').1
 unfold cT at h1
 cases hr:jf tables plan with
 | none=>rw[hr] at h1;cases h1
 | some r=>
  obtain⟨st,st',v,e,hl,_,q2,q3,q4,q5,q6⟩:=BV hg hr plan.length (Nat.le_refl _)
  have hv:(grown guards plan)=v:=e
  rw[hv]
  unfold bK cT jf
  rw[q2,ht]
  simp only[Bool.true_and]
  unfold inR
  rw[decide_eq_true (show (1:Int)<=(v.1.length:Int) by omega),Bool.true_and]
  by_cases h6:6<(v.1.length:Int)
  ·rw[decide_eq_true h6,decide_eq_false (by omega)]
   rfl
  ·rw[decide_eq_false h6,decide_eq_true (by omega)]
   rfl
theorem EI {guards:List aB.D} (h:Sm (.sl aB) guards) (n:Int):Sm (.sl aC) (guardOf guards n).1:=by
 unfold guardOf
 cases hfd:guards.find? (fun g:aB.D=>decide (g.1=n)) with
 | none=>exact fY _
 | some g=>exact(h.2 g (List.mem_of_find?_eq_some hfd)).2.1
theorem Cx {guards:List aB.D} (hgs:Sm (.sl aB) guards) {plan:List ah.D} (hs:Sm (.sl ah) plan) {v:List ah.D×List Int} {k:Int} (h:∀s∈v.1,Sm ah s):∀s∈(bR guards plan v k).1,Sm ah s:=by
 have g1:∀s∈dS v (nth (t:=ah) plan k),Sm ah s:=by
  intro s hm
  rcases List.mem_append.1 hm with hm | hm
  ·exact h s hm
  ·cases List.mem_singleton.1 hm
   exact Jm (aH hs k)
 unfold bR kR
 simp only
 cases (decide ((nth (t:=ah) plan k).1=(1:Int))&&(guardOf guards (nth (t:=ah) plan k).2.2.2.1).2) with
 | false=>exact g1
 | true=>
  intro s hm
  rcases List.mem_append.1 hm with hm | hm
  ·exact g1 s hm
  ·cases List.mem_singleton.1 hm
   exact⟨trivial,trivial,trivial,trivial,EI hgs _,fY _,trivial⟩
theorem DV {guards:List aB.D} {plan:List ah.D} {v:List ah.D×List Int} {k:Int}:((bR guards plan v k).1.length:Int)<=v.1.length+2/\(bR guards plan v k).2.length=v.2.length:=by
 unfold bR kR dS
 simp only
 cases (decide ((nth (t:=ah) plan k).1=(1:Int))&&(guardOf guards (nth (t:=ah) plan k).2.2.2.1).2)<;>simp
theorem tU {tables:List aq.D} {guards:List aB.D} (hgs:Sm (.sl aB) guards) {plan:List ah.D} (hs:Sm (.sl ah) plan):Sm (.sl ah) (bn tables guards plan).1:=by
 unfold bn
 cases (bB tables guards&&bK tables plan) with
 | false=>exact fY _
 | true=>
  simp only[cond_true]
  by_cases h6:6<((grown guards plan).1.length:Int)
  ·rw[decide_eq_true h6]
   exact fY _
  ·rw[decide_eq_false h6]
   refine⟨?_,?_⟩
   ·show (grown guards plan).1.length<=1048576
    omega
   ·have key:∀(l:List Int) (v:List ah.D×List Int),(∀s∈v.1,Sm ah s)->∀s∈(l.foldl (bR guards plan) v).1,Sm ah s:=by
     intro l
     induction l with
     | nil=>intro v h;exact h
     | cons x l ih=>intro v h;exact ih _ (Cx hgs hs h)
    exact key _ _ (fun s h=>by cases h)
end M
end Go.AE
namespace Go.AE
open Go Go.RowKit
theorem M.Dc {tables:List aq.D} {plan:List ah.D} (h:bK tables plan=true):plan.length<=6:=by
 unfold bK at h
 obtain⟨_,h⟩:=Bool.and_eq_true_iff.1 h
 obtain⟨_,h⟩:=Bool.and_eq_true_iff.1 h
 unfold inR at h
 simp at h
 omega
theorem M.GD (guards:List aB.D) (n:Int):(∃g∈guards,guardOf guards n=(g.2.1,true)/\0<=idx (t:=aB) (fun g=>decide (g.1=n)) guards/\idx (t:=aB) (fun g=>decide (g.1=n)) guards<(guards.length:Int)/\nth (t:=aB) guards (idx (t:=aB) (fun g=>decide (g.1=n)) guards)=g) ∨
  (guardOf guards n=([],false)/\idx (t:=aB) (fun g=>decide (g.1=n)) guards=-1):=by
 unfold guardOf idx
 cases hf:guards.findIdx? (fun g:aB.D=>decide (g.1=n)) with
 | none=>
  right
  have:guards.find? (fun g:aB.D=>decide (g.1=n))=none:=by
   rw[List.findIdx?_eq_none_iff] at hf
   rw[List.find?_eq_none]
   intro x hx
   simpa using hf x hx
  rw[this]
  exact⟨rfl,rfl⟩
 | some k=>
  left
  obtain⟨hk,hp,hq⟩:=List.findIdx?_eq_some_iff_getElem.1 hf
  have hfind:guards.find? (fun g:aB.D=>decide (g.1=n))=some guards[k]:=by
   rw[List.find?_eq_some_iff_getElem]
   exact⟨hp,k,hk,rfl,fun j hj=>by simpa using hq j hj⟩
  refine⟨guards[k],List.getElem_mem hk,by rw[hfind],by simp,by simpa using hk,?_⟩
  simp only
  rw[oI (t:=aB) (by omega) (by omega)]
  rfl
end Go.AE
