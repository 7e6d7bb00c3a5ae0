/- Rows of plans with guards are those of the plan on the tables that are seen: plain Lean. -/
import Derived.Test.YtjakcjmjlfdeoaaGreatAeMD
namespace Go.AE
open Go Go.RowKit
set_option linter.unusedVariables false
def M.cX (tables:List aq.D) (guards:List aB.D) (plan:List ah.D):List (List aa.D)×Bool:=cond (M.bn tables guards plan).2 (M.cO tables (M.bn tables guards plan).1,true) ([],false)
namespace M
theorem Dt {tables:List aq.D} {guards:List aB.D} (h:bB tables guards=true):guards.Pairwise fun a b=>a.1<b.1:=by
 unfold bB at h
 obtain⟨_,h2⟩:=Bool.and_eq_true_iff.1 h
 have at_:∀k:Nat,∀hk:k<guards.length,nth (t:=aB) guards (k:Int)=guards[k]:=by
  intro k hk
  rw[oI (t:=aB) (by omega) (by omega)]
  rfl
 have step:∀k:Nat,∀hk:k+1<guards.length,(guards[k]'(by omega)).1<guards[k+1].1:=by
  intro k hk
  have:=List.all_eq_true.1 h2 ((k+1:Nat):Int) (fz.2 ⟨by omega,by omega⟩)
  unfold kH at this
  have q:=(Bool.and_eq_true_iff.1 (Bool.and_eq_true_iff.1 this).2).2
  rw[decide_eq_true (show (0:Int)<((k+1:Nat):Int) by omega),show ((k+1:Nat):Int)-1=(k:Int) by omega,at_ k (by omega),at_ (k+1) hk] at q
  simpa using q
 have all:∀d k:Nat,∀hk:k+1+d<guards.length,(guards[k]'(by omega)).1<guards[k+1+d].1:=by
  intro d
  induction d with
  | zero=>exact fun k hk=>step k hk
  | succ d ih=>exact fun k hk=>Int.lt_trans (ih k (by omega)) (step (k+1+d) hk)
 rw[List.pairwise_iff_getElem]
 intro i j hi hj hij
 have:=all (j-i-1) i (by omega)
 have e:i+1+(j-i-1)=j:=by omega
 simp only[e] at this
 exact this
theorem BN:∀(gs:List aB.D) (v:List aq.D),gs.Pairwise (fun a b=>a.1<b.1)->(∀g∈gs,0<=g.1/\g.1<(v.length:Int))->(gs.foldl eI v).length=v.length/\∀i:Int,0<=i →
  nth (t:=aq) (gs.foldl eI v) i=cond (guardOf gs i).2 ((nth (t:=aq) v i).1,List.filter (fun r=>holds r (guardOf gs i).1) (nth (t:=aq) v i).2.1,()) (nth (t:=aq) v i)
 | [],v,_,_=>⟨rfl,fun i _=>rfl⟩
 | g::gs,v,hp,hr=>by
  obtain⟨hg,hp⟩:=List.pairwise_cons.1 hp
  obtain⟨g0,g1⟩:=hr g List.mem_cons_self
  have hl:(eI v g).length=v.length:=by unfold eI;simp
  obtain⟨l,ih⟩:=BN gs (eI v g) hp (fun x hx=>by rw[hl];exact hr x (List.mem_cons_of_mem _ hx))
  refine⟨by rw[List.foldl_cons,l,hl],fun i i0=>?_⟩
  rw[List.foldl_cons,ih i i0]
  by_cases e:g.1=i
  ·have hn:gs.find? (fun x:aB.D=>decide (x.1=i))=none:=by
    rw[List.find?_eq_none]
    intro x hx
    have:=hg x hx
    simp only[decide_eq_true_eq]
    exact fun q=>absurd (e.trans q.symm) (Int.ne_of_lt this)
   have h1:guardOf gs i=([],false):=by unfold guardOf;rw[hn]
   have h2:guardOf (g::gs) i=(g.2.1,true):=by unfold guardOf;rw[List.find?_cons_of_pos (by simpa using e)]
   rw[h1,h2]
   subst e
   simp only[cond_false,cond_true]
   unfold eI
   rw[Ch g0 g1]
  ·have h1:guardOf (g::gs) i=guardOf gs i:=by unfold guardOf;rw[List.find?_cons_of_neg (by simpa using e)]
   have h2:nth (t:=aq) (eI v g) i=nth (t:=aq) v i:=by
    unfold eI
    exact qw (t:=aq) g0 i0 e
   rw[h1,h2]
theorem ni {tables:List aq.D} {guards:List aB.D} (h:bB tables guards=true):(aX tables guards).length=tables.length/\∀i:Int,0<=i →
  nth (t:=aq) (aX tables guards) i=cond (guardOf guards i).2 ((nth (t:=aq) tables i).1,List.filter (fun r=>holds r (guardOf guards i).1) (nth (t:=aq) tables i).2.1,()) (nth (t:=aq) tables i):=by
 unfold aX
 rw[h]
 exact BN guards tables (Dt h) (fun g hg=>(nq h hg).1)
theorem wM {tables:List aq.D} {guards:List aB.D} (h:bB tables guards=true) {i:Int} (h0:0<=i):(nth (t:=aq) (aX tables guards) i).1=(nth (t:=aq) tables i).1:=by
 rw[(ni h).2 i h0]
 cases (guardOf guards i).2<;>rfl
theorem wN {tables:List aq.D} {guards:List aB.D} (h:bB tables guards=true) {i:Int} (h0:0<=i):(nth (t:=aq) (aX tables guards) i).2.1=cond (guardOf guards i).2 (List.filter (fun r=>holds r (guardOf guards i).1) (nth (t:=aq) tables i).2.1) (nth (t:=aq) tables i).2.1:=by
 rw[(ni h).2 i h0]
 cases (guardOf guards i).2<;>rfl
theorem Fo {tables:List aq.D} {guards:List aB.D} (h:bB tables guards=true):bT (aX tables guards)=true:=by
 have ht:bT tables=true:=(Bool.and_eq_true_iff.1 h).1
 have hl:=(ni h).1
 unfold bT at ht ⊢
 obtain⟨t1,t2⟩:=Bool.and_eq_true_iff.1 ht
 rw[hl,t1,Bool.true_and]
 refine List.all_eq_true.2 fun t hm=>?_
 obtain⟨k,hk,e⟩:=List.getElem_of_mem hm
 have hn:nth (t:=aq) (aX tables guards) (k:Int)=t:=by
  rw[oI (t:=aq) (by omega) (by omega)]
  exact e
 have hm':=iQ (t:=aq) (xs:=tables) (i:=(k:Int)) (by omega) (by omega)
 have ho:=List.all_eq_true.1 t2 _ hm'
 have hc:=wM h (i:=(k:Int)) (by omega)
 have hr:=wN h (i:=(k:Int)) (by omega)
 rw[hn] at hc hr
 unfold cZ gA at ho ⊢
 rw[hc,hr]
 obtain⟨o1,o2⟩:=Bool.and_eq_true_iff.1 ho
 obtain⟨o2,o3⟩:=Bool.and_eq_true_iff.1 o2
 cases (guardOf guards (k:Int)).2 with
 | false=>exact ho
 | true=>
  have o1:=of_decide_eq_true o1
  rw[cond_true,o2,Bool.true_and,decide_eq_true (Nat.le_trans (List.length_filter_le _ _) o1),Bool.true_and]
  exact List.all_eq_true.2 fun r hr=>List.all_eq_true.1 o3 r (List.mem_filter.1 hr).1
theorem AY {tables:List aq.D} {guards:List aB.D} (h:bB tables guards=true) (ahead:List (List ag.D)) (s:ah.D):bO (aX tables guards) ahead s=bO tables ahead s:=by
 unfold bO
 rw[(ni h).1]
 by_cases h0:0<=s.2.2.2.1
 ·rw[wM h h0]
 ·have:inR s.2.2.2.1 0 ((tables.length:Int)-1)=false:=by
   unfold inR
   rw[decide_eq_false h0]
   rfl
  rw[this]
  rfl
theorem xB {tables:List aq.D} {guards:List aB.D} (h:bB tables guards=true) (plan:List ah.D):bK (aX tables guards) plan=bK tables plan:=by
 have e:bC (aX tables guards)=bC tables:=by
  funext st s
  unfold bC
  rw[AY h]
 unfold bK cT jf
 rw[e,Fo h,(Bool.and_eq_true_iff.1 h).1]
theorem BE {tables:List aq.D} {guards:List aB.D} (hg:bB tables guards=true) {plan:List ah.D} (hrf:∀i:Int,0<=i->i<(plan.length:Int)->nK i (nth (t:=ah) plan i))
  (hT:∀i:Int,0<=i->i<(plan.length:Int)->(nth (t:=ah) plan i).1=(1:Int)->0<=(nth (t:=ah) plan i).2.2.2.1) :
  ∀(n:Nat),n<=plan.length->∃v,(aV 0 (n:Int)).foldl (bR guards plan) ([],List.replicate plan.length (0:Int))=v/\v.2.length=plan.length ∧
   (∀j:Int,0<=j->j<(n:Int)->(0<=nth (t:=.int .i64) v.2 j/\nth (t:=.int .i64) v.2 j<(v.1.length:Int))/\nth (t:=.sl (.sl aa)) (cn tables v.1) (nth (t:=.int .i64) v.2 j)=nth (t:=.sl (.sl aa)) (cn (aX tables guards) (plan.take n)) j) ∧
   (0<n->nth (t:=.int .i64) v.2 ((n:Int)-1)=(v.1.length:Int)-1)
 | 0,_=>⟨_,rfl,by rw[ga (by omega)];simp,fun j j0 j1=>by omega,fun h=>by omega⟩
 | n+1,hl=>by
  obtain⟨v,e,hvl,hS,_⟩:=BE hg hrf hT n (by omega)
  have hfold:(aV 0 ((n+1:Nat):Int)).foldl (bR guards plan) ([],List.replicate plan.length (0:Int))=bR guards plan v (n:Int):=by
   rw[DE,List.foldl_append,e]
   rfl
  have hlt:n<plan.length:=by omega
  have hlen:(cn (aX tables guards) (plan.take n)).length=n:=by rw[xA,List.length_take];omega
  have hlenv:=xA tables v.1
  rw[hfold,take_one hlt,pZ]
  have hin:=hrf (n:Int) (by omega) (by omega)
  have hts:=hT (n:Int) (by omega) (by omega)
  have hstep:bR guards plan v (n:Int)=(kR guards (dS v (nth (t:=ah) plan (n:Int))) (nth (t:=ah) plan (n:Int)),v.2.set n (((kR guards (dS v (nth (t:=ah) plan (n:Int))) (nth (t:=ah) plan (n:Int))).length:Int)-1)):=rfl
  rw[hstep]
  obtain⟨s,hs⟩:∃s,nth (t:=ah) plan (n:Int)=s:=⟨_,rfl⟩
  rw[hs] at hin hts ⊢
  -- the step's own rows, on the tables and on what is seen
  have hren:bP tables (cn tables v.1) (ren v.2 s)=cond (decide (s.1=(1:Int))) (nth (t:=aq) tables s.2.2.2.1).2.1 (bP (aX tables guards) (cn (aX tables guards) (plan.take n)) s):=by
   have h1:bP tables (cn tables v.1) (ren v.2 s)=bP tables (cn (aX tables guards) (plan.take n)) s:=
    DT (fun k1=>(hS _ (hin k1).1.1 (hin k1).1.2).2) (fun ht=>(hS _ (hin (GS ht)).2.1 (hin (GS ht)).2.2).2)
   rw[h1]
   unfold bP
   by_cases k1:s.1=(1:Int)
   ·rw[decide_eq_true k1]
    rfl
   ·rw[decide_eq_false k1]
    rfl
  have e1:cn tables (dS v s)=cn tables v.1++[cond (decide (s.1=(1:Int))) (nth (t:=aq) tables s.2.2.2.1).2.1 (bP (aX tables guards) (cn (aX tables guards) (plan.take n)) s)]:=by
   unfold dS
   rw[pZ,hren]
  have g1l:(dS v s).length=v.1.length+1:=by unfold dS;simp
  -- the rows at the end are those of the step on what is seen
  have hlast:nth (t:=.sl (.sl aa)) (cn tables (kR guards (dS v s) s)) (((kR guards (dS v s) s).length:Int)-1)=bP (aX tables guards) (cn (aX tables guards) (plan.take n)) s/\v.1.length<(kR guards (dS v s) s).length ∧
    ∀j:Int,0<=j->j<(v.1.length:Int)->nth (t:=.sl (.sl aa)) (cn tables (kR guards (dS v s) s)) j=nth (t:=.sl (.sl aa)) (cn tables v.1) j:=by
   have row1:s.1=(1:Int)->bP (aX tables guards) (cn (aX tables guards) (plan.take n)) s=(nth (t:=aq) (aX tables guards) s.2.2.2.1).2.1:=by
    intro k1
    unfold bP
    rw[decide_eq_true k1]
    rfl
   unfold kR
   cases hgd:(decide (s.1=(1:Int))&&(guardOf guards s.2.2.2.1).2) with
   | false=>
    simp only[cond_false]
    rw[e1,g1l]
    refine⟨?_,by omega,fun j j0 j1=>gu (t:=.sl (.sl aa)) j0 (by rw[hlenv];exact j1)⟩
    rw[eJ (t:=.sl (.sl aa)) (by rw[hlenv];omega)]
    by_cases k1:s.1=(1:Int)
    ·rw[decide_eq_true k1,Bool.true_and] at hgd
     rw[decide_eq_true k1,cond_true,row1 k1,wN hg (hts k1),hgd]
     rfl
    ·rw[decide_eq_false k1]
     rfl
   | true=>
    obtain⟨k1,hgs⟩:=Bool.and_eq_true_iff.1 hgd
    have k1':=of_decide_eq_true k1
    simp only[cond_true]
    rw[pZ,e1,k1,cond_true,row1 k1',wN hg (hts k1'),hgs,cond_true]
    refine⟨?_,by simp[g1l];omega,fun j j0 j1=>?_⟩
    ·rw[eJ (t:=.sl (.sl aa)) (by simp[g1l,hlenv])]
     have:bP tables (cn tables v.1++[(nth (t:=aq) tables s.2.2.2.1).2.1]) ((2:Int),((dS v s).length:Int)-1,(0:Int),(0:Int),(guardOf guards s.2.2.2.1).1,([]:List Int),()) =
       List.filter (fun r=>holds r (guardOf guards s.2.2.2.1).1) (nth (t:=.sl (.sl aa)) (cn tables v.1++[(nth (t:=aq) tables s.2.2.2.1).2.1]) (((dS v s).length:Int)-1)):=rfl
     rw[this,eJ (t:=.sl (.sl aa)) (by rw[g1l,hlenv];omega)]
    ·rw[List.append_assoc]
     exact gu (t:=.sl (.sl aa)) j0 (by rw[hlenv];exact j1)
  obtain⟨q1,q2,q3⟩:=hlast
  generalize kR guards (dS v s) s=o at *
  have et:nth (t:=.int .i64) (v.2.set n ((o.length:Int)-1)) (n:Int)=(o.length:Int)-1:=by
   unfold nth
   rw[List.getD_eq_getElem?_getD,List.getElem?_set]
   simp
   rw[if_pos (by omega)]
   rfl
  refine⟨_,rfl,by simp[hvl],fun j j0 j1=>?_,fun _=>?_⟩
  ·simp only
   by_cases hjn:j=(n:Int)
   ·subst hjn
    rw[et,eJ (t:=.sl (.sl aa)) (by rw[hlen])]
    have p1:(0:Int)<=(o.length:Int)-1:=by omega
    have p2:(o.length:Int)-1<(o.length:Int):=by omega
    exact⟨⟨p1,p2⟩,q1⟩
   ·have hj1:j<(n:Int):=by omega
    have et2:nth (t:=.int .i64) (v.2.set n ((o.length:Int)-1)) j=nth (t:=.int .i64) v.2 j:=by
     have:=qw (t:=.int .i64) (a:=v.2) (i:=(n:Int)) (j:=j) (z:=(o.length:Int)-1) (by omega) j0 (fun q=>hjn q.symm)
     simpa using this
    obtain⟨⟨r0,r1⟩,r2⟩:=hS j j0 hj1
    rw[et2,q3 _ r0 r1,gu (t:=.sl (.sl aa)) j0 (by rw[hlen];exact hj1)]
    exact⟨⟨r0,Int.lt_trans r1 (Int.ofNat_lt.2 q2)⟩,r2⟩
  ·simp only
   rw[show ((n+1:Nat):Int)-1=(n:Int) by omega,et]
theorem AW {tables:List aq.D} {plan:List ah.D} (h:bK tables plan=true):∀i:Int,0<=i->i<(plan.length:Int)->(nth (t:=ah) plan i).1=(1:Int)->0<=(nth (t:=ah) plan i).2.2.2.1/\(nth (t:=ah) plan i).2.2.2.1<(tables.length:Int):=by
 unfold bK at h
 obtain⟨h1,_⟩:=Bool.and_eq_true_iff.1 h
 unfold cT at h1
 cases hr:jf tables plan with
 | none=>rw[hr] at h1;cases h1
 | some r=>
  intro i i0 i1 k1
  obtain⟨st2,h7⟩:=pJ (bC tables) plan (i.toNat+1) ([],[]) r hr
  obtain⟨st1,h6⟩:=pJ (bC tables) plan i.toNat ([],[]) r hr
  rw[xj (t:=ah) (by omega),mE,h6,show ((i.toNat:Nat):Int)=i by omega] at h7
  obtain⟨c,hc,_,_⟩:=iY h7
  unfold bO at hc
  obtain⟨_,hc⟩:=aS hc
  rw[decide_eq_true k1,cond_true] at hc
  have:=(aS hc).1
  exact⟨eC this,Int.lt_of_le_sub_one (ng this)⟩
theorem vI {tables:List aq.D} {guards:List aB.D} {plan:List ah.D} (h:(bn tables guards plan).2=true) :
  bK tables (bn tables guards plan).1=true/\cO tables (bn tables guards plan).1=cO (aX tables guards) plan:=by
 unfold bn at h ⊢
 cases hb:(bB tables guards&&bK tables plan) with
 | false=>rw[hb] at h;cases h
 | true=>
  obtain⟨hg,hp⟩:=Bool.and_eq_true_iff.1 hb
  rw[hb] at h
  simp only[cond_true] at h ⊢
  have ho:=DC hg hp
  cases h6:decide (6<((grown guards plan).1.length:Int)) with
  | true=>rw[h6] at h;cases h
  | false=>
   rw[h6] at ho
   simp only[cond_false]
   refine⟨ho,?_⟩
   have hrf:=ju hp
   obtain⟨v,e,hvl,hS,hL⟩:=BE hg hrf.2 (fun i i0 i1 k1=>(AW hp i i0 i1 k1).1) plan.length (Nat.le_refl _)
   have hv:grown guards plan=v:=e
   rw[hv] at ho ⊢
   have h1:=hrf.1
   have h2:=(hS ((plan.length:Int)-1) (by omega) (by omega)).2
   rw[hL h1,List.take_length] at h2
   unfold cO
   rw[ho,xB hg,hp]
   exact h2
theorem oe {tables:List aq.D} {guards:List aB.D} (h:bB tables guards=true):bB (aX tables guards) guards=true:=by
 have h':=h
 unfold bB at h' ⊢
 obtain⟨_,h2⟩:=Bool.and_eq_true_iff.1 h'
 rw[Fo h,Bool.true_and]
 refine List.all_eq_true.2 fun i hi=>?_
 have:=List.all_eq_true.1 h2 i hi
 unfold kH at this ⊢
 have q:=eC (Bool.and_eq_true_iff.1 this).1
 rw[(ni h).1,wM h q]
 exact this
theorem vn {tables:List aq.D} {guards:List aB.D} (h:bB tables guards=true) (plan:List ah.D):bn (aX tables guards) guards plan=bn tables guards plan:=by
 unfold bn
 rw[oe h,xB h,h]
theorem Ix {t:Ty} {xs ys:List t.D} (hl:xs.length=ys.length) (h:∀i:Int,0<=i->nth (t:=t) xs i=nth (t:=t) ys i):xs=ys:=by
 refine List.ext_getElem hl fun k h1 h2=>?_
 have:=h (k:Int) (by omega)
 rw[oI (t:=t) (by omega) (by omega),oI (t:=t) (by omega) (by omega)] at this
 exact this
theorem Gj {tables:List aq.D} {guards:List aB.D} (h:bB tables guards=true):aX (aX tables guards) guards=aX tables guards:=by
 refine Ix (t:=aq) (ni (oe h)).1 fun i i0=>?_
 rw[(ni (oe h)).2 i i0,(ni h).2 i i0]
 cases (guardOf guards i).2 with
 | false=>rfl
 | true=>
  simp only[cond_true]
  rw[List.filter_filter]
  simp only[Bool.and_self]
theorem zK {tables:List aq.D} {guards:List aB.D} {plan:List ah.D} (h:(bn tables guards plan).2=true):bB tables guards=true:=by
 unfold bn at h
 cases hb:(bB tables guards&&bK tables plan) with
 | false=>rw[hb] at h;cases h
 | true=>exact(Bool.and_eq_true_iff.1 hb).1
theorem Ez {tables:List aq.D} {guards:List aB.D} {plan:List ah.D} (h:(bn tables guards plan).2=true):cX (aX tables guards) guards plan=cX tables guards plan:=by
 have hg:=zK h
 have h1:=(vI h).2
 have h2:=(vI (tables:=aX tables guards) (guards:=guards) (plan:=plan) (by rw[vn hg];exact h)).2
 unfold cX
 rw[vn hg] at h2 ⊢
 rw[h,h1,h2,Gj hg]
end M
end Go.AE
