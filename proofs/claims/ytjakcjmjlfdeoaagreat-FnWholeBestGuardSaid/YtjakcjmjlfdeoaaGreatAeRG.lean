/- Rows of plans with guards are those of the plan on the tables that are seen: plain Lean. -/
import Derived.Test.YtjakcjmjlfdeoaaGreatAeMV
namespace Go.AE
open Go Go.RowKit
set_option linter.unusedVariables false
namespace M
theorem DO {tables:List aq.D} {guards:List aL.D} (h:cF tables guards=true):guards.Pairwise fun a b=>a.1<b.1:=by
 unfold cF at h
 obtain⟨_,h2⟩:=Bool.and_eq_true_iff.1 h
 have at_:∀k:Nat,∀hk:k<guards.length,nth (t:=aL) guards (k:Int)=guards[k]:=by
  intro k hk
  rw[jH (t:=aL) (by omega) (by omega)]
  rfl
 have step:∀k:Nat,∀hk:k+1<guards.length,(guards[k]'(by omega)).1<guards[k+1].1:=by
  intro k hk
  have:=List.all_eq_true.1 h2 ((k+1:Nat):Int) (eZ.2 ⟨by omega,by omega⟩)
  unfold sG at this
  have q:=(Bool.and_eq_true_iff.1 (Bool.and_eq_true_iff.1 this).2).2
  rw[decide_eq_true (show (0:Int)<((k+1:Nat):Int) by omega),show ((k+1:Nat):Int)-1=(k:Int) by omega,at_ k (by omega),at_ (k+1) hk] at q
  simpa using q
 have all:∀d k:Nat,∀hk:k+1+d<guards.length,(guards[k]'(by omega)).1<guards[k+1+d].1:=by
  intro d
  induction d with
  | zero=>exact fun k hk=>step k hk
  | succ d ih=>exact fun k hk=>Int.lt_trans (ih k (by omega)) (step (k+1+d) hk)
 rw[List.pairwise_iff_getElem]
 intro i j hi hj hij
 have:=all (j-i-1) i (by omega)
 have e:i+1+(j-i-1)=j:=by omega
 simp only[e] at this
 exact this
theorem BO:∀(gs:List aL.D) (v:List aq.D),gs.Pairwise (fun a b=>a.1<b.1)->(∀g∈gs,0<=g.1/\g.1<(v.length:Int))->(gs.foldl fN v).length=v.length/\∀i:Int,0<=i →
  nth (t:=aq) (gs.foldl fN v) i=cond (guardOf gs i).2 ((nth (t:=aq) v i).1,List.filter (fun r=>holds r (guardOf gs i).1) (nth (t:=aq) v i).2.1,()) (nth (t:=aq) v i)
 | [],v,_,_=>⟨rfl,fun i _=>rfl⟩
 | g::gs,v,hp,hr=>by
  obtain⟨hg,hp⟩:=List.pairwise_cons.1 hp
  obtain⟨g0,g1⟩:=hr g List.mem_cons_self
  have hl:(fN v g).length=v.length:=by unfold fN;simp
  obtain⟨l,ih⟩:=BO gs (fN v g) hp (fun x hx=>by rw[hl];exact hr x (List.mem_cons_of_mem _ hx))
  refine⟨by rw[List.foldl_cons,l,hl],fun i i0=>?_⟩
  rw[List.foldl_cons,ih i i0]
  by_cases e:g.1=i
  ·have hn:gs.find? (fun x:aL.D=>decide (x.1=i))=none:=by
    rw[List.find?_eq_none]
    intro x hx
    have:=hg x hx
    simp only[decide_eq_true_eq]
    exact fun q=>absurd (e.trans q.symm) (Int.ne_of_lt this)
   have h1:guardOf gs i=([],false):=by unfold guardOf;rw[hn]
   have h2:guardOf (g::gs) i=(g.2.1,true):=by unfold guardOf;rw[List.find?_cons_of_pos (by simpa using e)]
   rw[h1,h2]
   subst e
   simp only[cond_false,cond_true]
   unfold fN
   rw[CB g0 g1]
  ·have h1:guardOf (g::gs) i=guardOf gs i:=by unfold guardOf;rw[List.find?_cons_of_neg (by simpa using e)]
   have h2:nth (t:=aq) (fN v g) i=nth (t:=aq) v i:=by
    unfold fN
    exact eI (t:=aq) g0 i0 e
   rw[h1,h2]
theorem yK {tables:List aq.D} {guards:List aL.D} (h:cF tables guards=true):(bR tables guards).length=tables.length/\∀i:Int,0<=i →
  nth (t:=aq) (bR tables guards) i=cond (guardOf guards i).2 ((nth (t:=aq) tables i).1,List.filter (fun r=>holds r (guardOf guards i).1) (nth (t:=aq) tables i).2.1,()) (nth (t:=aq) tables i):=by
 unfold bR
 rw[h]
 exact BO guards tables (DO h) (fun g hg=>(xJ h hg).1)
theorem Cd {tables:List aq.D} {guards:List aL.D} (h:cF tables guards=true) {i:Int} (h0:0<=i):(nth (t:=aq) (bR tables guards) i).1=(nth (t:=aq) tables i).1:=by
 rw[(yK h).2 i h0]
 cases (guardOf guards i).2<;>rfl
theorem wO {tables:List aq.D} {guards:List aL.D} (h:cF tables guards=true) {i:Int} (h0:0<=i):(nth (t:=aq) (bR tables guards) i).2.1=cond (guardOf guards i).2 (List.filter (fun r=>holds r (guardOf guards i).1) (nth (t:=aq) tables i).2.1) (nth (t:=aq) tables i).2.1:=by
 rw[(yK h).2 i h0]
 cases (guardOf guards i).2<;>rfl
theorem JS {tables:List aq.D} {guards:List aL.D} (h:cF tables guards=true):cm (bR tables guards)=true:=by
 have ht:cm tables=true:=(Bool.and_eq_true_iff.1 h).1
 have hl:=(yK h).1
 unfold cm at ht ⊢
 obtain⟨t1,t2⟩:=Bool.and_eq_true_iff.1 ht
 rw[hl,t1,Bool.true_and]
 refine List.all_eq_true.2 fun t hm=>?_
 obtain⟨k,hk,e⟩:=List.getElem_of_mem hm
 have hn:nth (t:=aq) (bR tables guards) (k:Int)=t:=by
  rw[jH (t:=aq) (by omega) (by omega)]
  exact e
 have hm':=jG (t:=aq) (xs:=tables) (i:=(k:Int)) (by omega) (by omega)
 have ho:=List.all_eq_true.1 t2 _ hm'
 have hc:=Cd h (i:=(k:Int)) (by omega)
 have hr:=wO h (i:=(k:Int)) (by omega)
 rw[hn] at hc hr
 unfold dU kR at ho ⊢
 rw[hc,hr]
 obtain⟨o1,o2⟩:=Bool.and_eq_true_iff.1 ho
 obtain⟨o2,o3⟩:=Bool.and_eq_true_iff.1 o2
 cases (guardOf guards (k:Int)).2 with
 | false=>exact ho
 | true=>
  have o1:=of_decide_eq_true o1
  rw[cond_true,o2,Bool.true_and,decide_eq_true (Nat.le_trans (List.length_filter_le _ _) o1),Bool.true_and]
  exact List.all_eq_true.2 fun r hr=>List.all_eq_true.1 o3 r (List.mem_filter.1 hr).1
theorem Bf {tables:List aq.D} {guards:List aL.D} (h:cF tables guards=true) (ahead:List (List ai.D)) (s:ag.D):aV (bR tables guards) ahead s=aV tables ahead s:=by
 unfold aV
 rw[(yK h).1]
 by_cases h0:0<=s.2.2.2.1
 ·rw[Cd h h0]
 ·have:inR s.2.2.2.1 0 ((tables.length:Int)-1)=false:=by
   unfold inR
   rw[decide_eq_false h0]
   rfl
  rw[this]
  rfl
theorem Dw {tables:List aq.D} {guards:List aL.D} (h:cF tables guards=true) (plan:List ag.D):aW (bR tables guards) plan=aW tables plan:=by
 have e:aS (bR tables guards)=aS tables:=by
  funext st s
  unfold aS
  rw[Bf h]
 unfold aW cz fE
 rw[e,JS h,(Bool.and_eq_true_iff.1 h).1]
theorem BJ {tables:List aq.D} {guards:List aL.D} (hg:cF tables guards=true) {plan:List ag.D} (hrf:∀i:Int,0<=i->i<(plan.length:Int)->gd i (nth (t:=ag) plan i))
  (hT:∀i:Int,0<=i->i<(plan.length:Int)->(nth (t:=ag) plan i).1=(1:Int)->0<=(nth (t:=ag) plan i).2.2.2.1) :
  ∀(n:Nat),n<=plan.length->∃v,(aN 0 (n:Int)).foldl (ct guards plan) ([],List.replicate plan.length (0:Int))=v/\v.2.length=plan.length ∧
   (∀j:Int,0<=j->j<(n:Int)->(0<=nth (t:=.int .i64) v.2 j/\nth (t:=.int .i64) v.2 j<(v.1.length:Int))/\nth (t:=.sl (.sl aa)) (aZ tables v.1) (nth (t:=.int .i64) v.2 j)=nth (t:=.sl (.sl aa)) (aZ (bR tables guards) (plan.take n)) j) ∧
   (0<n->nth (t:=.int .i64) v.2 ((n:Int)-1)=(v.1.length:Int)-1)
 | 0,_=>⟨_,rfl,by rw[cD (by omega)];simp,fun j j0 j1=>by omega,fun h=>by omega⟩
 | n+1,hl=>by
  obtain⟨v,e,hvl,hS,_⟩:=BJ hg hrf hT n (by omega)
  have hfold:(aN 0 ((n+1:Nat):Int)).foldl (ct guards plan) ([],List.replicate plan.length (0:Int))=ct guards plan v (n:Int):=by
   rw[xM,List.foldl_append,e]
   rfl
  have hlt:n<plan.length:=by omega
  have hlen:(aZ (bR tables guards) (plan.take n)).length=n:=by rw[jA,List.length_take];omega
  have hlenv:=jA tables v.1
  rw[hfold,take_one hlt,iD]
  have hin:=hrf (n:Int) (by omega) (by omega)
  have hts:=hT (n:Int) (by omega) (by omega)
  have hstep:ct guards plan v (n:Int)=(me guards (eS v (nth (t:=ag) plan (n:Int))) (nth (t:=ag) plan (n:Int)),v.2.set n (((me guards (eS v (nth (t:=ag) plan (n:Int))) (nth (t:=ag) plan (n:Int))).length:Int)-1)):=rfl
  rw[hstep]
  obtain⟨s,hs⟩:∃s,nth (t:=ag) plan (n:Int)=s:=⟨_,rfl⟩
  rw[hs] at hin hts ⊢
  -- the step's own rows, on the tables and on what is seen
  have hren:bt tables (aZ tables v.1) (ren v.2 s)=cond (decide (s.1=(1:Int))) (nth (t:=aq) tables s.2.2.2.1).2.1 (bt (bR tables guards) (aZ (bR tables guards) (plan.take n)) s):=by
   have h1:bt tables (aZ tables v.1) (ren v.2 s)=bt tables (aZ (bR tables guards) (plan.take n)) s:=
    xo (fun k1=>(hS _ (hin k1).1.1 (hin k1).1.2).2) (fun ht=>(hS _ (hin (rY ht)).2.1 (hin (rY ht)).2.2).2)
   rw[h1]
   unfold bt
   by_cases k1:s.1=(1:Int)
   ·rw[decide_eq_true k1]
    rfl
   ·rw[decide_eq_false k1]
    rfl
  have e1:aZ tables (eS v s)=aZ tables v.1++[cond (decide (s.1=(1:Int))) (nth (t:=aq) tables s.2.2.2.1).2.1 (bt (bR tables guards) (aZ (bR tables guards) (plan.take n)) s)]:=by
   unfold eS
   rw[iD,hren]
  have g1l:(eS v s).length=v.1.length+1:=by unfold eS;simp
  -- the rows at the end are those of the step on what is seen
  have hlast:nth (t:=.sl (.sl aa)) (aZ tables (me guards (eS v s) s)) (((me guards (eS v s) s).length:Int)-1)=bt (bR tables guards) (aZ (bR tables guards) (plan.take n)) s/\v.1.length<(me guards (eS v s) s).length ∧
    ∀j:Int,0<=j->j<(v.1.length:Int)->nth (t:=.sl (.sl aa)) (aZ tables (me guards (eS v s) s)) j=nth (t:=.sl (.sl aa)) (aZ tables v.1) j:=by
   have row1:s.1=(1:Int)->bt (bR tables guards) (aZ (bR tables guards) (plan.take n)) s=(nth (t:=aq) (bR tables guards) s.2.2.2.1).2.1:=by
    intro k1
    unfold bt
    rw[decide_eq_true k1]
    rfl
   unfold me
   cases hgd:(decide (s.1=(1:Int))&&(guardOf guards s.2.2.2.1).2) with
   | false=>
    simp only[cond_false]
    rw[e1,g1l]
    refine⟨?_,by omega,fun j j0 j1=>cw (t:=.sl (.sl aa)) j0 (by rw[hlenv];exact j1)⟩
    rw[cL (t:=.sl (.sl aa)) (by rw[hlenv];omega)]
    by_cases k1:s.1=(1:Int)
    ·rw[decide_eq_true k1,Bool.true_and] at hgd
     rw[decide_eq_true k1,cond_true,row1 k1,wO hg (hts k1),hgd]
     rfl
    ·rw[decide_eq_false k1]
     rfl
   | true=>
    obtain⟨k1,hgs⟩:=Bool.and_eq_true_iff.1 hgd
    have k1':=of_decide_eq_true k1
    simp only[cond_true]
    rw[iD,e1,k1,cond_true,row1 k1',wO hg (hts k1'),hgs,cond_true]
    refine⟨?_,by simp[g1l];omega,fun j j0 j1=>?_⟩
    ·rw[cL (t:=.sl (.sl aa)) (by simp[g1l,hlenv])]
     have:bt tables (aZ tables v.1++[(nth (t:=aq) tables s.2.2.2.1).2.1]) ((2:Int),((eS v s).length:Int)-1,(0:Int),(0:Int),(guardOf guards s.2.2.2.1).1,([]:List Int),()) =
       List.filter (fun r=>holds r (guardOf guards s.2.2.2.1).1) (nth (t:=.sl (.sl aa)) (aZ tables v.1++[(nth (t:=aq) tables s.2.2.2.1).2.1]) (((eS v s).length:Int)-1)):=rfl
     rw[this,cL (t:=.sl (.sl aa)) (by rw[g1l,hlenv];omega)]
    ·rw[List.append_assoc]
     exact cw (t:=.sl (.sl aa)) j0 (by rw[hlenv];exact j1)
  obtain⟨q1,q2,q3⟩:=hlast
  generalize me guards (eS v s) s=o at *
  have et:nth (t:=.int .i64) (v.2.set n ((o.length:Int)-1)) (n:Int)=(o.length:Int)-1:=by
   unfold nth
   rw[List.getD_eq_getElem?_getD,List.getElem?_set]
   simp
   rw[if_pos (by omega)]
   rfl
  refine⟨_,rfl,by simp[hvl],fun j j0 j1=>?_,fun _=>?_⟩
  ·simp only
   by_cases hjn:j=(n:Int)
   ·subst hjn
    rw[et,cL (t:=.sl (.sl aa)) (by rw[hlen])]
    have p1:(0:Int)<=(o.length:Int)-1:=by omega
    have p2:(o.length:Int)-1<(o.length:Int):=by omega
    exact⟨⟨p1,p2⟩,q1⟩
   ·have hj1:j<(n:Int):=by omega
    have et2:nth (t:=.int .i64) (v.2.set n ((o.length:Int)-1)) j=nth (t:=.int .i64) v.2 j:=by
     have:=eI (t:=.int .i64) (a:=v.2) (i:=(n:Int)) (j:=j) (z:=(o.length:Int)-1) (by omega) j0 (fun q=>hjn q.symm)
     simpa using this
    obtain⟨⟨r0,r1⟩,r2⟩:=hS j j0 hj1
    rw[et2,q3 _ r0 r1,cw (t:=.sl (.sl aa)) j0 (by rw[hlen];exact hj1)]
    exact⟨⟨r0,Int.lt_trans r1 (Int.ofNat_lt.2 q2)⟩,r2⟩
  ·simp only
   rw[show ((n+1:Nat):Int)-1=(n:Int) by omega,et]
theorem Ba {tables:List aq.D} {plan:List ag.D} (h:aW tables plan=true):∀i:Int,0<=i->i<(plan.length:Int)->(nth (t:=ag) plan i).1=(1:Int)->0<=(nth (t:=ag) plan i).2.2.2.1/\(nth (t:=ag) plan i).2.2.2.1<(tables.length:Int):=by
 unfold aW at h
 obtain⟨h1,_⟩:=Bool.and_eq_true_iff.1 h
 unfold cz at h1
 cases hr:fE tables plan with
 | none=>rw[hr] at h1;cases h1
 | some r=>
  intro i i0 i1 k1
  obtain⟨st2,h7⟩:=mM (aS tables) plan (i.toNat+1) ([],[]) r hr
  obtain⟨st1,h6⟩:=mM (aS tables) plan i.toNat ([],[]) r hr
  rw[sx (t:=ag) (by omega),ju,h6,show ((i.toNat:Nat):Int)=i by omega] at h7
  obtain⟨c,hc,_,_⟩:=dQ h7
  unfold aV at hc
  obtain⟨_,hc⟩:=aG hc
  rw[decide_eq_true k1,cond_true] at hc
  have:=(aG hc).1
  exact⟨eU this,Int.lt_of_le_sub_one (kW this)⟩
theorem CY {tables:List aq.D} {guards:List aL.D} {plan:List ag.D} (h:(cU tables guards plan).2=true) :
  aW tables (cU tables guards plan).1=true/\bT tables (cU tables guards plan).1=bT (bR tables guards) plan:=by
 unfold cU at h ⊢
 cases hb:(cF tables guards&&aW tables plan) with
 | false=>rw[hb] at h;cases h
 | true=>
  obtain⟨hg,hp⟩:=Bool.and_eq_true_iff.1 hb
  rw[hb] at h
  simp only[cond_true] at h ⊢
  have ho:=Jj hg hp
  cases h6:decide (6<((grown guards plan).1.length:Int)) with
  | true=>rw[h6] at h;cases h
  | false=>
   rw[h6] at ho
   simp only[cond_false]
   refine⟨ho,?_⟩
   have hrf:=dX hp
   obtain⟨v,e,hvl,hS,hL⟩:=BJ hg hrf.2 (fun i i0 i1 k1=>(Ba hp i i0 i1 k1).1) plan.length (Nat.le_refl _)
   have hv:grown guards plan=v:=e
   rw[hv] at ho ⊢
   have h1:=hrf.1
   have h2:=(hS ((plan.length:Int)-1) (by omega) (by omega)).2
   rw[hL h1,List.take_length] at h2
   unfold bT
   rw[ho,Dw hg,hp]
   exact h2
end M
end Go.AE
