/- Rows of plans with guards are those of the plan on the tables that are seen: plain Lean. -/
import Derived.Test.YtiplhefglgpdoaaGreatAeRA
namespace Go.AE
open Go Go.RowKit
set_option linter.unusedVariables false
namespace M
theorem BN {tables:List ax.D} {guards:List az.D} (h:bH tables guards=true):guards.Pairwise fun a b=>a.1<b.1:=by
 unfold bH at h
 obtain⟨_,h2⟩:=Bool.and_eq_true_iff.1 h
 have at_:∀k:Nat,∀hk:k<guards.length,nth (t:=az) guards (k:Int)=guards[k]:=by
  intro k hk
  rw[qM (t:=az) (by omega) (by omega)]
  rfl
 have step:∀k:Nat,∀hk:k+1<guards.length,(guards[k]'(by omega)).1<guards[k+1].1:=by
  intro k hk
  have:=List.all_eq_true.1 h2 ((k+1:Nat):Int) (eY.2 ⟨by omega,by omega⟩)
  unfold lB at this
  have q:=(Bool.and_eq_true_iff.1 (Bool.and_eq_true_iff.1 this).2).2
  rw[decide_eq_true (show (0:Int)<((k+1:Nat):Int) by omega),show ((k+1:Nat):Int)-1=(k:Int) by omega,at_ k (by omega),at_ (k+1) hk] at q
  simpa using q
 have all:∀d k:Nat,∀hk:k+1+d<guards.length,(guards[k]'(by omega)).1<guards[k+1+d].1:=by
  intro d
  induction d with
  | zero=>exact fun k hk=>step k hk
  | succ d ih=>exact fun k hk=>Int.lt_trans (ih k (by omega)) (step (k+1+d) hk)
 rw[List.pairwise_iff_getElem]
 intro i j hi hj hij
 have:=all (j-i-1) i (by omega)
 have e:i+1+(j-i-1)=j:=by omega
 simp only[e] at this
 exact this
theorem zX:∀(gs:List az.D) (v:List ax.D),gs.Pairwise (fun a b=>a.1<b.1)->(∀g∈gs,0<=g.1/\g.1<(v.length:Int))->(gs.foldl eg v).length=v.length/\∀i:Int,0<=i →
  nth (t:=ax) (gs.foldl eg v) i=cond (guardOf gs i).2 ((nth (t:=ax) v i).1,List.filter (fun r=>holds r (guardOf gs i).1) (nth (t:=ax) v i).2.1,()) (nth (t:=ax) v i)
 | [],v,_,_=>⟨rfl,fun i _=>rfl⟩
 | g::gs,v,hp,hr=>by
  obtain⟨hg,hp⟩:=List.pairwise_cons.1 hp
  obtain⟨g0,g1⟩:=hr g List.mem_cons_self
  have hl:(eg v g).length=v.length:=by unfold eg;simp
  obtain⟨l,ih⟩:=zX gs (eg v g) hp (fun x hx=>by rw[hl];exact hr x (List.mem_cons_of_mem _ hx))
  refine⟨by rw[List.foldl_cons,l,hl],fun i i0=>?_⟩
  rw[List.foldl_cons,ih i i0]
  by_cases e:g.1=i
  ·have hn:gs.find? (fun x:az.D=>decide (x.1=i))=none:=by
    rw[List.find?_eq_none]
    intro x hx
    have:=hg x hx
    simp only[decide_eq_true_eq]
    exact fun q=>absurd (e.trans q.symm) (Int.ne_of_lt this)
   have h1:guardOf gs i=([],false):=by unfold guardOf;rw[hn]
   have h2:guardOf (g::gs) i=(g.2.1,true):=by unfold guardOf;rw[List.find?_cons_of_pos (by simpa using e)]
   rw[h1,h2]
   subst e
   simp only[cond_false,cond_true]
   unfold eg
   rw[AY g0 g1]
  ·have h1:guardOf (g::gs) i=guardOf gs i:=by unfold guardOf;rw[List.find?_cons_of_neg (by simpa using e)]
   have h2:nth (t:=ax) (eg v g) i=nth (t:=ax) v i:=by
    unfold eg
    exact pq (t:=ax) g0 i0 e
   rw[h1,h2]
theorem xy {tables:List ax.D} {guards:List az.D} (h:bH tables guards=true):(bf tables guards).length=tables.length/\∀i:Int,0<=i →
  nth (t:=ax) (bf tables guards) i=cond (guardOf guards i).2 ((nth (t:=ax) tables i).1,List.filter (fun r=>holds r (guardOf guards i).1) (nth (t:=ax) tables i).2.1,()) (nth (t:=ax) tables i):=by
 unfold bf
 rw[h]
 exact zX guards tables (BN h) (fun g hg=>(mY h hg).1)
theorem Ag {tables:List ax.D} {guards:List az.D} (h:bH tables guards=true) {i:Int} (h0:0<=i):(nth (t:=ax) (bf tables guards) i).1=(nth (t:=ax) tables i).1:=by
 rw[(xy h).2 i h0]
 cases (guardOf guards i).2<;>rfl
theorem vD {tables:List ax.D} {guards:List az.D} (h:bH tables guards=true) {i:Int} (h0:0<=i):(nth (t:=ax) (bf tables guards) i).2.1=cond (guardOf guards i).2 (List.filter (fun r=>holds r (guardOf guards i).1) (nth (t:=ax) tables i).2.1) (nth (t:=ax) tables i).2.1:=by
 rw[(xy h).2 i h0]
 cases (guardOf guards i).2<;>rfl
theorem Hq {tables:List ax.D} {guards:List az.D} (h:bH tables guards=true):bN (bf tables guards)=true:=by
 have ht:bN tables=true:=(Bool.and_eq_true_iff.1 h).1
 have hl:=(xy h).1
 unfold bN at ht ⊢
 obtain⟨t1,t2⟩:=Bool.and_eq_true_iff.1 ht
 rw[hl,t1,Bool.true_and]
 refine List.all_eq_true.2 fun t hm=>?_
 obtain⟨k,hk,e⟩:=List.getElem_of_mem hm
 have hn:nth (t:=ax) (bf tables guards) (k:Int)=t:=by
  rw[qM (t:=ax) (by omega) (by omega)]
  exact e
 have hm':=qi (t:=ax) (xs:=tables) (i:=(k:Int)) (by omega) (by omega)
 have ho:=List.all_eq_true.1 t2 _ hm'
 have hc:=Ag h (i:=(k:Int)) (by omega)
 have hr:=vD h (i:=(k:Int)) (by omega)
 rw[hn] at hc hr
 unfold cY gb at ho ⊢
 rw[hc,hr]
 obtain⟨o1,o2⟩:=Bool.and_eq_true_iff.1 ho
 obtain⟨o2,o3⟩:=Bool.and_eq_true_iff.1 o2
 cases (guardOf guards (k:Int)).2 with
 | false=>exact ho
 | true=>
  have o1:=of_decide_eq_true o1
  rw[cond_true,o2,Bool.true_and,decide_eq_true (Nat.le_trans (List.length_filter_le _ _) o1),Bool.true_and]
  exact List.all_eq_true.2 fun r hr=>List.all_eq_true.1 o3 r (List.mem_filter.1 hr).1
theorem zK {tables:List ax.D} {guards:List az.D} (h:bH tables guards=true) (ahead:List (List ag.D)) (s:ah.D):bJ (bf tables guards) ahead s=bJ tables ahead s:=by
 unfold bJ
 rw[(xy h).1]
 by_cases h0:0<=s.2.2.2.1
 ·rw[Ag h h0]
 ·have:inR s.2.2.2.1 0 ((tables.length:Int)-1)=false:=by
   unfold inR
   rw[decide_eq_false h0]
   rfl
  rw[this]
  rfl
theorem CQ {tables:List ax.D} {guards:List az.D} (h:bH tables guards=true) (plan:List ah.D):bQ (bf tables guards) plan=bQ tables plan:=by
 have e:br (bf tables guards)=br tables:=by
  funext st s
  unfold br
  rw[zK h]
 unfold bQ cQ iL
 rw[e,Hq h,(Bool.and_eq_true_iff.1 h).1]
theorem Al {tables:List ax.D} {guards:List az.D} (hg:bH tables guards=true) {plan:List ah.D} (hrf:∀i:Int,0<=i->i<(plan.length:Int)->ni i (nth (t:=ah) plan i))
  (hT:∀i:Int,0<=i->i<(plan.length:Int)->(nth (t:=ah) plan i).1=(1:Int)->0<=(nth (t:=ah) plan i).2.2.2.1) :
  ∀(n:Nat),n<=plan.length->∃v,(aQ 0 (n:Int)).foldl (bO guards plan) ([],List.replicate plan.length (0:Int))=v/\v.2.length=plan.length ∧
   (∀j:Int,0<=j->j<(n:Int)->(0<=nth (t:=.int .i64) v.2 j/\nth (t:=.int .i64) v.2 j<(v.1.length:Int))/\nth (t:=.sl (.sl aa)) (cw tables v.1) (nth (t:=.int .i64) v.2 j)=nth (t:=.sl (.sl aa)) (cw (bf tables guards) (plan.take n)) j) ∧
   (0<n->nth (t:=.int .i64) v.2 ((n:Int)-1)=(v.1.length:Int)-1)
 | 0,_=>⟨_,rfl,by rw[fM (by omega)];simp,fun j j0 j1=>by omega,fun h=>by omega⟩
 | n+1,hl=>by
  obtain⟨v,e,hvl,hS,_⟩:=Al hg hrf hT n (by omega)
  have hfold:(aQ 0 ((n+1:Nat):Int)).foldl (bO guards plan) ([],List.replicate plan.length (0:Int))=bO guards plan v (n:Int):=by
   rw[BM,List.foldl_append,e]
   rfl
  have hlt:n<plan.length:=by omega
  have hlen:(cw (bf tables guards) (plan.take n)).length=n:=by rw[wo,List.length_take];omega
  have hlenv:=wo tables v.1
  rw[hfold,take_one hlt,pM]
  have hin:=hrf (n:Int) (by omega) (by omega)
  have hts:=hT (n:Int) (by omega) (by omega)
  have hstep:bO guards plan v (n:Int)=(kF guards (dM v (nth (t:=ah) plan (n:Int))) (nth (t:=ah) plan (n:Int)),v.2.set n (((kF guards (dM v (nth (t:=ah) plan (n:Int))) (nth (t:=ah) plan (n:Int))).length:Int)-1)):=rfl
  rw[hstep]
  obtain⟨s,hs⟩:∃s,nth (t:=ah) plan (n:Int)=s:=⟨_,rfl⟩
  rw[hs] at hin hts ⊢
  -- the step's own rows, on the tables and on what is seen
  have hren:bZ tables (cw tables v.1) (ren v.2 s)=cond (decide (s.1=(1:Int))) (nth (t:=ax) tables s.2.2.2.1).2.1 (bZ (bf tables guards) (cw (bf tables guards) (plan.take n)) s):=by
   have h1:bZ tables (cw tables v.1) (ren v.2 s)=bZ tables (cw (bf tables guards) (plan.take n)) s:=
    BZ (fun k1=>(hS _ (hin k1).1.1 (hin k1).1.2).2) (fun ht=>(hS _ (hin (Fq ht)).2.1 (hin (Fq ht)).2.2).2)
   rw[h1]
   unfold bZ
   by_cases k1:s.1=(1:Int)
   ·rw[decide_eq_true k1]
    rfl
   ·rw[decide_eq_false k1]
    rfl
  have e1:cw tables (dM v s)=cw tables v.1++[cond (decide (s.1=(1:Int))) (nth (t:=ax) tables s.2.2.2.1).2.1 (bZ (bf tables guards) (cw (bf tables guards) (plan.take n)) s)]:=by
   unfold dM
   rw[pM,hren]
  have g1l:(dM v s).length=v.1.length+1:=by unfold dM;simp
  -- the rows at the end are those of the step on what is seen
  have hlast:nth (t:=.sl (.sl aa)) (cw tables (kF guards (dM v s) s)) (((kF guards (dM v s) s).length:Int)-1)=bZ (bf tables guards) (cw (bf tables guards) (plan.take n)) s/\v.1.length<(kF guards (dM v s) s).length ∧
    ∀j:Int,0<=j->j<(v.1.length:Int)->nth (t:=.sl (.sl aa)) (cw tables (kF guards (dM v s) s)) j=nth (t:=.sl (.sl aa)) (cw tables v.1) j:=by
   have row1:s.1=(1:Int)->bZ (bf tables guards) (cw (bf tables guards) (plan.take n)) s=(nth (t:=ax) (bf tables guards) s.2.2.2.1).2.1:=by
    intro k1
    unfold bZ
    rw[decide_eq_true k1]
    rfl
   unfold kF
   cases hgd:(decide (s.1=(1:Int))&&(guardOf guards s.2.2.2.1).2) with
   | false=>
    simp only[cond_false]
    rw[e1,g1l]
    refine⟨?_,by omega,fun j j0 j1=>fT (t:=.sl (.sl aa)) j0 (by rw[hlenv];exact j1)⟩
    rw[ee (t:=.sl (.sl aa)) (by rw[hlenv];omega)]
    by_cases k1:s.1=(1:Int)
    ·rw[decide_eq_true k1,Bool.true_and] at hgd
     rw[decide_eq_true k1,cond_true,row1 k1,vD hg (hts k1),hgd]
     rfl
    ·rw[decide_eq_false k1]
     rfl
   | true=>
    obtain⟨k1,hgs⟩:=Bool.and_eq_true_iff.1 hgd
    have k1':=of_decide_eq_true k1
    simp only[cond_true]
    rw[pM,e1,k1,cond_true,row1 k1',vD hg (hts k1'),hgs,cond_true]
    refine⟨?_,by simp[g1l];omega,fun j j0 j1=>?_⟩
    ·rw[ee (t:=.sl (.sl aa)) (by simp[g1l,hlenv])]
     have:bZ tables (cw tables v.1++[(nth (t:=ax) tables s.2.2.2.1).2.1]) ((2:Int),((dM v s).length:Int)-1,(0:Int),(0:Int),(guardOf guards s.2.2.2.1).1,([]:List Int),()) =
       List.filter (fun r=>holds r (guardOf guards s.2.2.2.1).1) (nth (t:=.sl (.sl aa)) (cw tables v.1++[(nth (t:=ax) tables s.2.2.2.1).2.1]) (((dM v s).length:Int)-1)):=rfl
     rw[this,ee (t:=.sl (.sl aa)) (by rw[g1l,hlenv];omega)]
    ·rw[List.append_assoc]
     exact fT (t:=.sl (.sl aa)) j0 (by rw[hlenv];exact j1)
  obtain⟨q1,q2,q3⟩:=hlast
  generalize kF guards (dM v s) s=o at *
  have et:nth (t:=.int .i64) (v.2.set n ((o.length:Int)-1)) (n:Int)=(o.length:Int)-1:=by
   unfold nth
   rw[List.getD_eq_getElem?_getD,List.getElem?_set]
   simp
   rw[if_pos (by omega)]
   rfl
  refine⟨_,rfl,by simp[hvl],fun j j0 j1=>?_,fun _=>?_⟩
  ·simp only
   by_cases hjn:j=(n:Int)
   ·subst hjn
    rw[et,ee (t:=.sl (.sl aa)) (by rw[hlen])]
    have p1:(0:Int)<=(o.length:Int)-1:=by omega
    have p2:(o.length:Int)-1<(o.length:Int):=by omega
    exact⟨⟨p1,p2⟩,q1⟩
   ·have hj1:j<(n:Int):=by omega
    have et2:nth (t:=.int .i64) (v.2.set n ((o.length:Int)-1)) j=nth (t:=.int .i64) v.2 j:=by
     have:=pq (t:=.int .i64) (a:=v.2) (i:=(n:Int)) (j:=j) (z:=(o.length:Int)-1) (by omega) j0 (fun q=>hjn q.symm)
     simpa using this
    obtain⟨⟨r0,r1⟩,r2⟩:=hS j j0 hj1
    rw[et2,q3 _ r0 r1,fT (t:=.sl (.sl aa)) j0 (by rw[hlen];exact hj1)]
    exact⟨⟨r0,Int.lt_trans r1 (Int.ofNat_lt.2 q2)⟩,r2⟩
  ·simp only
   rw[show ((n+1:Nat):Int)-1=(n:Int) by omega,et]
theorem zF {tables:List ax.D} {plan:List ah.D} (h:bQ tables plan=true):∀i:Int,0<=i->i<(plan.length:Int)->(nth (t:=ah) plan i).1=(1:Int)->0<=(nth (t:=ah) plan i).2.2.2.1/\(nth (t:=ah) plan i).2.2.2.1<(tables.length:Int):=by
 unfold bQ at h
 obtain⟨h1,_⟩:=Bool.and_eq_true_iff.1 h
 unfold cQ at h1
 cases hr:iL tables plan with
 | none=>rw[hr] at h1;cases h1
 | some r=>
  intro i i0 i1 k1
  obtain⟨st2,h7⟩:=pJ (br tables) plan (i.toNat+1) ([],[]) r hr
  obtain⟨st1,h6⟩:=pJ (br tables) plan i.toNat ([],[]) r hr
  rw[vN (t:=ah) (by omega),mu,h6,show ((i.toNat:Nat):Int)=i by omega] at h7
  obtain⟨c,hc,_,_⟩:=iF h7
  unfold bJ at hc
  obtain⟨_,hc⟩:=aR hc
  rw[decide_eq_true k1,cond_true] at hc
  have:=(aR hc).1
  exact⟨ew this,Int.lt_of_le_sub_one (mZ this)⟩
theorem Bv {tables:List ax.D} {guards:List az.D} {plan:List ah.D} (h:(cj tables guards plan).2=true) :
  bQ tables (cj tables guards plan).1=true/\dj tables (cj tables guards plan).1=dj (bf tables guards) plan:=by
 unfold cj at h ⊢
 cases hb:(bH tables guards&&bQ tables plan) with
 | false=>rw[hb] at h;cases h
 | true=>
  obtain⟨hg,hp⟩:=Bool.and_eq_true_iff.1 hb
  rw[hb] at h
  simp only[cond_true] at h ⊢
  have ho:=CP hg hp
  cases h6:decide (6<((grown guards plan).1.length:Int)) with
  | true=>rw[h6] at h;cases h
  | false=>
   rw[h6] at ho
   simp only[cond_false]
   refine⟨ho,?_⟩
   have hrf:=ko hp
   obtain⟨v,e,hvl,hS,hL⟩:=Al hg hrf.2 (fun i i0 i1 k1=>(zF hp i i0 i1 k1).1) plan.length (Nat.le_refl _)
   have hv:grown guards plan=v:=e
   rw[hv] at ho ⊢
   have h1:=hrf.1
   have h2:=(hS ((plan.length:Int)-1) (by omega) (by omega)).2
   rw[hL h1,List.take_length] at h2
   unfold dj
   rw[ho,CQ hg,hp]
   exact h2
end M
end Go.AE
