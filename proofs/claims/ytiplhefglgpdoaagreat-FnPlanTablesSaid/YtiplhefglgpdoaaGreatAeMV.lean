/- A plan that is ok stays ok when it is made tidy: plain Lean. -/
import Derived.Test.YtiplhefglgpdoaaGreatAeMP
import Derived.Test.YtiplhefglgpdoaaGreatAeY
import Derived.Test.YtiplhefglgpdoaaGreatAeMT
import Derived.Test.YtiplhefglgpdoaaGreatAeF
import Derived.Test.YtiplhefglgpdoaaGreatAeEqH
section
namespace Go.AE
open Go Go.RowKit
set_option linter.unusedVariables false
namespace M
theorem jD {u:List Bool} {i j:Int} (h0:0<=i) (hj:0<=j) (h:nth (t:=.bool) u j=true\/(i=j/\j<(u.length:Int))):nth (t:=.bool) (u.set i.toNat true) j=true:=by
 by_cases e:i=j
 ·subst e
  have hl:i<(u.length:Int):=by
   rcases h with h | h
   ·unfold nth at h
    rw[List.getD_eq_getElem?_getD] at h
    by_cases hl:i.toNat<u.length
    ·omega
    ·rw[List.getElem?_eq_none (by omega)] at h
     cases h
   ·exact h.2
  unfold nth
  rw[List.getD_eq_getElem?_getD,List.getElem?_set]
  simp
  rw[if_pos (by omega)]
  rfl
 ·rw[eW (t:=.bool) h0 hj e]
  rcases h with h | h
  ·exact h
  ·exact absurd h.1 e
theorem Fe {plan:List aj.D} {k:Int} {u:List Bool} (hin:hY k (nth (t:=aj) plan k)) {j:Int} (hj:0<=j) (h:nth (t:=.bool) u j=true):nth (t:=.bool) (bL plan k u) j=true:=by
 unfold bL
 by_cases h1:(nth (t:=aj) plan k).1=(1:Int)
 ·rw[decide_eq_true h1,Bool.not_true,Bool.and_false]
  exact h
 obtain⟨⟨a0,_⟩,b0,_⟩:=hin h1
 cases nth (t:=.bool) u k&&!decide ((nth (t:=aj) plan k).1=(1:Int))
 ·exact h
 cases two (nth (t:=aj) plan k).1
 ·exact jD a0 hj (.inl h)
 ·exact jD b0 hj (.inl (jD a0 hj (.inl h)))
theorem AK {plan:List aj.D} {k:Int} {u:List Bool} (hin:hY k (nth (t:=aj) plan k)) {j:Int} (hj:0<=j) (hk:k<=j):nth (t:=.bool) (bL plan k u) j=nth (t:=.bool) u j:=by
 unfold bL
 by_cases h1:(nth (t:=aj) plan k).1=(1:Int)
 ·rw[decide_eq_true h1,Bool.not_true,Bool.and_false]
  rfl
 obtain⟨⟨a0,a1⟩,b0,b1⟩:=hin h1
 have na:¬(nth (t:=aj) plan k).2.1=j:=Int.ne_of_lt (Int.lt_of_lt_of_le a1 hk)
 have nb:¬(nth (t:=aj) plan k).2.2.1=j:=Int.ne_of_lt (Int.lt_of_lt_of_le b1 hk)
 cases nth (t:=.bool) u k&&!decide ((nth (t:=aj) plan k).1=(1:Int))
 ·rfl
 cases two (nth (t:=aj) plan k).1
 ·exact eW (t:=.bool) a0 hj na
 ·exact(eW (t:=.bool) b0 hj nb).trans (eW (t:=.bool) a0 hj na)
theorem FM {plan:List aj.D} {k:Int} {u:List Bool} (hin:hY k (nth (t:=aj) plan k)) (hk:k<=(u.length:Int)) (h:nth (t:=.bool) u k=true) (h1:¬(nth (t:=aj) plan k).1=(1:Int)) :
  nth (t:=.bool) (bL plan k u) (nth (t:=aj) plan k).2.1=true/\(two (nth (t:=aj) plan k).1=true->nth (t:=.bool) (bL plan k u) (nth (t:=aj) plan k).2.2.1=true):=by
 unfold bL
 rw[h,decide_eq_false h1]
 obtain⟨⟨a0,a1⟩,b0,b1⟩:=hin h1
 have a2:=Int.lt_of_lt_of_le a1 hk
 have b2:=Int.lt_of_lt_of_le b1 hk
 have hA:=jD (u:=u) a0 a0 (.inr ⟨rfl,a2⟩)
 cases two (nth (t:=aj) plan k).1
 ·exact⟨hA,fun q=>by cases q⟩
 ·exact⟨jD b0 a0 (.inl hA),fun _=>jD b0 b0 (.inr ⟨rfl,by rw[List.length_set];exact b2⟩)⟩
theorem rH {plan:List aj.D} (hr:∀i:Int,0<=i->i<(plan.length:Int)->hY i (nth (t:=aj) plan i)) {j:Int} (hj:0<=j):∀(n:Nat) (u:List Bool),n<=plan.length->nth (t:=.bool) u j=true->nth (t:=.bool) (cF (bL plan) n u) j=true
 | 0,_,_,h=>h
 | n+1,u,hn,h=>rH hr hj n _ (by omega) (Fe (hr (n:Int) (by omega) (by omega)) hj h)
theorem AB {plan:List aj.D} (hr:∀i:Int,0<=i->i<(plan.length:Int)->hY i (nth (t:=aj) plan i)) {j:Int} (hj:0<=j):∀(n:Nat) (u:List Bool),n<=plan.length->(n:Int)<=j->nth (t:=.bool) (cF (bL plan) n u) j=nth (t:=.bool) u j
 | 0,_,_,_=>rfl
 | n+1,u,hn,h=>(AB hr hj n _ (by omega) (by omega)).trans (AK (hr (n:Int) (by omega) (by omega)) hj (by omega))
theorem qy {plan:List aj.D} (hr:∀i:Int,0<=i->i<(plan.length:Int)->hY i (nth (t:=aj) plan i)):∀(n:Nat) (u:List Bool),n<=plan.length->u.length=plan.length->∀k:Int,0<=k->k<(n:Int) →
  nth (t:=.bool) (cF (bL plan) n u) k=true->¬(nth (t:=aj) plan k).1=(1:Int) →
  nth (t:=.bool) (cF (bL plan) n u) (nth (t:=aj) plan k).2.1=true/\(two (nth (t:=aj) plan k).1=true->nth (t:=.bool) (cF (bL plan) n u) (nth (t:=aj) plan k).2.2.1=true)
 | 0,_,_,_,k,k0,k1,_,_=>by omega
 | n+1,u,hn,hu,k,k0,k1,h,h1=>by
  unfold cF at h ⊢
  by_cases e:k=(n:Int)
  ·subst e
   rw[AB hr (by omega) n _ (by omega) (Int.le_refl _),AK (hr (n:Int) (by omega) (by omega)) (by omega) (Int.le_refl _)] at h
   have hin:=hr (n:Int) (by omega) (by omega)
   obtain⟨q1,q2⟩:=FM (u:=u) hin (by omega) h h1
   obtain⟨⟨a0,_⟩,b0,_⟩:=hin h1
   exact⟨rH hr a0 n _ (by omega) q1,fun ht=>rH hr b0 n _ (by omega) (q2 ht)⟩
  ·exact qy hr n _ (by omega) (by rw[lq,hu]) k k0 (by omega) h h1
end M
end Go.AE
end
section
namespace Go.AE
open Go Go.RowKit
set_option linter.unusedVariables false
namespace M
theorem uC (tables:List aq.D) (xs:List aj.D) (s:aj.D):fG tables (xs++[s])=fG tables xs++[cr tables (fG tables xs) s]:=by
 unfold fG
 rw[List.foldl_append]
 rfl
theorem vP (tables:List aq.D):∀(xs:List aj.D),(fG tables xs).length=xs.length:=by
 have key:∀(xs:List aj.D) (a:List (List (List aa.D))),(xs.foldl (eR tables) a).length=a.length+xs.length:=by
  intro xs
  induction xs with
  | nil=>intro a;simp
  | cons x xs ih=>intro a;rw[List.foldl_cons,ih];unfold eR;simp;omega
 intro xs
 have:=key xs []
 unfold fG
 simpa using this
theorem Eh {k:Int} (h:two k=true):¬k=(1:Int):=fun z=>by rw[z] at h;cases h
theorem DG {tables:List aq.D} {ahead ahead':List (List (List aa.D))} {s s':aj.D} (h1:s'.1=s.1) (h2:s'.2.2.2=s.2.2.2) (hA:¬s.1=(1:Int)->nth (t:=.sl (.sl aa)) ahead' s'.2.1=nth (t:=.sl (.sl aa)) ahead s.2.1)
  (hB:two s.1=true->nth (t:=.sl (.sl aa)) ahead' s'.2.2.1=nth (t:=.sl (.sl aa)) ahead s.2.2.1):cr tables ahead' s'=cr tables ahead s:=by
 unfold cr
 rw[h1,h2]
 by_cases k1:s.1=(1:Int)
 ·rw[decide_eq_true k1]
  rfl
 rw[hA k1]
 cases ht:two s.1 with
 | true=>rw[hB ht]
 | false=>
  unfold two at ht
  obtain⟨k4,k5⟩:=Bool.or_eq_false_iff.1 ht
  rw[k4,k5]
  rfl
theorem take_one {plan:List aj.D} {n:Nat} (h:n<plan.length):plan.take (n+1)=plan.take n++[nth (t:=aj) plan (n:Int)]:=lP (t:=aj) h
theorem yu {plan:List aj.D} (h:ng plan):nth (t:=.bool) (jm plan) ((plan.length:Int)-1)=true:=by
 obtain⟨hpos,hrf⟩:=h
 unfold jm
 refine rH hrf (by omega) plan.length _ (Nat.le_refl _) ?_
 have:=jD (u:=List.replicate plan.length false) (i:=(plan.length:Int)-1) (j:=(plan.length:Int)-1) (by omega) (by omega) (.inr ⟨rfl,by simp;omega⟩)
 rw[show ((plan.length:Int)-1).toNat=plan.length-1 by omega] at this
 exact this
end M
end Go.AE
end
section
namespace Go.AE
open Go Go.RowKit
set_option linter.unusedVariables false
namespace M
theorem Ct {f:Int->Unit->Option (Sum Unit Unit)} {n:Int} (h:∀z,f z ()=cond (decide (z=n)) (some (.inr ())) (some (.inl ()))):∀xs:List Int,aL f xs ()=some (cond (decide (n∈xs)) (.inr ()) (.inl ()))
 | []=>rfl
 | x::xs=>by
  rw[bw,h]
  by_cases hx:x=n
  ·rw[decide_eq_true hx,decide_eq_true (show n∈x::xs by rw[hx];exact List.mem_cons_self ..)]
   rfl
  ·rw[decide_eq_false hx,cond_false,aO,Ct h xs]
   congr 2
   by_cases hm:n∈xs
   ·rw[decide_eq_true hm,decide_eq_true (List.mem_cons_of_mem _ hm)]
   ·rw[decide_eq_false hm,decide_eq_false (fun q=>by rcases List.mem_cons.1 q with q | q;exact hx q.symm;exact hm q)]
theorem Au {α β ρ:Type} {f:α->List β->Option (Sum (List β) ρ)} (g:α->β):∀(xs:List α) (s:List β),(∀z∈xs,∀v:List β,v.length<s.length+xs.length->f z v=some (.inl (v++[g z])))->aL f xs s=some (.inl (s++xs.map g))
 | [],s,_=>by simp[aL]
 | x::xs,s,h=>by
  rw[bw,h x (by simp) s (by simp),aO,Au g xs (s++[g x]) (fun z hz v hv=>h z (by simp[hz]) v (by simp at hv ⊢;omega))]
  simp
def others (ts:List aq.D) (l:List Int):List aq.D:=(aM 0 (ts.length:Int)).map fun k=>cond (decide (k∈l)) (nth (t:=aq) ts k) ((nth (t:=aq) ts k).1,([],()))
theorem pz (ts:List aq.D) (l:List Int):(others ts l).length=ts.length:=by
 unfold others aM
 rw[List.length_map,List.length_map,List.length_range]
 omega
theorem xU (ts:List aq.D) (l:List Int) {i:Int} (h0:0<=i) (h1:i<(ts.length:Int)):nth (t:=aq) (others ts l) i=cond (decide (i∈l)) (nth (t:=aq) ts i) ((nth (t:=aq) ts i).1,([],())):=by
 have e:(aM 0 (ts.length:Int))[i.toNat]? = some i:=by
  unfold aM
  rw[List.getElem?_map,List.getElem?_range (by omega)]
  simp
  omega
 unfold others
 rw[nth,List.getD_eq_getElem?_getD,List.getElem?_map,e]
 rfl
theorem Dx (ts:List aq.D) (l:List Int) {i:Int} (h0:0<=i):(nth (t:=aq) (others ts l) i).1=(nth (t:=aq) ts i).1:=by
 by_cases h1:i<(ts.length:Int)
 ·rw[xU ts l h0 h1]
  cases decide (i∈l)<;>rfl
 ·unfold nth
  rw[List.getD_eq_getElem?_getD,List.getD_eq_getElem?_getD,List.getElem?_eq_none (by rw[pz];omega),List.getElem?_eq_none (by omega)]
theorem yD {ts:List aq.D} {l:List Int} {t:aq.D} (h:t∈others ts l):∃u∈ts,t=u\/t=(u.1,([],())):=by
 unfold others at h
 obtain⟨k,hk,rfl⟩:=List.mem_map.1 h
 have hm:=iq (t:=aq) (xs:=ts) (dV.1 hk).1 (dV.1 hk).2
 refine⟨_,hm,?_⟩
 cases decide (k∈l) with
 | true=>exact .inl rfl
 | false=>exact .inr rfl
theorem Fs {ts:List aq.D} (l:List Int) (h:Sm (.sl aq) ts):Sm (.sl aq) (others ts l):=by
 refine⟨by rw[pz];exact h.1,fun t ht=>?_⟩
 obtain⟨u,hu,rfl | rfl⟩:=yD ht
 ·exact h.2 _ hu
 ·exact⟨(h.2 u hu).1,lY _,trivial⟩
theorem FD {ts:List aq.D} (l:List Int) (h:ck ts=true):ck (others ts l)=true:=by
 unfold ck at h ⊢
 obtain⟨t1,t2⟩:=Bool.and_eq_true_iff.1 h
 rw[pz,t1,Bool.true_and]
 refine List.all_eq_true.2 fun t hm=>?_
 obtain⟨u,hu,rfl | rfl⟩:=yD hm
 ·exact List.all_eq_true.1 t2 _ hu
 ·have ho:=List.all_eq_true.1 t2 _ hu
  unfold cW fX at ho ⊢
  obtain⟨o1,o2⟩:=Bool.and_eq_true_iff.1 ho
  obtain⟨o2,o3⟩:=Bool.and_eq_true_iff.1 o2
  rw[show decide ((([]:List (List aa.D)).length)<=6)=true from rfl,o2]
  rfl
theorem xo (ts:List aq.D) (l:List Int) (ahead:List (List ag.D)) (s:aj.D):ct (others ts l) ahead s=ct ts ahead s:=by
 unfold ct
 rw[pz]
 by_cases h0:0<=s.2.2.2.1
 ·rw[Dx ts l h0]
 ·have:inR s.2.2.2.1 0 ((ts.length:Int)-1)=false:=by
   unfold inR
   rw[decide_eq_false h0]
   rfl
  rw[this]
  rfl
theorem zy {ts:List aq.D} {plan:List aj.D} (l:List Int) (h:bQ ts plan=true):bQ (others ts l) plan=true:=by
 have e:bW (others ts l)=bW ts:=by
  funext st s
  unfold bW
  rw[xo]
 unfold bQ cY lC at h ⊢
 obtain⟨h1,h2⟩:=Bool.and_eq_true_iff.1 h
 obtain⟨h2,h3⟩:=Bool.and_eq_true_iff.1 h2
 rw[e,h1,FD l h2,h3]
 rfl
theorem BD {A B:List aq.D} {ahead ahead':List (List (List aa.D))} {s:aj.D} (h:s.1=(1:Int)->(nth (t:=aq) A s.2.2.2.1).2.1=(nth (t:=aq) B s.2.2.2.1).2.1)
  (hA:¬s.1=(1:Int)->nth (t:=.sl (.sl aa)) ahead s.2.1=nth (t:=.sl (.sl aa)) ahead' s.2.1) (hB:two s.1=true->nth (t:=.sl (.sl aa)) ahead s.2.2.1=nth (t:=.sl (.sl aa)) ahead' s.2.2.1):cr A ahead s=cr B ahead' s:=by
 by_cases k1:s.1=(1:Int)
 ·unfold cr
  rw[decide_eq_true k1,cond_true,cond_true]
  exact h k1
 ·have e:cr A ahead s=cr B ahead s:=by
   unfold cr
   rw[decide_eq_false k1]
   rfl
  rw[e]
  exact(DG rfl rfl (fun _=>hA k1) hB).trans rfl
theorem AR {A B:List aq.D} {plan:List aj.D} (hrf:ng plan) (hAB:∀k:Int,0<=k->k<(plan.length:Int)->nth (t:=.bool) (jm plan) k=true->(nth (t:=aj) plan k).1=(1:Int)->(nth (t:=aq) A (nth (t:=aj) plan k).2.2.2.1).2.1=(nth (t:=aq) B (nth (t:=aj) plan k).2.2.2.1).2.1) :
  ∀n:Nat,n<=plan.length->∀j:Int,0<=j->j<(n:Int)->nth (t:=.bool) (jm plan) j=true->nth (t:=.sl (.sl aa)) (fG A (plan.take n)) j=nth (t:=.sl (.sl aa)) (fG B (plan.take n)) j
 | 0,_,j,j0,j1,_=>by omega
 | n+1,hl,j,j0,j1,hj=>by
  have ih:=AR hrf hAB n (by omega)
  have hlA:(fG A (plan.take n)).length=n:=by rw[vP,List.length_take];omega
  have hlB:(fG B (plan.take n)).length=n:=by rw[vP,List.length_take];omega
  rw[take_one (by omega),uC,uC]
  by_cases hjn:j=(n:Int)
  ·subst hjn
   rw[qu (t:=.sl (.sl aa)) (by rw[hlA]),qu (t:=.sl (.sl aa)) (by rw[hlB])]
   have hin:=hrf.2 (n:Int) (by omega) (by omega)
   have hc:=fun h1=>qy hrf.2 plan.length _ (Nat.le_refl _) (by simp) (n:Int) (by omega) (by omega) hj h1
   exact BD (fun h1=>hAB _ (by omega) (by omega) hj h1) (fun h1=>ih _ (hin h1).1.1 (hin h1).1.2 (hc h1).1) (fun ht=>ih _ (hin (Eh ht)).2.1 (hin (Eh ht)).2.2 ((hc (Eh ht)).2 ht))
  ·have hj1:j<(n:Int):=by omega
   rw[qo (t:=.sl (.sl aa)) j0 (by rw[hlA];exact hj1),qo (t:=.sl (.sl aa)) j0 (by rw[hlB];exact hj1)]
   exact ih j j0 hj1 hj
theorem CW {tables:List aq.D} {plan:List aj.D} (h:bQ tables plan=true) {k:Int} (k0:0<=k) (k1:k<(plan.length:Int)) (hk:nth (t:=.bool) (jm plan) k=true) (h1:(nth (t:=aj) plan k).1=(1:Int)):(nth (t:=aj) plan k).2.2.2.1∈br tables plan:=by
 have hr:=gB h
 have ht:∀k:Int,0<=k->k<(plan.length:Int)->(nth (t:=aj) plan k).1=(1:Int)->0<=(nth (t:=aj) plan k).2.2.2.1/\(nth (t:=aj) plan k).2.2.2.1<(tables.length:Int):=fun k k0 k1 hk=>pK h (iq (t:=aj) k0 k1) hk
 obtain⟨_,_,h3⟩:=Bg hr ht plan.length ((List.replicate plan.length false).set (plan.length-1) true) (List.replicate tables.length false) (Int.le_refl _) (by simp)
 unfold br
 rw[h,cond_true]
 obtain⟨t0,t1⟩:=ht k k0 k1 h1
 exact List.mem_filter.2 ⟨dV.2 ⟨t0,t1⟩,(h3 _ t0 t1).2 (.inr ⟨k,k0,k1,hk,h1,rfl⟩)⟩
theorem Cb {tables:List aq.D} {plan:List aj.D} (h:bQ tables plan=true):dm (others tables (br tables plan)) plan=dm tables plan:=by
 have hr:=gB h
 have hl:=hr.1
 have hq:=AR (A:=others tables (br tables plan)) (B:=tables) hr (fun k k0 k1 hk h1=>by
  obtain⟨t0,t1⟩:=pK h (iq (t:=aj) k0 k1) h1
  rw[xU _ _ t0 t1,decide_eq_true (CW h k0 k1 hk h1)]
  rfl) plan.length (Nat.le_refl _) ((plan.length:Int)-1) (by omega) (by omega) (yu hr)
 rw[List.take_length] at hq
 unfold dm
 rw[zy _ h,h,cond_true,cond_true]
 exact hq
theorem Dd {plan:List aj.D} (hr:ng plan):∃k:Int,0<=k/\k<(plan.length:Int)/\nth (t:=.bool) (jm plan) k=true/\(nth (t:=aj) plan k).1=(1:Int):=by
 have key:∀(d:Nat) (k:Int),k<(d:Int)->0<=k->k<(plan.length:Int)->nth (t:=.bool) (jm plan) k=true->∃k:Int,0<=k/\k<(plan.length:Int)/\nth (t:=.bool) (jm plan) k=true/\(nth (t:=aj) plan k).1=(1:Int):=by
  intro d
  induction d with
  | zero=>intro k hd k0;omega
  | succ d ih=>
   intro k hd k0 k1 hk
   by_cases h1:(nth (t:=aj) plan k).1=(1:Int)
   ·exact⟨k,k0,k1,hk,h1⟩
   ·obtain⟨⟨a0,a1⟩,_⟩:=hr.2 k k0 k1 h1
    exact ih _ (Int.lt_of_lt_of_le a1 (by omega)) a0 (Int.lt_trans a1 k1) (qy hr.2 plan.length _ (Nat.le_refl _) (by simp) k k0 k1 hk h1).1
 exact key plan.length ((plan.length:Int)-1) (by have:=hr.1;omega) (by have:=hr.1;omega) (by omega) (yu hr)
theorem xh {tables:List aq.D} {plan:List aj.D} (h:bQ tables plan=true):0<(br tables plan).length:=by
 obtain⟨k,k0,k1,hk,h1⟩:=Dd (gB h)
 exact List.length_pos_of_mem (CW h k0 k1 hk h1)
theorem wQ {tables:List aq.D} {plan:List aj.D} (h:bQ tables plan=false):br tables plan=[]:=by
 unfold br
 rw[h]
 rfl
end M
end Go.AE
end
section
namespace Go.AE
open Go Go.RowKit
set_option linter.unusedVariables false
set_option linter.unusedSimpArgs false
theorem GH {A R:List Int} {x:Int} {i:Int} (h:i=(A.length:Int)):nth (t:=.int .i64) (A++x::R) i=x:=by
 subst h
 unfold nth
 rw[List.getD_eq_getElem?_getD]
 simp
theorem Ge {A R:List Int} {x y:Int} {n:Nat} (h:n=A.length):(A++x::R).set n y=A++y::R:=by
 subst h
 simp
theorem Eu {xs:List Int} (hs:xs.length<=1048576) (b c:Int):∀(A:List Int) (x:Int) (R:List Int) (j:Int),j=(A.length:Int)->A.length+1+R.length=xs.length →
  bZ (F.cm xs 0 b c) (j,A.reverse++x::R)=some (M.ins A x R)
 | [],x,R,j,hj,_=>by
  subst hj
  rw[cR]
  unfold F.cm
  simp only[List.length_nil]
  rfl
 | y::A,x,R,j,hj,hl=>by
  subst hj
  simp only[List.length_cons] at hl
  have hw:wrap64 (((y::A).length:Int)-(1:Int))=(A.length:Int):=by
   rw[List.length_cons,aI (by omega) (by omega)]
   omega
  have hx:nth (t:=.int .i64) ((y::A).reverse++x::R) ((y::A).length:Int)=x:=GH (by simp)
  have hy:nth (t:=.int .i64) ((y::A).reverse++x::R) (A.length:Int)=y:=by
   rw[List.reverse_cons,List.append_assoc]
   exact GH (by simp)
  have h1:(((y::A).reverse++x::R).set ((y::A).length:Int).toNat y).set (A.length:Int).toNat x=A.reverse++x::y::R:=by
   rw[Ge (by simp),List.reverse_cons,List.append_assoc]
   exact Ge (by simp)
  rw[cR]
  unfold F.cm
  simp only[hw,hx,hy,bH]
  rw[show (decide ((0:Int)<((y::A).length:Int))==true)=true by rw[decide_eq_true (by simp only[List.length_cons];omega)];rfl,cond_true,ah (by omega),ah (by simp only[List.length_cons];omega),ah (by omega),ah (by omega),h1]
  unfold M.ins
  cases decide (x<y) with
  | true=>rw[cond_true,cond_true,aO];exact Eu hs b c A x (y::R) _ rfl (by simp;omega)
  | false=>rw[cond_false,cond_false,rz];simp
theorem AM {xs:List Int} (hs:xs.length<=1048576) (b:Int):∀(R A:List Int) (i:Int),i=(A.length:Int)->b=(A.length:Int)+(R.length:Int)->A.length+R.length=xs.length →
  aL (F.cQ xs 0 b) (aM i b) (A.reverse++R)=some (.inl (M.iH A R))
 | [],A,i,hi,hb,_=>by
  rw[ew (by simp at hb;omega)]
  simp[aL,M.iH]
 | x::R,A,i,hi,hb,hl=>by
  simp only[List.length_cons] at hb hl
  rw[dG (by omega),bw]
  unfold F.cQ
  rw[Eu hs b i A x R i hi (by omega)]
  show aL _ _ (M.ins A x R)=_
  have h2:=M.xY A x []
  have:=AM hs b R (M.ins A x []).reverse (i+1) (by simp[h2];omega) (by simp[h2];omega) (by simp[h2];omega)
  rw[List.reverse_reverse,<-M.Br] at this
  rw[show M.iH A (x::R)=M.iH (M.ins A x []).reverse R from rfl,<-this]
  rfl
theorem rZ {xs:List Int} (hs:xs.length<=1048576) {k:Int} (k1:1<=k):∀(m:Nat) (j:Int) (n:Int) (d:List Int),(m:Int)=(xs.length:Int)-k-j->1<=j->d.length=xs.length->0<=n->n<=k+j-1 →
  (∀i:Int,k+j-1<=i->nth (t:=.int .i64) d i=nth (t:=.int .i64) xs i)->d.take n.toNat=M.cD (xs.take (k+j).toNat) →
  ∃n' d',aL (F.eV xs k) (aM j ((xs.length:Int)-k)) (n,d)=some (.inl (n',d'))/\d'.length=xs.length/\0<=n'/\n'<=(xs.length:Int)/\d'.take n'.toNat=M.cD xs
 | 0,j,n,d,hm,j1,hd,n0,n1,hk,ht=>by
  refine⟨n,d,?_,hd,n0,by omega,?_⟩
  ·rw[ew (by omega)];rfl
  ·rw[ht,List.take_of_length_le (by omega)]
 | m+1,j,n,d,hm,j1,hd,n0,n1,hk,ht=>by
  rw[dG (by omega),bw]
  have hw:wrap64 (j-(1:Int))=j-1:=aI (by omega) (by omega)
  have hwn:wrap64 (n+(1:Int))=n+1:=aI (by omega) (by omega)
  have e1:nth (t:=.int .i64) d (k+j)=nth (t:=.int .i64) xs (k+j):=hk _ (by omega)
  have e2:nth (t:=.int .i64) d (k+(j-1))=nth (t:=.int .i64) xs (k+(j-1)):=hk _ (by omega)
  have hsn:xs.take (k+(j+1)).toNat=xs.take (k+j).toNat++[nth (t:=.int .i64) xs (k+j)]:=by
   have:=M.lP (t:=.int .i64) (xs:=xs) (k:=(k+j).toNat) (by omega)
   rw[show (((k+j).toNat:Nat):Int)=k+j by omega] at this
   rw[<-this]
   congr 1
   omega
  have hlast:(xs.take (k+j).toNat).getLast? = some (nth (t:=.int .i64) xs (k+(j-1))):=by
   have:=M.lP (t:=.int .i64) (xs:=xs) (k:=(k+(j-1)).toNat) (by omega)
   rw[show (((k+(j-1)).toNat:Nat):Int)=k+(j-1) by omega,show (k+(j-1)).toNat+1=(k+j).toNat by omega] at this
   rw[this]
   simp
  have hne:xs.take (k+j).toNat≠[]:=by intro e;rw[e] at hlast;cases hlast
  have hc:M.cD (xs.take (k+(j+1)).toNat)=M.gw (M.cD (xs.take (k+j).toNat)) (nth (t:=.int .i64) xs (k+j)):=by rw[hsn,M.pn]
  unfold F.eV
  simp only[hw,hwn,e1,e2]
  rw[ah (by omega),ah (by omega),ah (by omega)]
  by_cases he:nth (t:=.int .i64) xs (k+j)=nth (t:=.int .i64) xs (k+(j-1))
  ·rw[decide_eq_true he]
   simp only[Bool.not_true,cond_false,aO]
   refine rZ hs k1 m (j+1) n d (by omega) (by omega) hd n0 (by omega) (fun i hi=>hk i (by omega)) ?_
   rw[ht,hc]
   unfold M.gw
   rw[M.tY hne,hlast,decide_eq_true (by rw[he]),cond_true]
  ·rw[decide_eq_false he]
   simp only[Bool.not_false,cond_true]
   rw[ah n0,ah (by omega),aO]
   refine rZ hs k1 m (j+1) (n+1) _ (by omega) (by omega) (by simpa using hd) (by omega) (by omega) (fun i hi=>?_) ?_
   ·rw[M.eW n0 (by omega) (by omega)]
    exact hk i (by omega)
   ·rw[hc]
    unfold M.gw
    rw[M.tY hne,hlast,decide_eq_false (by intro e;exact he (Option.some.inj e).symm),cond_false,<-ht]
    rw[show (n+1).toNat=n.toNat+1 by omega,M.lP (t:=.int .i64) (by rw[List.length_set];omega)]
    congr 1
    ·rw[List.take_set_of_le (Nat.le_refl _)]
    ·congr 1
     rw[show ((n.toNat:Nat):Int)=n by omega]
     unfold nth
     rw[List.getD_eq_getElem?_getD,List.getElem?_set_self (by omega)]
     rfl
theorem yA {xs:List Int} (hs:xs.length<=1048576):∀(m:Nat) (i:Int),(m:Int)=(xs.length:Int)-i->1<=i->M.cD (xs.take i.toNat)=xs.take i.toNat →
  (aL (F.dN xs) (aM i (xs.length:Int)) ()=some (.inl ())/\M.cD xs=xs) ∨
  ∃n' d',aL (F.dN xs) (aM i (xs.length:Int)) ()=some (.inr (n',d'))/\d'.take n'.toNat=M.cD xs
 | 0,i,hm,i1,hc=>by
  refine .inl ⟨?_,?_⟩
  ·rw[ew (by omega)];rfl
  ·rwa [List.take_of_length_le (by omega)] at hc
 | m+1,i,hm,i1,hc=>by
  rw[dG (by omega),bw]
  have hw:wrap64 (i-(1:Int))=i-1:=aI (by omega) (by omega)
  have hsn:xs.take (i+1).toNat=xs.take i.toNat++[nth (t:=.int .i64) xs i]:=by
   have:=M.lP (t:=.int .i64) (xs:=xs) (k:=i.toNat) (by omega)
   rw[show ((i.toNat:Nat):Int)=i by omega] at this
   rw[<-this]
   congr 1
   omega
  have hlast:(xs.take i.toNat).getLast? = some (nth (t:=.int .i64) xs (i-1)):=by
   have:=M.lP (t:=.int .i64) (xs:=xs) (k:=(i-1).toNat) (by omega)
   rw[show (((i-1).toNat:Nat):Int)=i-1 by omega,show (i-1).toNat+1=i.toNat by omega] at this
   rw[this]
   simp
  have hcs:M.cD (xs.take (i+1).toNat)=M.gw (xs.take i.toNat) (nth (t:=.int .i64) xs i):=by rw[hsn,M.pn,hc]
  unfold F.dN
  simp only[hw]
  rw[ah (by omega),ah (by omega)]
  by_cases he:nth (t:=.int .i64) xs i=nth (t:=.int .i64) xs (i-1)
  ·rw[decide_eq_true he,cond_true,ah (by omega),ah (by unfold dP;omega),ah (by unfold dP;omega)]
   obtain⟨n',d',h1,h2,h3,h4,h5⟩:=rZ hs i1 m 1 i xs (by omega) (by omega) rfl (by omega) (by omega) (fun _ _=>rfl) (by
    rw[hcs]
    unfold M.gw
    rw[hlast,decide_eq_true (by rw[he]),cond_true])
   rw[h1]
   simp only[aO]
   rw[ah h3,ah (by omega),ah h3,ah (by simp;omega),rz]
   refine .inr ⟨n',_,rfl,?_⟩
   rw[List.take_append_of_le_length (by simp;omega),List.take_take,Nat.min_self,h5]
  ·rw[decide_eq_false he,cond_false,aO]
   refine yA hs m (i+1) (by omega) (by omega) ?_
   rw[hcs,hsn]
   unfold M.gw
   rw[hlast,decide_eq_false (by intro e;exact he (Option.some.inj e).symm),cond_false]
theorem CI {xs:List Int} (hs:xs.length<=1048576):F.ju xs=some (M.cD xs):=by
 unfold F.ju
 match xs,hs with
 | [],_=>rfl
 | [x],_=>rfl
 | x::y::l,hs=>
  rw[decide_eq_false (by simp only[List.length_cons];omega),cond_false]
  rcases yA hs (l.length+1) 1 (by simp only[List.length_cons];omega) (by omega) rfl with⟨h1,h2⟩ | ⟨n',d',h1,h2⟩
  ·rw[h1,aO,h2]
  ·rw[h1,rz,h2]
end Go.AE
namespace Go.AE
open Go Go.RowKit
end Go.AE
namespace Go.AE
open Go Go.RowKit
end Go.AE
end
section
namespace Go.AE
open Go Go.RowKit
set_option linter.unusedSimpArgs false
set_option linter.unusedVariables false
theorem zB {row:List aa.D} {E:List aE.D} (p:aE.D) (st:List aa.D) (hp:Sm aE p) (hs:Sm (.sl aa) st) (hl:st.length<=1000) (h1:M.takes p<=(st.length:Int)) (hk:1<=p.1/\p.1<=8) (hc:M.vO p row.length) :
  F.dM row E p st=some (.inl (M.jO row st p)):=by
 obtain⟨t0,t2⟩:=uu p
 have hw:=CH (n:=st.length) (k:=M.takes p) (by omega) t0 t2
 have hct:=Dn st (k:=(st.length:Int)-M.takes p) (by omega) (by omega)
 have hn:((st.length:Int)-M.takes p).toNat=st.length-(M.takes p).toNat:=by omega
 rw[hn] at hct
 unfold F.dM M.jO
 rw[hw,hct]
 have hsm:Sm (.sl aa) (st.drop (st.length-(M.takes p).toNat)):=⟨by rw[List.length_drop];omega,fun x hx=>hs.2 x (List.mem_of_mem_drop hx)⟩
 rw[ah hsm,ah hc,ah hk]
 simp only[bH]
 repeat rw[ah (by first | omega | (rw[List.length_drop];omega) | (unfold lim;simp;omega))]
 rw[hn]
end Go.AE
end
