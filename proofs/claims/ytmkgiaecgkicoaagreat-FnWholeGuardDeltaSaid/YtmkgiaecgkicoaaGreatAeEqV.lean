/- Values of expressions. -/
import Derived.Test.YtmkgiaecgkicoaaGreatAeEqH
import Derived.Test.YtmkgiaecgkicoaaGreatAeMD
import Derived.Test.YtmkgiaecgkicoaaGreatAeEqI
import Derived.Test.YtmkgiaecgkicoaaGreatAeMP
import Derived.Test.YtmkgiaecgkicoaaGreatAeInl
section
namespace Go.AE
open Go Go.RowKit
set_option linter.unusedSimpArgs false
set_option linter.unusedVariables false
theorem AW {row:List af.D} {E:List aD.D} (p:aD.D) (st:List af.D) (hp:Sm aD p) (hs:Sm (.sl af) st) (hl:st.length<=1000) (h1:M.takes p<=(st.length:Int)) (hk:1<=p.1/\p.1<=8) (hc:M.xG p row.length) :
  F.eP row E p st=some (.inl (M.jo row st p)):=by
 obtain⟨t0,t2⟩:=vB p
 have hw:=DE (n:=st.length) (k:=M.takes p) (by omega) t0 t2
 have hct:=Ee st (k:=(st.length:Int)-M.takes p) (by omega) (by omega)
 have hn:((st.length:Int)-M.takes p).toNat=st.length-(M.takes p).toNat:=by omega
 rw[hn] at hct
 unfold F.eP M.jo
 rw[hw,hct]
 have hsm:Sm (.sl af) (st.drop (st.length-(M.takes p).toNat)):=⟨by rw[List.length_drop];omega,fun x hx=>hs.2 x (List.mem_of_mem_drop hx)⟩
 rw[aq hsm,aq hc,aq hk]
 simp only[bX]
 repeat rw[aq (by first | omega | (rw[List.length_drop];omega) | (unfold lim;simp;omega))]
 rw[hn]
end Go.AE
end
section
namespace Go.AE
open Go Go.RowKit
set_option linter.unusedVariables false
set_option linter.unusedSimpArgs false
namespace M
abbrev rowsOf (A:List ai.D) (i:Int):List (List af.D):=(@nth ai A i).2.1
def Lh (A B:List ai.D):Prop:=A.length=B.length/\∀i:Int,0<=i->(@nth ai A i).1=(@nth ai B i).1
theorem Jn {n b:Int} (h:¬ 0<=n):inR n 0 b=false:=by
 unfold inR
 rw[decide_eq_false h]
 rfl
theorem Ix {ts:List ai.D} {i:Int} {w:List (List af.D)} (h0:0<=i):Lh (ts.set i.toNat ((@nth ai ts i).1,(w,()))) ts:=by
 refine⟨List.length_set,fun j j0=>?_⟩
 by_cases e:i=j
 ·subst e
  by_cases h1:i<(ts.length:Int)
  ·rw[sE h0 h1]
  ·rw[List.set_eq_of_length_le (by omega)]
 ·rw[vT h0 j0 e]
theorem Kr {ts:List ai.D} {i:Int} {w:List (List af.D)} (h:bw ts=true) (h0:0<=i) (h1:i<(ts.length:Int)) (hl:w.length<=6) (hw:∀r∈w,cA (@nth ai ts i).1 r=true) :
  bw (ts.set i.toNat ((@nth ai ts i).1,(w,())))=true:=by
 unfold bw at h ⊢
 rw[Bool.and_eq_true,List.all_eq_true] at h ⊢
 refine⟨by rw[List.length_set];exact h.1,fun t ht=>?_⟩
 rcases List.mem_or_eq_of_mem_set ht with ht | rfl
 ·exact h.2 t ht
 ·have hc:=h.2 _ (hU (t:=ai) h0 h1)
  unfold dU jV at hc ⊢
  rw[Bool.and_eq_true,Bool.and_eq_true,List.all_eq_true] at hc ⊢
  exact⟨decide_eq_true hl,hc.2.1,hw⟩
theorem Jz {ts:List ai.D} (h:bw ts=true) {i:Int} (h0:0<=i) (h1:i<(ts.length:Int)):(rowsOf ts i).length<=6/\∀r∈rowsOf ts i,cA (@nth ai ts i).1 r=true:=by
 unfold bw at h
 rw[Bool.and_eq_true,List.all_eq_true] at h
 have hc:=h.2 _ (hU (t:=ai) h0 h1)
 unfold dU jV at hc
 rw[Bool.and_eq_true,Bool.and_eq_true,List.all_eq_true] at hc
 exact⟨of_decide_eq_true hc.1,hc.2.2⟩
theorem gj {ts:List ai.D} {c:aK.D} (h:cJ ts c=true):bw ts=true/\(0<=c.1/\c.1<(ts.length:Int))/\cA (@nth ai ts c.1).1 c.2.1=true ∧
  (c.2.2.1=true->(rowsOf ts c.1).length<6)/\(c.2.2.1=false->0<=rowAt (rowsOf ts c.1) c.2.1):=by
 unfold cJ at h
 rw[Bool.and_eq_true,Bool.and_eq_true,Bool.and_eq_true] at h
 obtain⟨h1,h2,h3,h4⟩:=h
 have h2:=KC h2
 refine⟨h1,⟨h2.1,Int.lt_of_le_sub_one h2.2⟩,h3,fun e=>?_,fun e=>?_⟩
 ·rw[e,cond_true] at h4
  have:=of_decide_eq_true h4
  exact Int.ofNat_lt.1 this
 ·rw[e,cond_false] at h4
  exact of_decide_eq_true h4
theorem Cl {α:Type} (xs:List α) (n:Nat):(xs.take n++xs.drop (n+1)).Sublist xs:=by
 have h:=(List.take_sublist n xs).append (List.Sublist.refl (xs.drop (n+1)))
 conv=>rhs;rw[<-List.take_append_drop n xs]
 refine(List.Sublist.refl _).append ?_
 rw[<-List.drop_drop]
 exact List.drop_sublist _ _
theorem uL {rows:List (List af.D)} {c:aK.D} (h:c.2.2.1=false):(gJ rows c).Sublist rows:=by
 unfold gJ
 rw[h,cond_false]
 exact Cl _ _
theorem ud {ts:List ai.D} {c:aK.D} (h:cJ ts c=true):Lh (bP ts c) ts:=Ix (gj h).2.1.1
theorem Ez {ts:List ai.D} {c:aK.D} (h:cJ ts c=true):bw (bP ts c)=true:=by
 obtain⟨h1,⟨h2,h3⟩,h4,h5,h6⟩:=gj h
 obtain⟨r1,r2⟩:=Jz h1 h2 h3
 refine Kr h1 h2 h3 ?_ ?_
 ·cases e:c.2.2.1 with
  | true=>
   unfold gJ
   rw[e,cond_true,List.length_append]
   exact h5 e
  | false=>exact Nat.le_trans (uL e).length_le r1
 ·cases e:c.2.2.1 with
  | true=>
   unfold gJ
   rw[e,cond_true]
   intro r hr
   rcases List.mem_append.1 hr with hr | hr
   ·exact r2 r hr
   ·rw[List.mem_singleton.1 hr];exact h4
  | false=>exact fun r hr=>r2 r ((uL e).subset hr)
theorem Fm {ts:List ai.D} {c:aK.D} (h:cJ ts c=true) {j:Int} (j0:0<=j):rowsOf (bP ts c) j=if c.1=j then gJ (rowsOf ts c.1) c else rowsOf ts j:=by
 obtain⟨h1,⟨h2,h3⟩,_⟩:=gj h
 unfold rowsOf bP
 by_cases e:c.1=j
 ·rw[if_pos e,<-e,sE h2 h3]
 ·rw[if_neg e,vT h2 j0 e]
theorem KI {ts:List ai.D} {i:Int} {w:List (List af.D)} (h:Sm (.sl ai) ts) (hw:Sm (.sl (.sl af)) w):Sm (.sl ai) (ts.set i.toNat ((@nth ai ts i).1,(w,()))):=by
 refine⟨by rw[List.length_set];exact h.1,fun t ht=>?_⟩
 rcases List.mem_or_eq_of_mem_set ht with ht | rfl
 ·exact h.2 t ht
 ·exact⟨(aO (t:=ai) h i).1,hw,trivial⟩
theorem tV {rows:List (List af.D)} (h:Sm (.sl (.sl af)) rows) (n:Nat):Sm (.sl (.sl af)) (rows.take n++rows.drop (n+1)):=⟨Nat.le_trans (Cl rows n).length_le h.1,fun x hx=>h.2 x ((Cl rows n).subset hx)⟩
theorem Du {ts:List ai.D} {c:aK.D} (hs:Sm (.sl ai) ts) (hc:Sm aK c) (h:cJ ts c=true):Sm (.sl ai) (bP ts c):=by
 have hr:=(aO (t:=ai) hs c.1).2.1
 refine KI hs ?_
 unfold gJ
 cases e:c.2.2.1 with
 | true=>
  have h5:=(gj h).2.2.2.1 e
  rw[cond_true]
  refine⟨by rw[List.length_append];simp only[List.length_cons,List.length_nil];unfold rowsOf at h5;omega,fun x hx=>?_⟩
  rcases List.mem_append.1 hx with hx | hx
  ·exact hr.2 x hx
  ·rw[List.mem_singleton.1 hx];exact hc.2.1
 | false=>exact tV hr _
theorem JJ {bonds:List jy.D} {now:List ai.D} (c:aK.D) (h:bw now=true/\mL now bonds=true):bw (sC bonds now c)=true/\mL (sC bonds now c) bonds=true:=by
 unfold sC
 cases hc:cJ now c&&mL (bP now c) bonds with
 | false=>exact h
 | true=>
  rw[Bool.and_eq_true] at hc
  exact⟨Ez hc.1,hc.2⟩
theorem pN {bonds:List jy.D}:∀(cs:List aK.D) {now:List ai.D},bw now=true/\mL now bonds=true->bw (cs.foldl (sC bonds) now)=true/\mL (cs.foldl (sC bonds) now) bonds=true
 | [],_,h=>h
 | c::cs,_,h=>pN cs (JJ c h)
def size:List ai.D->Nat
 | []=>0
 | t::ts=>t.2.1.length+size ts
theorem EM {α:Type} (xs:List α) (n:Nat) (p:α->Bool) (hn:n<xs.length) (h:p xs[n]=false):(xs.take n++xs.drop (n+1)).filter p=xs.filter p:=by
 conv=>rhs;rw[<-List.take_append_drop n xs,List.drop_eq_getElem_cons hn]
 rw[List.filter_append,List.filter_append,List.filter_cons,h]
 rfl
end M
end Go.AE
end
section
namespace Go.AE
open Go Go.RowKit
set_option linter.unusedVariables false
namespace M
end M
end Go.AE
end
section
namespace Go.AE
open Go Go.RowKit
set_option linter.unusedVariables false
namespace M
theorem qN (LK:List ai.D) (xs:List ah.D) (s:ah.D):cQ LK (xs++[s])=cQ LK xs++[cu LK (cQ LK xs) s]:=by
 unfold cQ
 rw[List.foldl_append]
 rfl
theorem xL (LK:List ai.D):∀(xs:List ah.D),(cQ LK xs).length=xs.length:=by
 have key:∀(xs:List ah.D) (a:List (List (List af.D))),(xs.foldl (fD LK) a).length=a.length+xs.length:=by
  intro xs
  induction xs with
  | nil=>intro a;simp
  | cons x xs ih=>intro a;rw[List.foldl_cons,ih];unfold fD;simp;omega
 intro xs
 have:=key xs []
 unfold cQ
 simpa using this
theorem Ij {k:Int} (h:two k=true):¬k=(1:Int):=fun z=>by rw[z] at h;cases h
theorem Fv {LK:List ai.D} {LN ahead':List (List (List af.D))} {s s':ah.D} (h1:s'.1=s.1) (h2:s'.2.2.2=s.2.2.2) (hA:¬s.1=(1:Int)->nth (t:=.sl (.sl af)) ahead' s'.2.1=nth (t:=.sl (.sl af)) LN s.2.1)
  (hB:two s.1=true->nth (t:=.sl (.sl af)) ahead' s'.2.2.1=nth (t:=.sl (.sl af)) LN s.2.2.1):cu LK ahead' s'=cu LK LN s:=by
 unfold cu
 rw[h1,h2]
 by_cases k1:s.1=(1:Int)
 ·rw[decide_eq_true k1]
  rfl
 rw[hA k1]
 cases ht:two s.1 with
 | true=>rw[hB ht]
 | false=>
  unfold two at ht
  obtain⟨k4,k5⟩:=Bool.or_eq_false_iff.1 ht
  rw[k4,k5]
  rfl
theorem DQ {LK:List ai.D} {LN ahead':List (List (List af.D))} {to:List Int} {s:ah.D} (hA:¬s.1=(1:Int)->nth (t:=.sl (.sl af)) ahead' (nth (t:=.int .i64) to s.2.1)=nth (t:=.sl (.sl af)) LN s.2.1)
  (hB:two s.1=true->nth (t:=.sl (.sl af)) ahead' (nth (t:=.int .i64) to s.2.2.1)=nth (t:=.sl (.sl af)) LN s.2.2.1):cu LK ahead' (ren to s)=cu LK LN s:=by
 refine Fv rfl rfl (fun k1=>?_) (fun ht=>?_)
 ·rw[<-hA k1]
  unfold ren
  rw[decide_eq_false k1]
  rfl
 ·rw[<-hB ht]
  unfold ren
  rw[ht]
  rfl
theorem take_one {plan:List ah.D} {n:Nat} (h:n<plan.length):plan.take (n+1)=plan.take n++[@nth ah plan (n:Int)]:=xj (t:=ah) h
theorem DF (n:Nat):aT 0 ((n+1:Nat):Int)=aT 0 (n:Int)++[(n:Int)]:=by
 unfold aT
 have e1:(((n+1:Nat):Int)-0).toNat=n+1:=by omega
 have e2:((n:Int)-0).toNat=n:=by omega
 rw[e1,e2,List.range_succ,List.map_append]
 simp
end M
end Go.AE
end
section
namespace Go.AE
open Go Go.RowKit
set_option linter.unusedVariables false
namespace M
theorem xQ {LK:List ai.D} {LL:List aI.D} (h:bS LK LL=true):LL.Pairwise fun a b=>a.1<b.1:=by
 unfold bS at h
 obtain⟨_,h2⟩:=Bool.and_eq_true_iff.1 h
 have at_:∀k:Nat,∀hk:k<LL.length,@nth aI LL (k:Int)=LL[k]:=by
  intro k hk
  rw[qI (t:=aI) (by omega) (by omega)]
  rfl
 have step:∀k:Nat,∀hk:k+1<LL.length,(LL[k]'(by omega)).1<LL[k+1].1:=by
  intro k hk
  have:=List.all_eq_true.1 h2 ((k+1:Nat):Int) (fo.2 ⟨by omega,by omega⟩)
  unfold mC at this
  have q:=(Bool.and_eq_true_iff.1 (Bool.and_eq_true_iff.1 this).2).2
  rw[decide_eq_true (show (0:Int)<((k+1:Nat):Int) by omega),show ((k+1:Nat):Int)-1=(k:Int) by omega,at_ k (by omega),at_ (k+1) hk] at q
  simpa using q
 have all:∀d k:Nat,∀hk:k+1+d<LL.length,(LL[k]'(by omega)).1<LL[k+1+d].1:=by
  intro d
  induction d with
  | zero=>exact fun k hk=>step k hk
  | succ d ih=>exact fun k hk=>Int.lt_trans (ih k (by omega)) (step (k+1+d) hk)
 rw[List.pairwise_iff_getElem]
 intro i j hi hj hij
 have:=all (j-i-1) i (by omega)
 have e:i+1+(j-i-1)=j:=by omega
 simp only[e] at this
 exact this
theorem BZ:∀(gs:List aI.D) (v:List ai.D),gs.Pairwise (fun a b=>a.1<b.1)->(∀g∈gs,0<=g.1/\g.1<(v.length:Int))->(gs.foldl gi v).length=v.length/\∀i:Int,0<=i →
  @nth ai (gs.foldl gi v) i=cond (guardOf gs i).2 ((@nth ai v i).1,List.filter (fun r=>holds r (guardOf gs i).1) (@nth ai v i).2.1,()) (@nth ai v i)
 | [],v,_,_=>⟨rfl,fun i _=>rfl⟩
 | g::gs,v,hp,hr=>by
  obtain⟨hg,hp⟩:=List.pairwise_cons.1 hp
  obtain⟨g0,g1⟩:=hr g List.mem_cons_self
  have hl:(gi v g).length=v.length:=by unfold gi;simp
  obtain⟨l,ih⟩:=BZ gs (gi v g) hp (fun x hx=>by rw[hl];exact hr x (List.mem_cons_of_mem _ hx))
  refine⟨by rw[List.foldl_cons,l,hl],fun i i0=>?_⟩
  rw[List.foldl_cons,ih i i0]
  by_cases e:g.1=i
  ·have hn:gs.find? (fun x:aI.D=>decide (x.1=i))=none:=by
    rw[List.find?_eq_none]
    intro x hx
    have:=hg x hx
    simp only[decide_eq_true_eq]
    exact fun q=>absurd (e.trans q.symm) (Int.ne_of_lt this)
   have h1:guardOf gs i=([],false):=by unfold guardOf;rw[hn]
   have h2:guardOf (g::gs) i=(g.2.1,true):=by unfold guardOf;rw[List.find?_cons_of_pos (by simpa using e)]
   rw[h1,h2]
   subst e
   simp only[cond_false,cond_true]
   unfold gi
   rw[Cp g0 g1]
  ·have h1:guardOf (g::gs) i=guardOf gs i:=by unfold guardOf;rw[List.find?_cons_of_neg (by simpa using e)]
   have h2:@nth ai (gi v g) i=@nth ai v i:=by
    unfold gi
    exact qJ (t:=ai) g0 i0 e
   rw[h1,h2]
theorem ow {LK:List ai.D} {LL:List aI.D} (h:bS LK LL=true):(bN LK LL).length=LK.length/\∀i:Int,0<=i →
  @nth ai (bN LK LL) i=cond (guardOf LL i).2 ((@nth ai LK i).1,List.filter (fun r=>holds r (guardOf LL i).1) (@nth ai LK i).2.1,()) (@nth ai LK i):=by
 unfold bN
 rw[h]
 exact BZ LL LK (xQ h) (fun g hg=>(ri h hg).1)
theorem BT {LK:List ai.D} {LL:List aI.D} (h:bS LK LL=true) {i:Int} (h0:0<=i):(@nth ai (bN LK LL) i).1=(@nth ai LK i).1:=by
 rw[(ow h).2 i h0]
 cases (guardOf LL i).2<;>rfl
theorem xd {LK:List ai.D} {LL:List aI.D} (h:bS LK LL=true) {i:Int} (h0:0<=i):(@nth ai (bN LK LL) i).2.1=cond (guardOf LL i).2 (List.filter (fun r=>holds r (guardOf LL i).1) (@nth ai LK i).2.1) (@nth ai LK i).2.1:=by
 rw[(ow h).2 i h0]
 cases (guardOf LL i).2<;>rfl
theorem JT {LK:List ai.D} {LL:List aI.D} (h:bS LK LL=true):bw (bN LK LL)=true:=by
 have ht:bw LK=true:=(Bool.and_eq_true_iff.1 h).1
 have hl:=(ow h).1
 unfold bw at ht ⊢
 obtain⟨t1,t2⟩:=Bool.and_eq_true_iff.1 ht
 rw[hl,t1,Bool.true_and]
 refine List.all_eq_true.2 fun t hm=>?_
 obtain⟨k,hk,e⟩:=List.getElem_of_mem hm
 have hn:@nth ai (bN LK LL) (k:Int)=t:=by
  rw[qI (t:=ai) (by omega) (by omega)]
  exact e
 have hm':=hU (t:=ai) (xs:=LK) (i:=(k:Int)) (by omega) (by omega)
 have ho:=List.all_eq_true.1 t2 _ hm'
 have hc:=BT h (i:=(k:Int)) (by omega)
 have hr:=xd h (i:=(k:Int)) (by omega)
 rw[hn] at hc hr
 unfold dU jV at ho ⊢
 rw[hc,hr]
 obtain⟨o1,o2⟩:=Bool.and_eq_true_iff.1 ho
 obtain⟨o2,o3⟩:=Bool.and_eq_true_iff.1 o2
 cases (guardOf LL (k:Int)).2 with
 | false=>exact ho
 | true=>
  have o1:=of_decide_eq_true o1
  rw[cond_true,o2,Bool.true_and,decide_eq_true (Nat.le_trans (List.length_filter_le _ _) o1),Bool.true_and]
  exact List.all_eq_true.2 fun r hr=>List.all_eq_true.1 o3 r (List.mem_filter.1 hr).1
theorem Bq {LK:List ai.D} {LL:List aI.D} (h:bS LK LL=true) (LN:List (List ag.D)) (s:ah.D):bF (bN LK LL) LN s=bF LK LN s:=by
 unfold bF
 rw[(ow h).1]
 by_cases h0:0<=s.2.2.2.1
 ·rw[BT h h0]
 ·have:inR s.2.2.2.1 0 ((LK.length:Int)-1)=false:=by
   unfold inR
   rw[decide_eq_false h0]
   rfl
  rw[this]
  rfl
theorem EE {LK:List ai.D} {LL:List aI.D} (h:bS LK LL=true) (plan:List ah.D):bU (bN LK LL) plan=bU LK plan:=by
 have e:bg (bN LK LL)=bg LK:=by
  funext st s
  unfold bg
  rw[Bq h]
 unfold bU dM iM
 rw[e,JT h,(Bool.and_eq_true_iff.1 h).1]
theorem Bx {LK:List ai.D} {LL:List aI.D} (hg:bS LK LL=true) {plan:List ah.D} (hrf:∀i:Int,0<=i->i<(plan.length:Int)->pg i (@nth ah plan i))
  (hT:∀i:Int,0<=i->i<(plan.length:Int)->(@nth ah plan i).1=(1:Int)->0<=(@nth ah plan i).2.2.2.1) :
  ∀(n:Nat),n<=plan.length->∃v,(aT 0 (n:Int)).foldl (cG LL plan) ([],List.replicate plan.length (0:Int))=v/\v.2.length=plan.length ∧
   (∀j:Int,0<=j->j<(n:Int)->(0<=nth (t:=.int .i64) v.2 j/\nth (t:=.int .i64) v.2 j<(v.1.length:Int))/\nth (t:=.sl (.sl af)) (cQ LK v.1) (nth (t:=.int .i64) v.2 j)=nth (t:=.sl (.sl af)) (cQ (bN LK LL) (plan.take n)) j) ∧
   (0<n->nth (t:=.int .i64) v.2 ((n:Int)-1)=(v.1.length:Int)-1)
 | 0,_=>⟨_,rfl,by rw[gy (by omega)];simp,fun j j0 j1=>by omega,fun h=>by omega⟩
 | n+1,hl=>by
  obtain⟨v,e,hvl,hS,_⟩:=Bx hg hrf hT n (by omega)
  have hfold:(aT 0 ((n+1:Nat):Int)).foldl (cG LL plan) ([],List.replicate plan.length (0:Int))=cG LL plan v (n:Int):=by
   rw[DF,List.foldl_append,e]
   rfl
  have hlt:n<plan.length:=by omega
  have hlen:(cQ (bN LK LL) (plan.take n)).length=n:=by rw[xL,List.length_take];omega
  have hlenv:=xL LK v.1
  rw[hfold,take_one hlt,qN]
  have hin:=hrf (n:Int) (by omega) (by omega)
  have hts:=hT (n:Int) (by omega) (by omega)
  have hstep:cG LL plan v (n:Int)=(mj LL (eV v (@nth ah plan (n:Int))) (@nth ah plan (n:Int)),v.2.set n (((mj LL (eV v (@nth ah plan (n:Int))) (@nth ah plan (n:Int))).length:Int)-1)):=rfl
  rw[hstep]
  obtain⟨s,hs⟩:∃s,@nth ah plan (n:Int)=s:=⟨_,rfl⟩
  rw[hs] at hin hts ⊢
  -- the step's own rows, on the tables and on what is seen
  have hren:cu LK (cQ LK v.1) (ren v.2 s)=cond (decide (s.1=(1:Int))) (@nth ai LK s.2.2.2.1).2.1 (cu (bN LK LL) (cQ (bN LK LL) (plan.take n)) s):=by
   have h1:cu LK (cQ LK v.1) (ren v.2 s)=cu LK (cQ (bN LK LL) (plan.take n)) s:=
    DQ (fun k1=>(hS _ (hin k1).1.1 (hin k1).1.2).2) (fun ht=>(hS _ (hin (Ij ht)).2.1 (hin (Ij ht)).2.2).2)
   rw[h1]
   unfold cu
   by_cases k1:s.1=(1:Int)
   ·rw[decide_eq_true k1]
    rfl
   ·rw[decide_eq_false k1]
    rfl
  have e1:cQ LK (eV v s)=cQ LK v.1++[cond (decide (s.1=(1:Int))) (@nth ai LK s.2.2.2.1).2.1 (cu (bN LK LL) (cQ (bN LK LL) (plan.take n)) s)]:=by
   unfold eV
   rw[qN,hren]
  have g1l:(eV v s).length=v.1.length+1:=by unfold eV;simp
  -- the rows at the end are those of the step on what is seen
  have hlast:nth (t:=.sl (.sl af)) (cQ LK (mj LL (eV v s) s)) (((mj LL (eV v s) s).length:Int)-1)=cu (bN LK LL) (cQ (bN LK LL) (plan.take n)) s/\v.1.length<(mj LL (eV v s) s).length ∧
    ∀j:Int,0<=j->j<(v.1.length:Int)->nth (t:=.sl (.sl af)) (cQ LK (mj LL (eV v s) s)) j=nth (t:=.sl (.sl af)) (cQ LK v.1) j:=by
   have row1:s.1=(1:Int)->cu (bN LK LL) (cQ (bN LK LL) (plan.take n)) s=(@nth ai (bN LK LL) s.2.2.2.1).2.1:=by
    intro k1
    unfold cu
    rw[decide_eq_true k1]
    rfl
   unfold mj
   cases hgd:(decide (s.1=(1:Int))&&(guardOf LL s.2.2.2.1).2) with
   | false=>
    simp only[cond_false]
    rw[e1,g1l]
    refine⟨?_,by omega,fun j j0 j1=>gF (t:=.sl (.sl af)) j0 (by rw[hlenv];exact j1)⟩
    rw[fm (t:=.sl (.sl af)) (by rw[hlenv];omega)]
    by_cases k1:s.1=(1:Int)
    ·rw[decide_eq_true k1,Bool.true_and] at hgd
     rw[decide_eq_true k1,cond_true,row1 k1,xd hg (hts k1),hgd]
     rfl
    ·rw[decide_eq_false k1]
     rfl
   | true=>
    obtain⟨k1,hgs⟩:=Bool.and_eq_true_iff.1 hgd
    have k1':=of_decide_eq_true k1
    simp only[cond_true]
    rw[qN,e1,k1,cond_true,row1 k1',xd hg (hts k1'),hgs,cond_true]
    refine⟨?_,by simp[g1l];omega,fun j j0 j1=>?_⟩
    ·rw[fm (t:=.sl (.sl af)) (by simp[g1l,hlenv])]
     have:cu LK (cQ LK v.1++[(@nth ai LK s.2.2.2.1).2.1]) ((2:Int),((eV v s).length:Int)-1,(0:Int),(0:Int),(guardOf LL s.2.2.2.1).1,([]:List Int),()) =
       List.filter (fun r=>holds r (guardOf LL s.2.2.2.1).1) (nth (t:=.sl (.sl af)) (cQ LK v.1++[(@nth ai LK s.2.2.2.1).2.1]) (((eV v s).length:Int)-1)):=rfl
     rw[this,fm (t:=.sl (.sl af)) (by rw[g1l,hlenv];omega)]
    ·rw[List.append_assoc]
     exact gF (t:=.sl (.sl af)) j0 (by rw[hlenv];exact j1)
  obtain⟨q1,q2,q3⟩:=hlast
  generalize mj LL (eV v s) s=o at *
  have et:nth (t:=.int .i64) (v.2.set n ((o.length:Int)-1)) (n:Int)=(o.length:Int)-1:=by
   unfold nth
   rw[List.getD_eq_getElem?_getD,List.getElem?_set]
   simp
   rw[if_pos (by omega)]
   rfl
  refine⟨_,rfl,by simp[hvl],fun j j0 j1=>?_,fun _=>?_⟩
  ·simp only
   by_cases hjn:j=(n:Int)
   ·subst hjn
    rw[et,fm (t:=.sl (.sl af)) (by rw[hlen])]
    have p1:(0:Int)<=(o.length:Int)-1:=by omega
    have p2:(o.length:Int)-1<(o.length:Int):=by omega
    exact⟨⟨p1,p2⟩,q1⟩
   ·have hj1:j<(n:Int):=by omega
    have et2:nth (t:=.int .i64) (v.2.set n ((o.length:Int)-1)) j=nth (t:=.int .i64) v.2 j:=by
     have:=qJ (t:=.int .i64) (a:=v.2) (i:=(n:Int)) (j:=j) (z:=(o.length:Int)-1) (by omega) j0 (fun q=>hjn q.symm)
     simpa using this
    obtain⟨⟨r0,r1⟩,r2⟩:=hS j j0 hj1
    rw[et2,q3 _ r0 r1,gF (t:=.sl (.sl af)) j0 (by rw[hlen];exact hj1)]
    exact⟨⟨r0,Int.lt_trans r1 (Int.ofNat_lt.2 q2)⟩,r2⟩
  ·simp only
   rw[show ((n+1:Nat):Int)-1=(n:Int) by omega,et]
theorem AM {LK:List ai.D} {plan:List ah.D} (h:bU LK plan=true):∀i:Int,0<=i->i<(plan.length:Int)->(@nth ah plan i).1=(1:Int)->0<=(@nth ah plan i).2.2.2.1/\(@nth ah plan i).2.2.2.1<(LK.length:Int):=by
 unfold bU at h
 obtain⟨h1,_⟩:=Bool.and_eq_true_iff.1 h
 unfold dM at h1
 cases hr:iM LK plan with
 | none=>rw[hr] at h1;cases h1
 | some r=>
  intro i i0 i1 k1
  obtain⟨st2,h7⟩:=qq (bg LK) plan (i.toNat+1) ([],[]) r hr
  obtain⟨st1,h6⟩:=qq (bg LK) plan i.toNat ([],[]) r hr
  rw[xj (t:=ah) (by omega),nc,h6,show ((i.toNat:Nat):Int)=i by omega] at h7
  obtain⟨c,hc,_,_⟩:=jl h7
  unfold bF at hc
  obtain⟨_,hc⟩:=aQ hc
  rw[decide_eq_true k1,cond_true] at hc
  have:=(aQ hc).1
  exact⟨fk this,Int.lt_of_le_sub_one (nQ this)⟩
theorem uG {LK:List ai.D} {LL:List aI.D} {plan:List ah.D} (h:(bB LK LL plan).2=true) :
  bU LK (bB LK LL plan).1=true/\dZ LK (bB LK LL plan).1=dZ (bN LK LL) plan:=by
 unfold bB at h ⊢
 cases hb:(bS LK LL&&bU LK plan) with
 | false=>rw[hb] at h;cases h
 | true=>
  obtain⟨hg,hp⟩:=Bool.and_eq_true_iff.1 hb
  rw[hb] at h
  simp only[cond_true] at h ⊢
  have ho:=Ja hg hp
  cases h6:decide (6<((grown LL plan).1.length:Int)) with
  | true=>rw[h6] at h;cases h
  | false=>
   rw[h6] at ho
   simp only[cond_false]
   refine⟨ho,?_⟩
   have hrf:=ot hp
   obtain⟨v,e,hvl,hS,hL⟩:=Bx hg hrf.2 (fun i i0 i1 k1=>(AM hp i i0 i1 k1).1) plan.length (Nat.le_refl _)
   have hv:grown LL plan=v:=e
   rw[hv] at ho ⊢
   have h1:=hrf.1
   have h2:=(hS ((plan.length:Int)-1) (by omega) (by omega)).2
   rw[hL h1,List.take_length] at h2
   unfold dZ
   rw[ho,EE hg,hp]
   exact h2
theorem JW {t:Ty} {xs ys:List t.D} (hl:xs.length=ys.length) (h:∀i:Int,0<=i->@nth t xs i=@nth t ys i):xs=ys:=by
 refine List.ext_getElem hl fun k h1 h2=>?_
 have:=h (k:Int) (by omega)
 rw[qI (t:=t) (by omega) (by omega),qI (t:=t) (by omega) (by omega)] at this
 exact this
theorem zf {LK:List ai.D} {LL:List aI.D} {plan:List ah.D} (h:(bB LK LL plan).2=true):bS LK LL=true:=by
 unfold bB at h
 cases hb:(bS LK LL&&bU LK plan) with
 | false=>rw[hb] at h;cases h
 | true=>exact(Bool.and_eq_true_iff.1 hb).1
end M
end Go.AE
end
section
namespace Go.AE
open Go Go.RowKit
set_option linter.unusedVariables false
def M.LA:aD.D:=((5:Int),((0:Int),(((0:Int),((0:Int),((⟨#[]⟩:ByteArray),()))),())))
def M.Ki (a b:List aD.D):List aD.D:=a++b++[LA]
def M.KT (to:List Int) (p:aD.D):aD.D:=cond (decide (p.1=(2:Int))) (p.1,((nth (t:=.int .i64) to p.2.1),p.2.2)) p
def M.Lf (e:List aD.D) (to:List Int):List aD.D:=e.map (KT to)
def M.mkS (k a b:Int) (e:List aD.D) (l:List Int):ah.D:=(k,(a,(b,((0:Int),(e,(l,()))))))
def M.Ls (s j:ah.D) (at_ rule:Int):List ah.D:=
 cond (decide (rule=(1:Int))) (cond (decide (s.1=(2:Int))&&decide (j.1=(2:Int))) [mkS 2 j.2.1 0 (Ki j.2.2.2.2.1 s.2.2.2.2.1) []] [])
 (cond (decide (rule=(2:Int))) (cond (decide (s.1=(2:Int))&&decide (j.1=(4:Int))) [mkS 4 j.2.1 j.2.2.1 (Ki j.2.2.2.2.1 s.2.2.2.2.1) []] [])
 (cond (decide (rule=(3:Int))) (cond (decide (s.1=(2:Int))&&decide (j.1=(3:Int))) [mkS 2 j.2.1 0 (Lf s.2.2.2.2.1 j.2.2.2.2.2.1) [],mkS 3 at_ 0 [] j.2.2.2.2.2.1] [])
 (cond (decide (rule=(4:Int))) (cond (decide (s.1=(2:Int))&&decide (j.1=(6:Int))) [mkS 2 j.2.1 0 s.2.2.2.2.1 [],mkS 6 at_ 0 [] []] [])
 (cond (decide (rule=(5:Int))) (cond (decide (s.1=(2:Int))&&decide (j.1=(5:Int))) [mkS 2 j.2.1 0 s.2.2.2.2.1 [],mkS 2 j.2.2.1 0 s.2.2.2.2.1 [],mkS 5 at_ (wrap64 (at_+(1:Int))) [] []] [])
 (cond (decide (rule=(6:Int))) (cond (decide (s.1=(3:Int))&&decide (j.1=(3:Int))) [mkS 3 j.2.1 0 [] (s.2.2.2.2.2.1.map fun z=>nth (t:=.int .i64) j.2.2.2.2.2.1 z)] [])
 (cond (decide (rule=(7:Int))) (cond (decide (s.1=(6:Int))&&decide (j.1=(6:Int))) [mkS 6 j.2.1 0 [] []] []) []))))))
def M.Aq (plan:List ah.D) (at_ rule:Int):List ah.D:=Ls (@nth ah plan at_) (@nth ah plan (@nth ah plan at_).2.1) at_ rule
def M.shift (at_ more:Int) (s:ah.D):ah.D:=
 (s.1,cond (!decide (s.1=(1:Int))&&decide (at_<=s.2.1)) (wrap64 (s.2.1+more)) s.2.1,cond (two s.1&&decide (at_<=s.2.2.1)) (wrap64 (s.2.2.1+more)) s.2.2.1,s.2.2.2)
def M.Dg (plan:List ah.D) (at_:Int) (steps:List ah.D):List ah.D:=plan.take at_.toNat++steps++(plan.drop (at_.toNat+1)).map (shift at_ (wrap64 ((steps.length:Int)-1)))
def M.Lv (LK:List ai.D) (plan:List ah.D) (at_ rule:Int):List ah.D×Bool:=
 cond (decide (((Aq plan at_ rule).length:Int)=(0:Int))) (plan,false) (cond (bU LK (Dg plan at_ (Aq plan at_ rule))) (Dg plan at_ (Aq plan at_ rule),true) (plan,false))
namespace M
end M
end Go.AE
end
