/- A plan that is tidy stays as it is, and names the same tables: plain Lean. -/
import Derived.Test.YtiplhefglgpdoaaGreatAeMV
import Derived.Test.YtiplhefglgpdoaaGreatAeMR
import Derived.Test.YtiplhefglgpdoaaGreatAeF
import Derived.Test.YtiplhefglgpdoaaGreatAeEqH
section
namespace Go.AE
open Go Go.RowKit
set_option linter.unusedVariables false
namespace M
def wJ (s:ah.D):Int×Int:=(s.1,s.2.2.2.1)
theorem IJ {to:List Int} {n:Nat} {x:Int} {s:ah.D} (h:¬s.1=(1:Int)->(0<=s.2.1/\s.2.1<(n:Int))/\(0<=s.2.2.1/\s.2.2.1<(n:Int))):ren (to.set n x) s=ren to s:=by
 have hn:∀j:Int,0<=j->j<(n:Int)->nth (t:=.int .i64) (to.set n x) j=nth (t:=.int .i64) to j:=by
  intro j j0 j1
  have:=bV (t:=.int .i64) (a:=to) (i:=(n:Int)) (j:=j) (z:=x) (by omega) j0 (by omega)
  simpa using this
 unfold ren
 by_cases k1:s.1=(1:Int)
 ·have h2:two s.1=false:=by rw[k1];rfl
  rw[decide_eq_true k1,h2]
  rfl
 ·obtain⟨⟨a0,a1⟩,b0,b1⟩:=h k1
  rw[hn _ a0 a1,hn _ b0 b1]
theorem tI {plan:List ah.D} (hrf:∀i:Int,0<=i->i<(plan.length:Int)->fI i (nth (t:=ah) plan i)) (need:List Bool) :
  ∀(n:Nat),n<=plan.length->∃v,(aK 0 (n:Int)).foldl (bt plan need) (List.replicate plan.length (0:Int),[])=v/\v.1.length=plan.length ∧
   v.2.map wJ=((aK 0 (n:Int)).filter fun k=>nth (t:=.bool) need k).map (fun k=>wJ (nth (t:=ah) plan k)) ∧
   (∀j:Int,0<=j->j<(n:Int)->nth (t:=.bool) need j=true->(0<=nth (t:=.int .i64) v.1 j/\nth (t:=.int .i64) v.1 j<(v.2.length:Int))/\nth (t:=ah) v.2 (nth (t:=.int .i64) v.1 j)=ren v.1 (nth (t:=ah) plan j)) ∧
   (∀i:Int,0<=i->i<(v.2.length:Int)->∃j:Int,0<=j/\j<(n:Int)/\nth (t:=.bool) need j=true/\nth (t:=.int .i64) v.1 j=i) ∧
   (0<n->nth (t:=.bool) need ((n:Int)-1)=true->nth (t:=.int .i64) v.1 ((n:Int)-1)=(v.2.length:Int)-1)
 | 0,_=>⟨_,rfl,by rw[bP (by omega)];simp,by rw[bP (by omega)];rfl,fun j j0 j1=>by omega,fun i i0 i1=>by rw[bP (by omega)] at i1;simp at i1;omega,fun h=>by omega⟩
 | n+1,hl=>by
  obtain⟨v,e,hvl,hm,hS,hsur,_⟩:=tI hrf need n (by omega)
  have hfold:(aK 0 ((n+1:Nat):Int)).foldl (bt plan need) (List.replicate plan.length (0:Int),[])=bt plan need v (n:Int):=by
   rw[kR,List.foldl_append,e]
   rfl
  have hne:∀j:Int,j<((n+1:Nat):Int)->¬j=(n:Int)->j<(n:Int):=by intro j h1 h2;omega
  have en:((n+1:Nat):Int)-1=(n:Int):=by omega
  rw[hfold,kR,List.filter_append,List.map_append]
  cases hq:nth (t:=.bool) need (n:Int) with
  | false=>
   have ev:bt plan need v (n:Int)=v:=by unfold bt;rw[hq];rfl
   rw[ev]
   refine⟨v,rfl,hvl,?_,fun j j0 j1 hj=>hS j j0 (hne j j1 (fun q=>by rw[q,hq] at hj;cases hj)) hj,fun i i0 i1=>?_,fun _ h=>?_⟩
   ·rw[hm]
    simp[hq]
   ·obtain⟨j,j0,j1,j2,j3⟩:=hsur i i0 i1
    exact⟨j,j0,by omega,j2,j3⟩
   ·rw[en,hq] at h
    cases h
  | true=>
   have ev:bt plan need v (n:Int)=(v.1.set n (v.2.length:Int),v.2++[ren v.1 (nth (t:=ah) plan (n:Int))]):=by unfold bt;rw[hq];rfl
   rw[ev]
   have et:nth (t:=.int .i64) (v.1.set n (v.2.length:Int)) (n:Int)=(v.2.length:Int):=by
    unfold nth
    rw[List.getD_eq_getElem?_getD,List.getElem?_set]
    simp
    rw[if_pos (by omega)]
    rfl
   have et2:∀j:Int,0<=j->¬j=(n:Int)->nth (t:=.int .i64) (v.1.set n (v.2.length:Int)) j=nth (t:=.int .i64) v.1 j:=by
    intro j j0 hjn
    have:=bV (t:=.int .i64) (a:=v.1) (i:=(n:Int)) (j:=j) (z:=(v.2.length:Int)) (by omega) j0 (fun q=>hjn q.symm)
    simpa using this
   refine⟨_,rfl,by simp[hvl],?_,fun j j0 j1 hj=>?_,fun i i0 i1=>?_,fun _ _=>?_⟩
   ·simp only[List.map_append,hm]
    simp[hq]
    rfl
   ·simp only
    have hin:=hrf j j0 (by omega)
    have hr:ren (v.1.set n (v.2.length:Int)) (nth (t:=ah) plan j)=ren v.1 (nth (t:=ah) plan j):=by
     refine IJ fun h1=>?_
     obtain⟨⟨a0,a1⟩,b0,b1⟩:=hin h1
     have jn:j<=(n:Int):=by omega
     exact⟨⟨a0,Int.lt_of_lt_of_le a1 jn⟩,b0,Int.lt_of_lt_of_le b1 jn⟩
    rw[hr]
    by_cases hjn:j=(n:Int)
    ·subst hjn
     rw[et,iL (t:=ah) rfl]
     exact⟨⟨Int.natCast_nonneg _,Int.ofNat_lt.2 (by simp)⟩,rfl⟩
    ·obtain⟨⟨q0,q1⟩,q2⟩:=hS j j0 (hne j j1 hjn) hj
     rw[et2 j j0 hjn,fL (t:=ah) q0 q1]
     exact⟨⟨q0,Int.lt_trans q1 (Int.ofNat_lt.2 (by simp))⟩,q2⟩
   ·simp only at i1 ⊢
    by_cases hi:i=(v.2.length:Int)
    ·exact⟨(n:Int),Int.natCast_nonneg _,Int.ofNat_lt.2 (Nat.lt_succ_self _),hq,by rw[et,hi]⟩
    ·obtain⟨j,j0,j1,j2,j3⟩:=hsur i i0 (by rw[List.length_append] at i1;simp at i1;omega)
     exact⟨j,j0,by omega,j2,by rw[et2 j j0 (by omega)];exact j3⟩
   ·simp only
    rw[en,et]
    simp
theorem Bh {plan:List ah.D} (hrf:∀i:Int,0<=i->i<(plan.length:Int)->fI i (nth (t:=ah) plan i)) {j:Int} (hj:0<=j) :
  ∀(n:Nat) (u:List Bool),n<=plan.length->nth (t:=.bool) (cv (bu plan) n u) j=true->nth (t:=.bool) u j=true ∨
   ∃k:Int,0<=k/\k<(n:Int)/\nth (t:=.bool) (cv (bu plan) n u) k=true/\¬(nth (t:=ah) plan k).1=(1:Int)/\((nth (t:=ah) plan k).2.1=j\/(two (nth (t:=ah) plan k).1=true/\(nth (t:=ah) plan k).2.2.1=j))
 | 0,u,_,h=>.inl h
 | n+1,u,hn,h=>by
  rcases Bh hrf hj n (bu plan (n:Int) u) (by omega) h with h | ⟨k,k0,k1,k2,k3⟩
  ·cases hu:nth (t:=.bool) u (n:Int) with
   | false=>
    unfold bu at h
    rw[hu] at h
    exact .inl h
   | true=>
    by_cases h1:(nth (t:=ah) plan (n:Int)).1=(1:Int)
    ·unfold bu at h
     rw[hu,decide_eq_true h1] at h
     exact .inl h
    ·have hin:=hrf (n:Int) (by omega) (by omega)
     obtain⟨⟨a0,a1⟩,b0,b1⟩:=hin h1
     have hnn:nth (t:=.bool) (cv (bu plan) (n+1) u) (n:Int)=true:=me hrf (by omega) n _ (by omega) (AJ hin (by omega) hu)
     unfold bu at h
     rw[hu,decide_eq_false h1] at h
     simp only[Bool.not_false,Bool.and_true,cond_true] at h
     by_cases hA:(nth (t:=ah) plan (n:Int)).2.1=j
     ·exact .inr ⟨n,by omega,by omega,hnn,h1,.inl hA⟩
     cases ht:two (nth (t:=ah) plan (n:Int)).1 with
     | false=>
      rw[ht,cond_false,bV a0 hj hA] at h
      exact .inl h
     | true=>
      by_cases hB:(nth (t:=ah) plan (n:Int)).2.2.1=j
      ·exact .inr ⟨n,by omega,by omega,hnn,h1,.inr ⟨ht,hB⟩⟩
      rw[ht,cond_true,bV b0 hj hB,bV a0 hj hA] at h
      exact .inl h
  ·exact .inr ⟨k,k0,by omega,k2,k3⟩
theorem FV {n:Nat} {j:Int} (hj:0<=j) (h:nth (t:=.bool) ((List.replicate n false).set (n-1) true) j=true) (hn:0<n):j=(n:Int)-1:=by
 by_cases e:j=(n:Int)-1
 ·exact e
 ·have:=bV (t:=.bool) (a:=List.replicate n false) (i:=(n:Int)-1) (j:=j) (z:=true) (by omega) hj (fun q=>e q.symm)
  rw[show ((n:Int)-1).toNat=n-1 by omega] at this
  rw[this] at h
  unfold nth at h
  rw[List.getD_eq_getElem?_getD,List.getElem?_replicate] at h
  split at h<;>cases h
theorem BA {plan:List ah.D} (h:iW plan) {k:Int} (k0:0<=k) (k1:k<(plan.length:Int)) (hk:nth (t:=.bool) (cn plan) k=true) (h1:¬(nth (t:=ah) plan k).1=(1:Int)) :
  nth (t:=.bool) (cn plan) (nth (t:=ah) plan k).2.1=true/\(two (nth (t:=ah) plan k).1=true->nth (t:=.bool) (cn plan) (nth (t:=ah) plan k).2.2.1=true):=
 nx h.2 plan.length _ (Nat.le_refl _) (by simp) k k0 k1 hk h1
theorem zj {tables:List ax.D} {plan:List ah.D} (hp:bC tables plan=true):∀i:Int,0<=i->i<((tidy plan).length:Int)->nth (t:=.bool) (cn (tidy plan)) i=true:=by
 have hrf:=cT hp
 have hrq:=cT (vc hp)
 obtain⟨v,e,hvl,hm,hS,hsur,hL⟩:=tI hrf.2 (cn plan) plan.length (Nat.le_refl _)
 have hv:tidy plan=v.2:=congrArg Prod.snd e
 rw[hv] at hrq ⊢
 have key:∀(d:Nat) (j:Int),0<=j->j<(plan.length:Int)->(plan.length:Int)-j<=(d:Int)->nth (t:=.bool) (cn plan) j=true->nth (t:=.bool) (cn v.2) (nth (t:=.int .i64) v.1 j)=true:=by
  intro d
  induction d with
  | zero=>intro j j0 j1 hd;omega
  | succ d ih=>
   intro j j0 j1 hd hj
   rcases Bh hrf.2 j0 plan.length _ (Nat.le_refl _) hj with h | ⟨k,k0,k1,k2,k3,k4⟩
   ·have hjl:=FV j0 h hrf.1
    subst hjl
    rw[hL hrf.1 hj]
    exact zQ hrq
   ·have hin:=(hrf.2 k k0 k1) k3
    have hjk:j<k:=by
     rcases k4 with h | ⟨_,h⟩
     ·rw[<-h];exact hin.1.2
     ·rw[<-h];exact hin.2.2
    have hk:=ih k k0 k1 (by omega) k2
    obtain⟨⟨q0,q1⟩,q2⟩:=hS k k0 k1 k2
    have hc:=BA hrq q0 q1 hk (by rw[q2];exact k3)
    rw[q2] at hc
    rcases k4 with h | ⟨ht,h⟩
    ·have hc:=hc.1
     unfold ren at hc
     simp only[decide_eq_false k3,cond_false,h] at hc
     exact hc
    ·have hc:=hc.2 ht
     unfold ren at hc
     simp only[ht,cond_true,h] at hc
     exact hc
 intro i i0 i1
 obtain⟨j,j0,j1,j2,j3⟩:=hsur i i0 i1
 rw[<-j3]
 exact key plan.length j j0 j1 (by omega) j2
theorem Iy {q:List ah.D} (hrf:iW q) (hn:∀i:Int,0<=i->i<(q.length:Int)->nth (t:=.bool) (cn q) i=true):tidy q=q:=by
 have key:∀n:Nat,n<=q.length->∃v,(aK 0 (n:Int)).foldl (bt q (cn q)) (List.replicate q.length (0:Int),[])=v/\v.1.length=q.length/\(∀j:Int,0<=j->j<(n:Int)->nth (t:=.int .i64) v.1 j=j)/\v.2=q.take n:=by
  intro n
  induction n with
  | zero=>intro _;exact⟨_,rfl,by rw[bP (by omega)];simp,fun j j0 j1=>by omega,by rw[bP (by omega)];rfl⟩
  | succ n ih=>
   intro hl
   obtain⟨v,e,hvl,hj,hv⟩:=ih (by omega)
   have hin:=hrf.2 (n:Int) (by omega) (by omega)
   have hlen:v.2.length=n:=by rw[hv,List.length_take];omega
   have hren:ren v.1 (nth (t:=ah) q (n:Int))=nth (t:=ah) q (n:Int):=by
    unfold ren
    by_cases k1:(nth (t:=ah) q (n:Int)).1=(1:Int)
    ·have h2:two (nth (t:=ah) q (n:Int)).1=false:=by rw[k1];rfl
     rw[decide_eq_true k1,h2]
     rfl
    ·obtain⟨⟨a0,a1⟩,b0,b1⟩:=hin k1
     rw[hj _ a0 a1,hj _ b0 b1,decide_eq_false k1]
     cases two (nth (t:=ah) q (n:Int)).1<;>rfl
   have ev:bt q (cn q) v (n:Int)=(v.1.set n (n:Int),v.2++[nth (t:=ah) q (n:Int)]):=by
    unfold bt
    rw[hn (n:Int) (by omega) (by omega),hren,hlen]
    rfl
   refine⟨(v.1.set n (n:Int),v.2++[nth (t:=ah) q (n:Int)]),by rw[kR,List.foldl_append,e];exact ev,by simp[hvl],fun j j0 j1=>?_,by simp only;rw[take_one (by omega),hv]⟩
   simp only
   by_cases hjn:j=(n:Int)
   ·subst hjn
    unfold nth
    rw[List.getD_eq_getElem?_getD,List.getElem?_set]
    simp
    rw[if_pos (by omega)]
    rfl
   ·have:=bV (t:=.int .i64) (a:=v.1) (i:=(n:Int)) (j:=j) (z:=(n:Int)) (by omega) j0 (fun q=>hjn q.symm)
    rw[show ((n:Int)).toNat=n by omega] at this
    rw[this]
    exact hj j j0 (by omega)
 obtain⟨v,e,_,_,hv⟩:=key q.length (Nat.le_refl _)
 have h2:tidy q=v.2:=congrArg Prod.snd e
 rw[h2,hv,List.take_length]
theorem Ga {tables:List ax.D} {plan:List ah.D} (hp:bC tables plan=true):tidy (tidy plan)=tidy plan:=Iy (cT (vc hp)) (zj hp)
theorem GH {tables:List ax.D} {plan:List ah.D} (hp:bC tables plan=true):(tidy plan).length<=plan.length:=by
 obtain⟨v,e,hvl,hm,_⟩:=tI (cT hp).2 (cn plan) plan.length (Nat.le_refl _)
 have hv:tidy plan=v.2:=congrArg Prod.snd e
 have h:=congrArg List.length hm
 rw[List.length_map,List.length_map] at h
 rw[hv,h]
 refine Nat.le_trans (List.length_filter_le _ _) ?_
 unfold aK
 rw[List.length_map,List.length_range]
 omega
theorem Bf (p:List ah.D):cC p=((((aK 0 (p.length:Int)).filter fun k=>nth (t:=.bool) (cn p) k).map fun k=>wJ (nth (t:=ah) p k)).filter fun x=>decide (x.1=(1:Int))).map (fun x=>x.2):=by
 unfold cC
 rw[List.filter_map,List.map_map,List.filter_filter]
 have e:(fun k=>nth (t:=.bool) (cn p) k&&decide ((nth (t:=ah) p k).1=(1:Int)))=fun k=>((fun x:Int×Int=>decide (x.1=(1:Int)))∘fun k=>wJ (nth (t:=ah) p k)) k&&nth (t:=.bool) (cn p) k:=by
  funext k
  exact Bool.and_comm _ _
 rw[e]
 rfl
theorem FQ (p:List ah.D):((aK 0 (p.length:Int)).map fun k=>wJ (nth (t:=ah) p k))=p.map wJ:=by
 have key:∀n:Nat,n<=p.length->((aK 0 (n:Int)).map fun k=>wJ (nth (t:=ah) p k))=(p.take n).map wJ:=by
  intro n
  induction n with
  | zero=>intro _;rw[bP (by omega)];simp
  | succ n ih=>
   intro hn
   rw[kR,List.map_append,ih (by omega),take_one (by omega),List.map_append]
   rfl
 rw[key p.length (Nat.le_refl _),List.take_length]
theorem Ew {tables:List ax.D} {plan:List ah.D} (hp:bC tables plan=true):cC (tidy plan)=cC plan:=by
 obtain⟨v,e,hvl,hm,_⟩:=tI (cT hp).2 (cn plan) plan.length (Nat.le_refl _)
 have hv:tidy plan=v.2:=congrArg Prod.snd e
 have hall:(aK 0 ((tidy plan).length:Int)).filter (fun k=>nth (t:=.bool) (cn (tidy plan)) k)=aK 0 ((tidy plan).length:Int):=List.filter_eq_self.2 fun k hk=>zj hp k (eJ.1 hk).1 (eJ.1 hk).2
 rw[Bf,Bf,hall,FQ,hv,hm]
theorem DX {tables:List ax.D} {plan:List ah.D} (hp:bC tables plan=true):dc tables (tidy plan)=dc tables plan:=by
 rw[<-yg hp,<-yg (vc hp),Ew hp]
end M
end Go.AE
end
section
namespace Go.AE
open Go Go.RowKit
set_option linter.unusedVariables false
set_option linter.unusedSimpArgs false
theorem GQ {A R:List Int} {x:Int} {i:Int} (h:i=(A.length:Int)):nth (t:=.int .i64) (A++x::R) i=x:=by
 subst h
 unfold nth
 rw[List.getD_eq_getElem?_getD]
 simp
theorem HV {A R:List Int} {x y:Int} {n:Nat} (h:n=A.length):(A++x::R).set n y=A++y::R:=by
 subst h
 simp
theorem Fi {xs:List Int} (hs:xs.length<=1048576) (b c:Int):∀(A:List Int) (x:Int) (R:List Int) (j:Int),j=(A.length:Int)->A.length+1+R.length=xs.length →
  cr (F.ct xs 0 b c) (j,A.reverse++x::R)=some (M.ins A x R)
 | [],x,R,j,hj,_=>by
  subst hj
  rw[dQ]
  unfold F.ct
  simp only[List.length_nil]
  rfl
 | y::A,x,R,j,hj,hl=>by
  subst hj
  simp only[List.length_cons] at hl
  have hw:wrap64 (((y::A).length:Int)-(1:Int))=(A.length:Int):=by
   rw[List.length_cons,aI (by omega) (by omega)]
   omega
  have hx:nth (t:=.int .i64) ((y::A).reverse++x::R) ((y::A).length:Int)=x:=GQ (by simp)
  have hy:nth (t:=.int .i64) ((y::A).reverse++x::R) (A.length:Int)=y:=by
   rw[List.reverse_cons,List.append_assoc]
   exact GQ (by simp)
  have h1:(((y::A).reverse++x::R).set ((y::A).length:Int).toNat y).set (A.length:Int).toNat x=A.reverse++x::y::R:=by
   rw[HV (by simp),List.reverse_cons,List.append_assoc]
   exact HV (by simp)
  rw[dQ]
  unfold F.ct
  simp only[hw,hx,hy,bF]
  rw[show (decide ((0:Int)<((y::A).length:Int))==true)=true by rw[decide_eq_true (by simp only[List.length_cons];omega)];rfl,cond_true,ai (by omega),ai (by simp only[List.length_cons];omega),ai (by omega),ai (by omega),h1]
  unfold M.ins
  cases decide (x<y) with
  | true=>rw[cond_true,cond_true,aU];exact Fi hs b c A x (y::R) _ rfl (by simp;omega)
  | false=>rw[cond_false,cond_false,rL];simp
theorem Bx {xs:List Int} (hs:xs.length<=1048576) (b:Int):∀(R A:List Int) (i:Int),i=(A.length:Int)->b=(A.length:Int)+(R.length:Int)->A.length+R.length=xs.length →
  aM (F.cU xs 0 b) (aK i b) (A.reverse++R)=some (.inl (M.iQ A R))
 | [],A,i,hi,hb,_=>by
  rw[bP (by simp at hb;omega)]
  simp[aM,M.iQ]
 | x::R,A,i,hi,hb,hl=>by
  simp only[List.length_cons] at hb hl
  rw[dw (by omega),bK]
  unfold F.cU
  rw[Fi hs b i A x R i hi (by omega)]
  show aM _ _ (M.ins A x R)=_
  have h2:=M.zC A x []
  have:=Bx hs b R (M.ins A x []).reverse (i+1) (by simp[h2];omega) (by simp[h2];omega) (by simp[h2];omega)
  rw[List.reverse_reverse,<-M.BT] at this
  rw[show M.iQ A (x::R)=M.iQ (M.ins A x []).reverse R from rfl,<-this]
  rfl
theorem sZ {xs:List Int} (hs:xs.length<=1048576) {k:Int} (k1:1<=k):∀(m:Nat) (j:Int) (n:Int) (d:List Int),(m:Int)=(xs.length:Int)-k-j->1<=j->d.length=xs.length->0<=n->n<=k+j-1 →
  (∀i:Int,k+j-1<=i->nth (t:=.int .i64) d i=nth (t:=.int .i64) xs i)->d.take n.toNat=M.cE (xs.take (k+j).toNat) →
  ∃n' d',aM (F.fc xs k) (aK j ((xs.length:Int)-k)) (n,d)=some (.inl (n',d'))/\d'.length=xs.length/\0<=n'/\n'<=(xs.length:Int)/\d'.take n'.toNat=M.cE xs
 | 0,j,n,d,hm,j1,hd,n0,n1,hk,ht=>by
  refine⟨n,d,?_,hd,n0,by omega,?_⟩
  ·rw[bP (by omega)];rfl
  ·rw[ht,List.take_of_length_le (by omega)]
 | m+1,j,n,d,hm,j1,hd,n0,n1,hk,ht=>by
  rw[dw (by omega),bK]
  have hw:wrap64 (j-(1:Int))=j-1:=aI (by omega) (by omega)
  have hwn:wrap64 (n+(1:Int))=n+1:=aI (by omega) (by omega)
  have e1:nth (t:=.int .i64) d (k+j)=nth (t:=.int .i64) xs (k+j):=hk _ (by omega)
  have e2:nth (t:=.int .i64) d (k+(j-1))=nth (t:=.int .i64) xs (k+(j-1)):=hk _ (by omega)
  have hsn:xs.take (k+(j+1)).toNat=xs.take (k+j).toNat++[nth (t:=.int .i64) xs (k+j)]:=by
   have:=M.jZ (t:=.int .i64) (xs:=xs) (k:=(k+j).toNat) (by omega)
   rw[show (((k+j).toNat:Nat):Int)=k+j by omega] at this
   rw[<-this]
   congr 1
   omega
  have hlast:(xs.take (k+j).toNat).getLast? = some (nth (t:=.int .i64) xs (k+(j-1))):=by
   have:=M.jZ (t:=.int .i64) (xs:=xs) (k:=(k+(j-1)).toNat) (by omega)
   rw[show (((k+(j-1)).toNat:Nat):Int)=k+(j-1) by omega,show (k+(j-1)).toNat+1=(k+j).toNat by omega] at this
   rw[this]
   simp
  have hne:xs.take (k+j).toNat≠[]:=by intro e;rw[e] at hlast;cases hlast
  have hc:M.cE (xs.take (k+(j+1)).toNat)=M.gp (M.cE (xs.take (k+j).toNat)) (nth (t:=.int .i64) xs (k+j)):=by rw[hsn,M.oY]
  unfold F.fc
  simp only[hw,hwn,e1,e2]
  rw[ai (by omega),ai (by omega),ai (by omega)]
  by_cases he:nth (t:=.int .i64) xs (k+j)=nth (t:=.int .i64) xs (k+(j-1))
  ·rw[decide_eq_true he]
   simp only[Bool.not_true,cond_false,aU]
   refine sZ hs k1 m (j+1) n d (by omega) (by omega) hd n0 (by omega) (fun i hi=>hk i (by omega)) ?_
   rw[ht,hc]
   unfold M.gp
   rw[M.uC hne,hlast,decide_eq_true (by rw[he]),cond_true]
  ·rw[decide_eq_false he]
   simp only[Bool.not_false,cond_true]
   rw[ai n0,ai (by omega),aU]
   refine sZ hs k1 m (j+1) (n+1) _ (by omega) (by omega) (by simpa using hd) (by omega) (by omega) (fun i hi=>?_) ?_
   ·rw[M.bV n0 (by omega) (by omega)]
    exact hk i (by omega)
   ·rw[hc]
    unfold M.gp
    rw[M.uC hne,hlast,decide_eq_false (by intro e;exact he (Option.some.inj e).symm),cond_false,<-ht]
    rw[show (n+1).toNat=n.toNat+1 by omega,M.jZ (t:=.int .i64) (by rw[List.length_set];omega)]
    congr 1
    ·rw[List.take_set_of_le (Nat.le_refl _)]
    ·congr 1
     rw[show ((n.toNat:Nat):Int)=n by omega]
     unfold nth
     rw[List.getD_eq_getElem?_getD,List.getElem?_set_self (by omega)]
     rfl
theorem yZ {xs:List Int} (hs:xs.length<=1048576):∀(m:Nat) (i:Int),(m:Int)=(xs.length:Int)-i->1<=i->M.cE (xs.take i.toNat)=xs.take i.toNat →
  (aM (F.dW xs) (aK i (xs.length:Int)) ()=some (.inl ())/\M.cE xs=xs) ∨
  ∃n' d',aM (F.dW xs) (aK i (xs.length:Int)) ()=some (.inr (n',d'))/\d'.take n'.toNat=M.cE xs
 | 0,i,hm,i1,hc=>by
  refine .inl ⟨?_,?_⟩
  ·rw[bP (by omega)];rfl
  ·rwa [List.take_of_length_le (by omega)] at hc
 | m+1,i,hm,i1,hc=>by
  rw[dw (by omega),bK]
  have hw:wrap64 (i-(1:Int))=i-1:=aI (by omega) (by omega)
  have hsn:xs.take (i+1).toNat=xs.take i.toNat++[nth (t:=.int .i64) xs i]:=by
   have:=M.jZ (t:=.int .i64) (xs:=xs) (k:=i.toNat) (by omega)
   rw[show ((i.toNat:Nat):Int)=i by omega] at this
   rw[<-this]
   congr 1
   omega
  have hlast:(xs.take i.toNat).getLast? = some (nth (t:=.int .i64) xs (i-1)):=by
   have:=M.jZ (t:=.int .i64) (xs:=xs) (k:=(i-1).toNat) (by omega)
   rw[show (((i-1).toNat:Nat):Int)=i-1 by omega,show (i-1).toNat+1=i.toNat by omega] at this
   rw[this]
   simp
  have hcs:M.cE (xs.take (i+1).toNat)=M.gp (xs.take i.toNat) (nth (t:=.int .i64) xs i):=by rw[hsn,M.oY,hc]
  unfold F.dW
  simp only[hw]
  rw[ai (by omega),ai (by omega)]
  by_cases he:nth (t:=.int .i64) xs i=nth (t:=.int .i64) xs (i-1)
  ·rw[decide_eq_true he,cond_true,ai (by omega),ai (by unfold ew;omega),ai (by unfold ew;omega)]
   obtain⟨n',d',h1,h2,h3,h4,h5⟩:=sZ hs i1 m 1 i xs (by omega) (by omega) rfl (by omega) (by omega) (fun _ _=>rfl) (by
    rw[hcs]
    unfold M.gp
    rw[hlast,decide_eq_true (by rw[he]),cond_true])
   rw[h1]
   simp only[aU]
   rw[ai h3,ai (by omega),ai h3,ai (by simp;omega),rL]
   refine .inr ⟨n',_,rfl,?_⟩
   rw[List.take_append_of_le_length (by simp;omega),List.take_take,Nat.min_self,h5]
  ·rw[decide_eq_false he,cond_false,aU]
   refine yZ hs m (i+1) (by omega) (by omega) ?_
   rw[hcs,hsn]
   unfold M.gp
   rw[hlast,decide_eq_false (by intro e;exact he (Option.some.inj e).symm),cond_false]
theorem CN {xs:List Int} (hs:xs.length<=1048576):F.jv xs=some (M.cE xs):=by
 unfold F.jv
 match xs,hs with
 | [],_=>rfl
 | [x],_=>rfl
 | x::y::l,hs=>
  rw[decide_eq_false (by simp only[List.length_cons];omega),cond_false]
  rcases yZ hs (l.length+1) 1 (by simp only[List.length_cons];omega) (by omega) rfl with⟨h1,h2⟩ | ⟨n',d',h1,h2⟩
  ·rw[h1,aU,h2]
  ·rw[h1,rL,h2]
end Go.AE
namespace Go.AE
open Go Go.RowKit
end Go.AE
namespace Go.AE
open Go Go.RowKit
end Go.AE
end
section
namespace Go.AE
open Go Go.RowKit
set_option linter.unusedSimpArgs false
set_option linter.unusedVariables false
theorem Ak {row:List af.D} {E:List aE.D} (p:aE.D) (st:List af.D) (hp:Sm aE p) (hs:Sm (.sl af) st) (hl:st.length<=1000) (h1:M.takes p<=(st.length:Int)) (hk:1<=p.1/\p.1<=8) (hc:M.wY p row.length) :
  F.dX row E p st=some (.inl (M.ke row st p)):=by
 obtain⟨t0,t2⟩:=uW p
 have hw:=CT (n:=st.length) (k:=M.takes p) (by omega) t0 t2
 have hct:=CS st (k:=(st.length:Int)-M.takes p) (by omega) (by omega)
 have hn:((st.length:Int)-M.takes p).toNat=st.length-(M.takes p).toNat:=by omega
 rw[hn] at hct
 unfold F.dX M.ke
 rw[hw,hct]
 have hsm:Sm (.sl af) (st.drop (st.length-(M.takes p).toNat)):=⟨by rw[List.length_drop];omega,fun x hx=>hs.2 x (List.mem_of_mem_drop hx)⟩
 rw[ai hsm,ai hc,ai hk]
 simp only[bF]
 repeat rw[ai (by first | omega | (rw[List.length_drop];omega) | (unfold lim;simp;omega))]
 rw[hn]
end Go.AE
end
