/- Bonds and changes: plain Lean. -/
import Derived.Test.YtmkgiaecgkicoaaGreatAeMR
import Derived.Test.YtmkgiaecgkicoaaGreatAeEqI
namespace Go.AE
open Go Go.RowKit
set_option linter.unusedVariables false
set_option linter.unusedSimpArgs false
namespace M
abbrev rowsOf (A:List ag.D) (i:Int):List (List aa.D):=(nth (t:=ag) A i).2.1
def DH (A B:List ag.D):Prop:=A.length=B.length/\∀i:Int,0<=i->(nth (t:=ag) A i).1=(nth (t:=ag) B i).1
theorem EY {A B C:List ag.D} (h:DH A B) (g:DH B C):DH A C:=⟨h.1.trans g.1,fun i i0=>(h.2 i i0).trans (g.2 i i0)⟩
theorem FC {n b:Int} (h:¬ 0<=n):inR n 0 b=false:=by
 unfold inR
 rw[decide_eq_false h]
 rfl
theorem BQ {A B:List ag.D} (h:DH A B) (b:ah.D):aN A b=aN B b:=by
 unfold aN
 rw[h.1]
 by_cases h0:0<=b.2.1
 ·rw[h.2 _ h0]
  by_cases h1:0<=b.2.2.2.1
  ·rw[h.2 _ h1]
  ·rw[FC h1]
   rfl
 ·rw[FC h0]
  rfl
theorem Du {ts:List ag.D} {i:Int} {w:List (List aa.D)} (h0:0<=i):DH (ts.set i.toNat ((nth (t:=ag) ts i).1,(w,()))) ts:=by
 refine⟨List.length_set,fun j j0=>?_⟩
 by_cases e:i=j
 ·subst e
  by_cases h1:i<(ts.length:Int)
  ·rw[sE h0 h1]
  ·rw[List.set_eq_of_length_le (by omega)]
 ·rw[BI h0 j0 e]
theorem GW {ts:List ag.D} {i:Int} {w:List (List aa.D)} (h:aF ts=true) (h0:0<=i) (h1:i<(ts.length:Int)) (hl:w.length<=6) (hw:∀r∈w,bU (nth (t:=ag) ts i).1 r=true) :
  aF (ts.set i.toNat ((nth (t:=ag) ts i).1,(w,())))=true:=by
 unfold aF at h ⊢
 rw[Bool.and_eq_true,List.all_eq_true] at h ⊢
 refine⟨by rw[List.length_set];exact h.1,fun t ht=>?_⟩
 rcases List.mem_or_eq_of_mem_set ht with ht | rfl
 ·exact h.2 t ht
 ·have hc:=h.2 _ (cF (t:=ag) h0 h1)
  unfold dm gF at hc ⊢
  rw[Bool.and_eq_true,Bool.and_eq_true,List.all_eq_true] at hc ⊢
  exact⟨decide_eq_true hl,hc.2.1,hw⟩
theorem pZ {ts:List ag.D} (h:aF ts=true) {i:Int} (h0:0<=i) (h1:i<(ts.length:Int)):(rowsOf ts i).length<=6/\∀r∈rowsOf ts i,bU (nth (t:=ag) ts i).1 r=true:=by
 unfold aF at h
 rw[Bool.and_eq_true,List.all_eq_true] at h
 have hc:=h.2 _ (cF (t:=ag) h0 h1)
 unfold dm gF at hc
 rw[Bool.and_eq_true,Bool.and_eq_true,List.all_eq_true] at hc
 exact⟨of_decide_eq_true hc.1,hc.2.2⟩
theorem ir {ts:List ag.D} {c:ay.D} (h:aR ts c=true):aF ts=true/\(0<=c.1/\c.1<(ts.length:Int))/\bU (nth (t:=ag) ts c.1).1 c.2.1=true ∧
  (c.2.2.1=true->(rowsOf ts c.1).length<6)/\(c.2.2.1=false->0<=rowAt (rowsOf ts c.1) c.2.1):=by
 unfold aR at h
 rw[Bool.and_eq_true,Bool.and_eq_true,Bool.and_eq_true] at h
 obtain⟨h1,h2,h3,h4⟩:=h
 have h2:=wY h2
 refine⟨h1,⟨h2.1,Int.lt_of_le_sub_one h2.2⟩,h3,fun e=>?_,fun e=>?_⟩
 ·rw[e,cond_true] at h4
  have:=of_decide_eq_true h4
  exact Int.ofNat_lt.1 this
 ·rw[e,cond_false] at h4
  exact of_decide_eq_true h4
theorem qA {α:Type} (xs:List α) (n:Nat):(xs.take n++xs.drop (n+1)).Sublist xs:=by
 have h:=(List.take_sublist n xs).append (List.Sublist.refl (xs.drop (n+1)))
 conv=>rhs;rw[<-List.take_append_drop n xs]
 refine(List.Sublist.refl _).append ?_
 rw[<-List.drop_drop]
 exact List.drop_sublist _ _
theorem uU {rows:List (List aa.D)} {c:ay.D} (h:c.2.2.1=false):(jt rows c).Sublist rows:=by
 unfold jt
 rw[h,cond_false]
 exact qA _ _
theorem El {ts:List ag.D} {c:ay.D} (h:aR ts c=true):DH (aQ ts c) ts:=Du (ir h).2.1.1
theorem Dw {ts:List ag.D} {c:ay.D} (h:aR ts c=true):aF (aQ ts c)=true:=by
 obtain⟨h1,⟨h2,h3⟩,h4,h5,h6⟩:=ir h
 obtain⟨r1,r2⟩:=pZ h1 h2 h3
 refine GW h1 h2 h3 ?_ ?_
 ·cases e:c.2.2.1 with
  | true=>
   unfold jt
   rw[e,cond_true,List.length_append]
   exact h5 e
  | false=>exact Nat.le_trans (uU e).length_le r1
 ·cases e:c.2.2.1 with
  | true=>
   unfold jt
   rw[e,cond_true]
   intro r hr
   rcases List.mem_append.1 hr with hr | hr
   ·exact r2 r hr
   ·rw[List.mem_singleton.1 hr];exact h4
  | false=>exact fun r hr=>r2 r ((uU e).subset hr)
theorem Ie {ts:List ag.D} {i:Int} {w:List (List aa.D)} (h:Sm (.sl ag) ts) (hw:Sm (.sl (.sl aa)) w):Sm (.sl ag) (ts.set i.toNat ((nth (t:=ag) ts i).1,(w,()))):=by
 refine⟨by rw[List.length_set];exact h.1,fun t ht=>?_⟩
 rcases List.mem_or_eq_of_mem_set ht with ht | rfl
 ·exact h.2 t ht
 ·exact⟨(aH (t:=ag) h i).1,hw,trivial⟩
theorem oK {rows:List (List aa.D)} (h:Sm (.sl (.sl aa)) rows) (n:Nat):Sm (.sl (.sl aa)) (rows.take n++rows.drop (n+1)):=⟨Nat.le_trans (qA rows n).length_le h.1,fun x hx=>h.2 x ((qA rows n).subset hx)⟩
theorem uD {ts:List ag.D} {c:ay.D} (hs:Sm (.sl ag) ts) (hc:Sm ay c) (h:aR ts c=true):Sm (.sl ag) (aQ ts c):=by
 have hr:=(aH (t:=ag) hs c.1).2.1
 refine Ie hs ?_
 unfold jt
 cases e:c.2.2.1 with
 | true=>
  have h5:=(ir h).2.2.2.1 e
  rw[cond_true]
  refine⟨by rw[List.length_append];simp only[List.length_cons,List.length_nil];unfold rowsOf at h5;omega,fun x hx=>?_⟩
  rcases List.mem_append.1 hx with hx | hx
  ·exact hr.2 x hx
  ·rw[List.mem_singleton.1 hx];exact hc.2.1
 | false=>exact oK hr _
theorem Ja {t:Ty} (xs:List t.D) (P:t.D->Prop):(∀x∈xs,P x) ↔ ∀n∈aT 0 (xs.length:Int),P (nth (t:=t) xs n):=by
 constructor
 ·exact fun h n hn=>h _ (yH hn)
 ·intro h x hx
  rw[<-gD xs] at hx
  obtain⟨n,hn,rfl⟩:=List.mem_map.1 hx
  exact h n hn
theorem Gr (A:List ag.D) (b:ah.D):broken A b=-1 ↔ ∀n∈aT 0 ((dD A b).length:Int),breaks A b n=false:=by
 unfold broken
 cases h:(aT 0 ((dD A b).length:Int)).find? (breaks A b) with
 | none=>
  rw[List.find?_eq_none] at h
  exact⟨fun _ n hn=>by simpa using h n hn,fun _=>rfl⟩
 | some n=>
  have hm:=cS.1 (List.mem_of_find?_eq_some h)
  have hp:=List.find?_some h
  refine⟨fun e=>?_,fun e=>?_⟩
  ·have:n=-1:=e
   omega
  ·rw[e n (List.mem_of_find?_eq_some h)] at hp
   cases hp
theorem xE {A:List ag.D} {b:ah.D} (h:0<=broken A b):broken A b<((dD A b).length:Int)/\breaks A b (broken A b)=true:=by
 unfold broken at h ⊢
 cases h2:(aT 0 ((dD A b).length:Int)).find? (breaks A b) with
 | none=>rw[h2] at h;exact absurd h (by decide)
 | some n=>exact⟨(cS.1 (List.mem_of_find?_eq_some h2)).2,List.find?_some h2⟩
theorem EW {A:List ag.D} {b:ah.D} (hk:b.1=(2:Int)):broken A b=-1 ↔ ∀r∈dD A b,gn (taken r b.2.2.1)=true\/∃q∈rowsOf A b.2.2.2.1,taken q b.2.2.2.2.1=taken r b.2.2.1:=by
 rw[Gr,Ja (t:=.sl aa)]
 refine forall_congr' fun n=>forall_congr' fun _=>?_
 unfold breaks
 rw[hk]
 simp only[Int.reduceEq,decide_false,cond_false]
 cases gn (taken (nth (t:=.sl aa) (dD A b) n) b.2.2.1) with
 | true=>simp
 | false=>simp[rowsOf]
theorem Ez {α:Type} {xs:List α} {p q:α->Bool} (h:∀x∈xs,p x=q x):xs.any p=xs.any q:=by
 induction xs with
 | nil=>rfl
 | cons x xs ih=>rw[List.any_cons,List.any_cons,h x (List.mem_cons_self ..),ih fun y hy=>h y (List.mem_cons_of_mem _ hy)]
theorem Jl {ts:List ag.D} {bonds:List ah.D} (hl:bonds.length<=4) (h0:aF ts=true) (h1:∀b∈bonds,aN ts b=true):bS ts bonds=!List.any bonds (fun e=>decide (0<=broken ts e)):=by
 unfold bS
 rw[decide_eq_true hl,Bool.true_and,List.all_eq_not_any_not]
 congr 1
 refine Ez ?_
 intro b hb
 rw[kV,h0,h1 b hb]
 simp
theorem IX {bonds:List ah.D} {now:List ag.D} (c:ay.D) (h:aF now=true/\bS now bonds=true):aF (rD bonds now c)=true/\bS (rD bonds now c) bonds=true:=by
 unfold rD
 cases hc:aR now c&&bS (aQ now c) bonds with
 | false=>exact h
 | true=>
  rw[Bool.and_eq_true] at hc
  exact⟨Dw hc.1,hc.2⟩
theorem pK {bonds:List ah.D}:∀(cs:List ay.D) {now:List ag.D},aF now=true/\bS now bonds=true->aF (cs.foldl (rD bonds) now)=true/\bS (cs.foldl (rD bonds) now) bonds=true
 | [],_,h=>h
 | c::cs,_,h=>pK cs (IX c h)
def size:List ag.D->Nat
 | []=>0
 | t::ts=>t.2.1.length+size ts
theorem size_set:∀(ts:List ag.D) (k:Nat) (z:ag.D) (hk:k<ts.length),size (ts.set k z)+ts[k].2.1.length=size ts+z.2.1.length
 | t::ts,0,z,_=>by
  show z.2.1.length+size ts+t.2.1.length=t.2.1.length+size ts+z.2.1.length
  omega
 | t::ts,k+1,z,hk=>by
  have:=size_set ts k z (by simpa using hk)
  show t.2.1.length+size (ts.set k z)+(ts[k]'(by simpa using hk)).2.1.length=t.2.1.length+size ts+z.2.1.length
  omega
theorem size_le {ts:List ag.D} (h:aF ts=true):size ts<=18:=by
 unfold aF at h
 rw[Bool.and_eq_true,List.all_eq_true] at h
 have key:∀(l:List ag.D),(∀t∈l,dm t=true)->size l<=6 * l.length:=by
  intro l
  induction l with
  | nil=>intro _;exact Nat.le_refl _
  | cons t l ih=>
   intro hl
   have h1:=hl t (List.mem_cons_self ..)
   have h2:=ih fun u hu=>hl u (List.mem_cons_of_mem _ hu)
   unfold dm at h1
   rw[Bool.and_eq_true] at h1
   have h3:=of_decide_eq_true h1.1
   show t.2.1.length+size l<=6 * (l.length+1)
   omega
 have h1:=key ts h.2
 have h2:=of_decide_eq_true h.1
 omega
theorem HY {α:Type} (xs:List α) (n:Nat) (h:n<xs.length):(xs.take n++xs.drop (n+1)).length+1=xs.length:=by
 rw[List.length_append,List.length_take,List.length_drop]
 omega
theorem sO {ts:List ag.D} {i n:Int} (h0:0<=i) (h1:i<(ts.length:Int)) (n0:0<=n) (n1:n<((rowsOf ts i).length:Int)):size (dU ts i n)+1=size ts:=by
 have h:=size_set ts i.toNat ((nth (t:=ag) ts i).1,((nth (t:=ag) ts i).2.1.take n.toNat++(nth (t:=ag) ts i).2.1.drop (n.toNat+1),())) (by omega)
 have e:=HY (rowsOf ts i) n.toNat (by omega)
 have hn:ts[i.toNat]'(by omega)=nth (t:=ag) ts i:=(ql (t:=ag) h0 h1).symm
 rw[hn] at h
 unfold rowsOf at e
 unfold dU
 simp only at h
 omega
theorem Jo {ts:List ag.D} {i:Int} (n:Int) (h:aF ts=true) (h0:0<=i) (h1:i<(ts.length:Int)):aF (dU ts i n)=true:=
 GW h h0 h1 (Nat.le_trans (qA _ _).length_le (pZ h h0 h1).1) fun r hr=>(pZ h h0 h1).2 r ((qA _ _).subset hr)
theorem BD {ts:List ag.D} {i:Int} (n:Int) (h0:0<=i):DH (dU ts i n) ts:=Du h0
theorem Cu {ts:List ag.D} (i n:Int) (h:Sm (.sl ag) ts):Sm (.sl ag) (dU ts i n):=Ie h (oK (aH (t:=ag) h i).2.1 _)
theorem Bz {ts:List ag.D} {i:Int} (n:Int) (h0:0<=i) (h1:i<(ts.length:Int)) {j:Int} (j0:0<=j):rowsOf (dU ts i n) j=if i=j then (rowsOf ts i).take n.toNat++(rowsOf ts i).drop (n.toNat+1) else rowsOf ts j:=by
 unfold rowsOf dU
 by_cases e:i=j
 ·rw[if_pos e,<-e,sE h0 h1]
 ·rw[if_neg e,BI h0 j0 e]
def mb (bonds:List ah.D) (A:List ag.D):Prop:=aF A=true/\∀b∈bonds,aN A b=true
theorem mM {bonds:List ah.D} {A:List ag.D} (h:mb bonds A) {b:ah.D} (hb:b∈bonds):0<=b.2.1/\b.2.1<(A.length:Int):=(kz (h.2 b hb)).1
theorem qG {bonds:List ah.D} {A:List ag.D} (h:mb bonds A) {b:ah.D} (hb:b∈bonds) (n:Int):mb bonds (dU A b.2.1 n):=by
 obtain⟨h0,h1⟩:=mM h hb
 exact⟨Jo n h.1 h0 h1,fun c hc=>by rw[BQ (BD n h0)];exact h.2 c hc⟩
theorem jv {A:List ag.D} {b:ah.D} (h:loose A b=true):b.2.2.2.2.2.1=true/\0<=broken A b/\broken A b<((dD A b).length:Int)/\breaks A b (broken A b)=true:=by
 unfold loose at h
 rw[Bool.and_eq_true] at h
 have h2:=of_decide_eq_true h.2
 exact⟨h.1,h2,xE h2⟩
theorem jy {bonds:List ah.D}:∀(n:Nat) {A:List ag.D},mb bonds A->size A<n->(∀b∈bonds,loose (follow bonds n A) b=false)/\mb bonds (follow bonds n A)/\DH (follow bonds n A) A/\∀i:Int,0<=i->(rowsOf (follow bonds n A) i).Sublist (rowsOf A i)
 | 0,_,_,h=>absurd h (Nat.not_lt_zero _)
 | n+1,A,hA,hs=>by
  unfold follow
  cases hf:bonds.find? (loose A) with
  | none=>
   rw[List.find?_eq_none] at hf
   exact⟨fun b hb=>by simpa using hf b hb,hA,⟨rfl,fun _ _=>rfl⟩,fun i _=>List.Sublist.refl _⟩
  | some b=>
   have hb:=List.mem_of_find?_eq_some hf
   obtain⟨_,l1,l2,_⟩:=jv (List.find?_some hf)
   obtain⟨h0,h1⟩:=mM hA hb
   have hz:=sO h0 h1 l1 l2
   obtain⟨r1,r2,r3,r4⟩:=jy n (qG hA hb (broken A b)) (by omega)
   refine⟨r1,r2,EY r3 (BD _ h0),fun i i0=>(r4 i i0).trans ?_⟩
   rw[Bz _ h0 h1 i0]
   by_cases e:b.2.1=i
   ·rw[if_pos e,<-e];exact qA _ _
   ·rw[if_neg e];exact List.Sublist.refl _
theorem sP {bonds:List ah.D}:∀(n:Nat) {A:List ag.D},Sm (.sl ag) A->Sm (.sl ag) (follow bonds n A)
 | 0,_,h=>h
 | n+1,A,h=>by
  unfold follow
  cases bonds.find? (loose A) with
  | none=>exact h
  | some b=>exact sP n (Cu _ _ h)
theorem zM {A:List ag.D} {b:ah.D} (h:aN A b=true) (hf:b.2.2.2.2.2.1=true):b.1=(2:Int)/\0<=b.2.2.2.1:=by
 obtain⟨_,hk⟩:=kz h
 unfold aN at h
 rw[Bool.and_eq_true] at h
 rcases hk with hk | hk | hk
 ·have:=h.2
  rw[hk.1,hf] at this
  simp at this
 ·have:=h.2
  rw[hk.1,hf] at this
  simp at this
 ·exact⟨hk.1,hk.2.2.1.1⟩
theorem Eu {α:Type} (xs:List α) (n:Nat) (p:α->Bool) (hn:n<xs.length) (h:p xs[n]=false):(xs.take n++xs.drop (n+1)).filter p=xs.filter p:=by
 conv=>rhs;rw[<-List.take_append_drop n xs,List.drop_eq_getElem_cons hn]
 rw[List.filter_append,List.filter_append,List.filter_cons,h]
 rfl
def tF (X:List (List aa.D)) (r:List aa.D):Bool:=X.any fun q=>decide (q=r)
theorem tO {X:List (List aa.D)} {r:List aa.D}:tF X r=true ↔ r∈X:=by
 unfold tF
 rw[List.any_eq_true]
 exact⟨fun⟨q,h1,h2⟩=>of_decide_eq_true h2▸h1,fun h=>⟨r,h,decide_eq_true rfl⟩⟩
theorem rC {bonds:List ah.D} (P:Int->List aa.D->Bool) (T:List ag.D) (hT:∀b∈bonds,b.2.2.2.2.2.1=true->∀r∈rowsOf T b.2.1,P b.2.1 r=true->gn (taken r b.2.2.1)=true\/∃q∈rowsOf T b.2.2.2.1,P b.2.2.2.1 q=true/\taken q b.2.2.2.2.1=taken r b.2.2.1) :
  ∀(n:Nat) {A:List ag.D},mb bonds A->(∀i:Int,0<=i->(rowsOf A i).filter (P i)=(rowsOf T i).filter (P i))->∀i:Int,0<=i->(rowsOf (follow bonds n A) i).filter (P i)=(rowsOf T i).filter (P i)
 | 0,_,_,h=>h
 | n+1,A,hA,h=>by
  unfold follow
  cases hf:bonds.find? (loose A) with
  | none=>exact h
  | some b=>
   have hb:=List.mem_of_find?_eq_some hf
   obtain⟨l0,l1,l2,l3⟩:=jv (List.find?_some hf)
   obtain⟨h0,h1⟩:=mM hA hb
   obtain⟨k1,k2⟩:=zM (hA.2 b hb) l0
   refine rC P T hT n (qG hA hb (broken A b)) fun i i0=>?_
   rw[<-h i i0,Bz _ h0 h1 i0]
   by_cases e:b.2.1=i
   ·rw[if_pos e,<-e]
    have hlt:(broken A b).toNat<(rowsOf A b.2.1).length:=by unfold dD at l2;show _<(nth (t:=ag) A b.2.1).2.1.length;omega
    refine Eu _ _ _ hlt ?_
    cases hp:P b.2.1 (rowsOf A b.2.1)[(broken A b).toNat] with
    | false=>rfl
    | true=>
     exfalso
     have hm:(rowsOf A b.2.1)[(broken A b).toNat]∈(rowsOf A b.2.1).filter (P b.2.1):=List.mem_filter.2 ⟨List.getElem_mem hlt,hp⟩
     rw[h _ h0] at hm
     have e2:nth (t:=.sl aa) (dD A b) (broken A b)=(rowsOf A b.2.1)[(broken A b).toNat]:=ql (t:=.sl aa) l1 l2
     unfold breaks at l3
     rw[e2,k1] at l3
     simp only[Int.reduceEq,decide_false,cond_false] at l3
     rcases hT b hb l0 _ (List.mem_filter.1 hm).1 hp with hn | ⟨q,q1,q2,q3⟩
     ·rw[hn] at l3;cases l3
     ·have hq:q∈(rowsOf T b.2.2.2.1).filter (P b.2.2.2.1):=List.mem_filter.2 ⟨q1,q2⟩
      rw[<-h _ k2] at hq
      have ha:((nth (t:=ag) A b.2.2.2.1).2.1.any fun r=>decide (taken r b.2.2.2.2.1=taken (rowsOf A b.2.1)[(broken A b).toNat] b.2.2.1))=true:=List.any_eq_true.2 ⟨q,(List.mem_filter.1 hq).1,decide_eq_true q3⟩
      rw[ha] at l3
      cases hh:gn (taken (rowsOf A b.2.1)[(broken A b).toNat] b.2.2.1)<;>rw[hh] at l3<;>cases l3
   ·rw[if_neg e]
theorem Bj {bonds:List ah.D} {A R:List ag.D} (hR:mb bonds R) (hl:∀b∈bonds,loose R b=false) (hs:∀i:Int,0<=i->(rowsOf R i).Sublist (rowsOf A i)) :
  ∀b∈bonds,b.2.2.2.2.2.1=true->∀r∈rowsOf A b.2.1,tF (rowsOf R b.2.1) r=true->gn (taken r b.2.2.1)=true\/∃q∈rowsOf A b.2.2.2.1,tF (rowsOf R b.2.2.2.1) q=true/\taken q b.2.2.2.2.1=taken r b.2.2.1:=by
 intro b hb hf r _ hr
 obtain⟨k1,k2⟩:=zM (hR.2 b hb) hf
 have hl:=hl b hb
 unfold loose at hl
 rw[hf,Bool.true_and] at hl
 have h1:broken R b=-1:=by
  rcases BS R b with h | h
  ·exact h
  ·exact absurd h (of_decide_eq_false hl)
 rcases(EW k1).1 h1 r (tO.1 hr) with h | ⟨q,q1,q2⟩
 ·exact .inl h
 ·exact .inr ⟨q,(hs _ k2).subset q1,tO.2 q1,q2⟩
theorem zY {bonds other:List ah.D} {A:List ag.D} (hm:∀b,b∈other ↔ b∈bonds) (hA:mb bonds A) (hA2:mb other A) {n:Nat} (hn:size A<n) (i:Int) (i0:0<=i):(rowsOf (follow bonds n A) i).Sublist (rowsOf (follow other n A) i):=by
 obtain⟨r1,r2,r3,r4⟩:=jy n hA hn
 have hc:=Bj r2 r1 r4
 have k1:=rC (fun i r=>tF (rowsOf (follow bonds n A) i) r) A hc n hA (fun _ _=>rfl) i i0
 have k2:=rC (bonds:=other) (fun i r=>tF (rowsOf (follow bonds n A) i) r) A (fun b hb=>hc b ((hm b).1 hb)) n hA2 (fun _ _=>rfl) i i0
 have e:(rowsOf (follow bonds n A) i).filter (fun r=>tF (rowsOf (follow bonds n A) i) r)=rowsOf (follow bonds n A) i:=List.filter_eq_self.2 fun r hr=>tO.2 hr
 rw[<-e,k1,<-k2]
 exact List.filter_sublist
theorem Ec {bonds other:List ah.D} {A:List ag.D} (hm:∀b,b∈other ↔ b∈bonds) (hA:mb bonds A) {n:Nat} (hn:size A<n):follow other n A=follow bonds n A:=by
 have hA2:mb other A:=⟨hA.1,fun b hb=>hA.2 b ((hm b).1 hb)⟩
 obtain⟨_,_,c1,_⟩:=jy n hA hn
 obtain⟨_,_,c2,_⟩:=jy n hA2 hn
 have hl:(follow other n A).length=(follow bonds n A).length:=c2.1.trans c1.1.symm
 refine List.ext_getElem hl fun k h1 h2=>?_
 have e1:(follow other n A)[k]=nth (t:=ag) (follow other n A) (k:Int):=(ql (t:=ag) (Int.natCast_nonneg k) (Int.ofNat_lt.2 h1)).symm
 have e2:(follow bonds n A)[k]=nth (t:=ag) (follow bonds n A) (k:Int):=(ql (t:=ag) (Int.natCast_nonneg k) (Int.ofNat_lt.2 h2)).symm
 rw[e1,e2]
 have hc:=(c2.2 (k:Int) (by omega)).trans (c1.2 (k:Int) (by omega)).symm
 have hr:rowsOf (follow other n A) (k:Int)=rowsOf (follow bonds n A) (k:Int):=by
  have s1:=zY (fun b=>(hm b).symm) hA2 hA hn (k:Int) (Int.natCast_nonneg k)
  exact s1.eq_of_length_le (zY hm hA hA2 hn (k:Int) (Int.natCast_nonneg k)).length_le
 exact Prod.ext hc (Prod.ext hr rfl)
theorem yw {tables:List ag.D} {bonds:List ah.D} {c:ay.D} (h:Sm (.sl ag) tables) (hc:Sm ay c):Sm (.sl ag) (aU tables bonds c).1:=by
 unfold aU
 cases hk:aR tables c&&(decide (bonds.length<=4)&&bonds.all (aN tables)) with
 | false=>exact jh _
 | true=>
  rw[Bool.and_eq_true] at hk
  rw[cond_true]
  cases bS (follow bonds 19 (aQ tables c)) bonds with
  | false=>exact jh _
  | true=>exact sP 19 (uD h hc hk.1)
theorem nQ {tables:List ag.D} {bonds:List ah.D} {c:ay.D} (h1:aR tables c=true) (h2:bonds.all (aN tables)=true):mb bonds (aQ tables c):=
 ⟨Dw h1,fun b hb=>by rw[BQ (El h1)];exact List.all_eq_true.1 h2 b hb⟩
theorem Dv {t:Ty} (p:t.D->Bool):∀(xs:List t.D),match xs.find? p with
  | none=>idx (t:=t) p xs=-1
  | some b=>0<=idx (t:=t) p xs/\idx (t:=t) p xs<(xs.length:Int)/\nth (t:=t) xs (idx (t:=t) p xs)=b
 | []=>rfl
 | x::xs=>by
  have ih:=Dv p xs
  unfold idx at ih ⊢
  rw[List.find?_cons,List.findIdx?_cons]
  cases hp:p x with
  | true=>exact⟨Int.le_refl _,by show (0:Int)<((x::xs).length:Int);rw[List.length_cons];omega,rfl⟩
  | false=>
   simp only
   cases h:xs.find? p with
   | none=>
    rw[h] at ih
    simp only at ih
    cases h2:xs.findIdx? p with
    | none=>rfl
    | some k=>rw[h2] at ih;simp only at ih;omega
   | some b=>
    rw[h] at ih
    simp only at ih
    cases h2:xs.findIdx? p with
    | none=>rw[h2] at ih;exact absurd ih.1 (by decide)
    | some k=>
     rw[h2] at ih
     simp only at ih
     obtain⟨i1,i2,i3⟩:=ih
     show 0<=((k+1:Nat):Int)/\((k+1:Nat):Int)<((x::xs).length:Int)/\nth (t:=t) (x::xs) ((k+1:Nat):Int)=b
     refine⟨by omega,by rw[List.length_cons];omega,?_⟩
     rw[show ((k+1:Nat):Int)=(k:Int)+1 by omega,yY x xs (by omega)]
     exact i3
theorem vI {bonds:List ah.D} {f:List ag.D->Option (Sum (List ag.D) (List ag.D))} (hf:∀A,mb bonds A->Sm (.sl ag) A->f A=some (match bonds.find? (loose A) with
   | none=>.inr A
   | some b=>.inl (dU A b.2.1 (broken A b)))):∀(n:Nat) {A:List ag.D},mb bonds A->Sm (.sl ag) A->size A<n->bL f A=some (follow bonds n A)
 | 0,_,_,_,h=>absurd h (Nat.not_lt_zero _)
 | n+1,A,hA,hs,hn=>by
  rw[bQ,hf A hA hs]
  unfold follow
  cases h:bonds.find? (loose A) with
  | none=>rfl
  | some b=>
   have hb:=List.mem_of_find?_eq_some h
   obtain⟨_,l1,l2,_⟩:=jv (List.find?_some h)
   obtain⟨h0,h1⟩:=mM hA hb
   have hz:=sO h0 h1 l1 l2
   exact vI hf n (qG hA hb _) (Cu _ _ hs) (by omega)
theorem EE {bonds:List ah.D} {A:List ag.D} {f:Bool×Int×List ag.D->Option (Sum (Bool×Int×List ag.D) (Bool×List ag.D))} (hl:bonds.length<=4)
  (h0:∀k:Int,0<=k->k<(bonds.length:Int)->f (false,k,A)=some (.inl (cond (loose A (nth (t:=ah) bonds k)) (true,k+1,dU A (nth (t:=ah) bonds k).2.1 (broken A (nth (t:=ah) bonds k))) (false,k+1,A))))
  (h1:∀(k:Int) (B:List ag.D),f (true,k,B)=some (.inr (true,B))) (h2:∀k:Int,¬k<(bonds.length:Int)->f (false,k,A)=some (.inr (false,A))) :
  ∀(n:Nat) (k:Int),n=bonds.length-k.toNat->0<=k->bL f (false,k,A)=some (match (bonds.drop k.toNat).find? (loose A) with
   | none=>(false,A)
   | some b=>(true,dU A b.2.1 (broken A b))):=by
 intro n
 induction n with
 | zero=>
  intro k hn k0
  rw[bQ,h2 k (by omega),List.drop_eq_nil_of_le (by omega)]
  rfl
 | succ n ih=>
  intro k hn k0
  have hlt:k.toNat<bonds.length:=by omega
  rw[bQ,h0 k k0 (by omega),List.drop_eq_getElem_cons hlt,List.find?_cons,ql (t:=ah) k0 (by omega)]
  cases hp:loose A bonds[k.toNat] with
  | true=>
   rw[cond_true,bO,bQ,h1]
   rfl
  | false=>
   rw[cond_false,bO,ih (k+1) (by omega) (by omega),show (k+1).toNat=k.toNat+1 by omega]
theorem xN {bonds:List ah.D} {f:Bool×List ag.D->Option (Sum (Bool×List ag.D) (List ag.D))} (h0:∀A,f (false,A)=some (.inr A)) (hf:∀A,mb bonds A->Sm (.sl ag) A->f (true,A)=some (.inl (match bonds.find? (loose A) with
   | none=>(false,A)
   | some b=>(true,dU A b.2.1 (broken A b))))):∀(n:Nat) {A:List ag.D},mb bonds A->Sm (.sl ag) A->size A<n->bL f (true,A)=some (follow bonds n A)
 | 0,_,_,_,h=>absurd h (Nat.not_lt_zero _)
 | n+1,A,hA,hs,hn=>by
  rw[bQ,hf A hA hs]
  unfold follow
  cases h:bonds.find? (loose A) with
  | none=>
   show bL f (false,A)=_
   rw[bQ,h0]
   rfl
  | some b=>
   have hb:=List.mem_of_find?_eq_some h
   obtain⟨_,l1,l2,_⟩:=jv (List.find?_some h)
   obtain⟨h0',h1⟩:=mM hA hb
   have hz:=sO h0' h1 l1 l2
   exact xN h0 hf n (qG hA hb _) (Cu _ _ hs) (by omega)
theorem Dr {α:Type} (p:α->Bool):∀(xs:List α) (b:Bool),xs.foldl (fun v x=>v&&p x) b=(b&&xs.all p)
 | [],b=>by simp
 | x::xs,b=>by rw[List.foldl_cons,Dr p xs,List.all_cons,Bool.and_assoc]
theorem uP (tables:List ag.D) (bonds:List ah.D) (c:ay.D):aU tables bonds.reverse c=aU tables bonds c:=by
 unfold aU
 rw[List.length_reverse,List.all_reverse]
 cases hk:aR tables c&&(decide (bonds.length<=4)&&bonds.all (aN tables)) with
 | false=>rfl
 | true=>
  rw[Bool.and_eq_true,Bool.and_eq_true] at hk
  have hb:=nQ hk.1 hk.2.2
  have e:follow bonds.reverse 19 (aQ tables c)=follow bonds 19 (aQ tables c):=Ec (fun b=>List.mem_reverse) hb (Nat.lt_succ_of_le (size_le hb.1))
  rw[e]
  have e2:bS (follow bonds 19 (aQ tables c)) bonds.reverse=bS (follow bonds 19 (aQ tables c)) bonds:=by
   unfold bS
   rw[List.length_reverse,List.all_reverse]
  rw[e2]
theorem uu {tables:List ag.D} {bonds:List ah.D} {c:ay.D} (h:(aU tables bonds c).2=true) :
  aR tables c=true/\bS (aU tables bonds c).1 bonds=true/\(aU tables bonds c).1.length=(aQ tables c).length ∧
   ∀i:Int,0<=i->dX (rowsOf (aU tables bonds c).1 i) (rowsOf (aQ tables c) i)=[]:=by
 unfold aU at h ⊢
 cases hk:aR tables c&&(decide (bonds.length<=4)&&bonds.all (aN tables)) with
 | false=>rw[hk] at h;cases h
 | true=>
  rw[hk,cond_true] at h
  rw[cond_true]
  cases hb:bS (follow bonds 19 (aQ tables c)) bonds with
  | false=>rw[hb] at h;cases h
  | true=>
   rw[Bool.and_eq_true,Bool.and_eq_true] at hk
   have hA:=nQ hk.1 hk.2.2
   obtain⟨_,_,c1,s1⟩:=jy 19 hA (Nat.lt_succ_of_le (size_le hA.1))
   exact⟨hk.1,hb,c1.1,fun i i0=>GL (GQ (s1 i i0))⟩
end M
end Go.AE
