/- Bonds and changes: plain Lean. -/
import Derived.Test.YtmkgiaecgkicoaaGreatAeMR
import Derived.Test.YtmkgiaecgkicoaaGreatAeEqI
import Derived.Test.YtmkgiaecgkicoaaGreatAeMD
section
namespace Go.AE
open Go Go.RowKit
set_option linter.unusedVariables false
set_option linter.unusedSimpArgs false
namespace M
abbrev rowsOf (A:List ag.D) (i:Int):List (List aa.D):=(nth (t:=ag) A i).2.1
def It (A B:List ag.D):Prop:=A.length=B.length/\∀i:Int,0<=i->(nth (t:=ag) A i).1=(nth (t:=ag) B i).1
theorem Eg {n b:Int} (h:¬ 0<=n):inR n 0 b=false:=by
 unfold inR
 rw[decide_eq_false h]
 rfl
theorem EN {A B:List ag.D} (h:It A B) (b:ah.D):aO A b=aO B b:=by
 unfold aO
 rw[h.1]
 by_cases h0:0<=b.2.1
 ·rw[h.2 _ h0]
  by_cases h1:0<=b.2.2.2.1
  ·rw[h.2 _ h1]
  ·rw[Eg h1]
   rfl
 ·rw[Eg h0]
  rfl
theorem Gj {ts:List ag.D} {i:Int} {w:List (List aa.D)} (h0:0<=i):It (ts.set i.toNat ((nth (t:=ag) ts i).1,(w,()))) ts:=by
 refine⟨List.length_set,fun j j0=>?_⟩
 by_cases e:i=j
 ·subst e
  by_cases h1:i<(ts.length:Int)
  ·rw[rz h0 h1]
  ·rw[List.set_eq_of_length_le (by omega)]
 ·rw[Am h0 j0 e]
theorem Is {ts:List ag.D} {i:Int} {w:List (List aa.D)} (h:aH ts=true) (h0:0<=i) (h1:i<(ts.length:Int)) (hl:w.length<=6) (hw:∀r∈w,bI (nth (t:=ag) ts i).1 r=true) :
  aH (ts.set i.toNat ((nth (t:=ag) ts i).1,(w,())))=true:=by
 unfold aH at h ⊢
 rw[Bool.and_eq_true,List.all_eq_true] at h ⊢
 refine⟨by rw[List.length_set];exact h.1,fun t ht=>?_⟩
 rcases List.mem_or_eq_of_mem_set ht with ht | rfl
 ·exact h.2 t ht
 ·have hc:=h.2 _ (cI (t:=ag) h0 h1)
  unfold dr gp at hc ⊢
  rw[Bool.and_eq_true,Bool.and_eq_true,List.all_eq_true] at hc ⊢
  exact⟨decide_eq_true hl,hc.2.1,hw⟩
theorem Ef {ts:List ag.D} (h:aH ts=true) {i:Int} (h0:0<=i) (h1:i<(ts.length:Int)):(rowsOf ts i).length<=6/\∀r∈rowsOf ts i,bI (nth (t:=ag) ts i).1 r=true:=by
 unfold aH at h
 rw[Bool.and_eq_true,List.all_eq_true] at h
 have hc:=h.2 _ (cI (t:=ag) h0 h1)
 unfold dr gp at hc
 rw[Bool.and_eq_true,Bool.and_eq_true,List.all_eq_true] at hc
 exact⟨of_decide_eq_true hc.1,hc.2.2⟩
theorem gV {ts:List ag.D} {c:aB.D} (h:aU ts c=true):aH ts=true/\(0<=c.1/\c.1<(ts.length:Int))/\bI (nth (t:=ag) ts c.1).1 c.2.1=true ∧
  (c.2.2.1=true->(rowsOf ts c.1).length<6)/\(c.2.2.1=false->0<=rowAt (rowsOf ts c.1) c.2.1):=by
 unfold aU at h
 rw[Bool.and_eq_true,Bool.and_eq_true,Bool.and_eq_true] at h
 obtain⟨h1,h2,h3,h4⟩:=h
 have h2:=vb h2
 refine⟨h1,⟨h2.1,Int.lt_of_le_sub_one h2.2⟩,h3,fun e=>?_,fun e=>?_⟩
 ·rw[e,cond_true] at h4
  have:=of_decide_eq_true h4
  exact Int.ofNat_lt.1 this
 ·rw[e,cond_false] at h4
  exact of_decide_eq_true h4
theorem xG {α:Type} (xs:List α) (n:Nat):(xs.take n++xs.drop (n+1)).Sublist xs:=by
 have h:=(List.take_sublist n xs).append (List.Sublist.refl (xs.drop (n+1)))
 conv=>rhs;rw[<-List.take_append_drop n xs]
 refine(List.Sublist.refl _).append ?_
 rw[<-List.drop_drop]
 exact List.drop_sublist _ _
theorem oV {rows:List (List aa.D)} {c:aB.D} (h:c.2.2.1=false):(gX rows c).Sublist rows:=by
 unfold gX
 rw[h,cond_false]
 exact xG _ _
theorem DH {ts:List ag.D} {c:aB.D} (h:aU ts c=true):It (bE ts c) ts:=Gj (gV h).2.1.1
theorem yW {ts:List ag.D} {c:aB.D} (h:aU ts c=true):aH (bE ts c)=true:=by
 obtain⟨h1,⟨h2,h3⟩,h4,h5,h6⟩:=gV h
 obtain⟨r1,r2⟩:=Ef h1 h2 h3
 refine Is h1 h2 h3 ?_ ?_
 ·cases e:c.2.2.1 with
  | true=>
   unfold gX
   rw[e,cond_true,List.length_append]
   exact h5 e
  | false=>exact Nat.le_trans (oV e).length_le r1
 ·cases e:c.2.2.1 with
  | true=>
   unfold gX
   rw[e,cond_true]
   intro r hr
   rcases List.mem_append.1 hr with hr | hr
   ·exact r2 r hr
   ·rw[List.mem_singleton.1 hr];exact h4
  | false=>exact fun r hr=>r2 r ((oV e).subset hr)
theorem zm {ts:List ag.D} {c:aB.D} (h:aU ts c=true) {j:Int} (j0:0<=j):rowsOf (bE ts c) j=if c.1=j then gX (rowsOf ts c.1) c else rowsOf ts j:=by
 obtain⟨h1,⟨h2,h3⟩,_⟩:=gV h
 unfold rowsOf bE
 by_cases e:c.1=j
 ·rw[if_pos e,<-e,rz h2 h3]
 ·rw[if_neg e,Am h2 j0 e]
theorem Iv {ts:List ag.D} {i:Int} {w:List (List aa.D)} (h:Sm (.sl ag) ts) (hw:Sm (.sl (.sl aa)) w):Sm (.sl ag) (ts.set i.toNat ((nth (t:=ag) ts i).1,(w,()))):=by
 refine⟨by rw[List.length_set];exact h.1,fun t ht=>?_⟩
 rcases List.mem_or_eq_of_mem_set ht with ht | rfl
 ·exact h.2 t ht
 ·exact⟨(aJ (t:=ag) h i).1,hw,trivial⟩
theorem ta {rows:List (List aa.D)} (h:Sm (.sl (.sl aa)) rows) (n:Nat):Sm (.sl (.sl aa)) (rows.take n++rows.drop (n+1)):=⟨Nat.le_trans (xG rows n).length_le h.1,fun x hx=>h.2 x ((xG rows n).subset hx)⟩
theorem FT {ts:List ag.D} {c:aB.D} (hs:Sm (.sl ag) ts) (hc:Sm aB c) (h:aU ts c=true):Sm (.sl ag) (bE ts c):=by
 have hr:=(aJ (t:=ag) hs c.1).2.1
 refine Iv hs ?_
 unfold gX
 cases e:c.2.2.1 with
 | true=>
  have h5:=(gV h).2.2.2.1 e
  rw[cond_true]
  refine⟨by rw[List.length_append];simp only[List.length_cons,List.length_nil];unfold rowsOf at h5;omega,fun x hx=>?_⟩
  rcases List.mem_append.1 hx with hx | hx
  ·exact hr.2 x hx
  ·rw[List.mem_singleton.1 hx];exact hc.2.1
 | false=>exact ta hr _
theorem Ew {t:Ty} (xs:List t.D) (P:t.D->Prop):(∀x∈xs,P x) ↔ ∀n∈aP 0 (xs.length:Int),P (nth (t:=t) xs n):=by
 constructor
 ·exact fun h n hn=>h _ (xD hn)
 ·intro h x hx
  rw[<-fh xs] at hx
  obtain⟨n,hn,rfl⟩:=List.mem_map.1 hx
  exact h n hn
theorem vQ (A:List ag.D) (b:ah.D):broken A b=-1 ↔ ∀n∈aP 0 ((cJ A b).length:Int),breaks A b n=false:=by
 unfold broken
 cases h:(aP 0 ((cJ A b).length:Int)).find? (breaks A b) with
 | none=>
  rw[List.find?_eq_none] at h
  exact⟨fun _ n hn=>by simpa using h n hn,fun _=>rfl⟩
 | some n=>
  have hm:=cj.1 (List.mem_of_find?_eq_some h)
  have hp:=List.find?_some h
  refine⟨fun e=>?_,fun e=>?_⟩
  ·have:n=-1:=e
   omega
  ·rw[e n (List.mem_of_find?_eq_some h)] at hp
   cases hp
theorem BU {A:List ag.D} {b:ah.D} (h:0<=broken A b):broken A b<((cJ A b).length:Int)/\breaks A b (broken A b)=true:=by
 unfold broken at h ⊢
 cases h2:(aP 0 ((cJ A b).length:Int)).find? (breaks A b) with
 | none=>rw[h2] at h;exact absurd h (by decide)
 | some n=>exact⟨(cj.1 (List.mem_of_find?_eq_some h2)).2,List.find?_some h2⟩
theorem ES {A:List ag.D} {b:ah.D} (hk:b.1=(3:Int)):broken A b=-1 ↔ ∀r∈cJ A b,Ty.beq aa (dY r b.2.2.2.2.2.2.1) (valueOf 0)=false:=by
 rw[vQ,Ew (t:=.sl aa)]
 unfold breaks
 rw[decide_eq_true hk]
 rfl
theorem Dh {A:List ag.D} {b:ah.D} (hk:b.1=(2:Int)):broken A b=-1 ↔ ∀r∈cJ A b,fq (taken r b.2.2.1)=true\/∃q∈rowsOf A b.2.2.2.1,taken q b.2.2.2.2.1=taken r b.2.2.1:=by
 rw[vQ,Ew (t:=.sl aa)]
 refine forall_congr' fun n=>forall_congr' fun _=>?_
 unfold breaks
 rw[hk]
 simp only[Int.reduceEq,decide_false,cond_false]
 cases fq (taken (nth (t:=.sl aa) (cJ A b) n) b.2.2.1) with
 | true=>simp
 | false=>simp[rowsOf]
theorem FY {A:List ag.D} {b:ah.D} (hk:b.1=(1:Int)):broken A b=-1 ↔ (cJ A b).Pairwise fun q r=>fq (taken r b.2.2.1)=true\/¬taken q b.2.2.1=taken r b.2.2.1:=by
 rw[vQ,List.pairwise_iff_getElem]
 have e:∀n:Int,breaks A b n=cond (fq (taken (nth (t:=.sl aa) (cJ A b) n) b.2.2.1)) false (((cJ A b).take n.toNat).any fun r=>decide (taken r b.2.2.1=taken (nth (t:=.sl aa) (cJ A b) n) b.2.2.1)):=by
  intro n
  unfold breaks
  rw[hk]
  rfl
 constructor
 ·intro h i j hi hj hij
  have:=h (j:Int) (cj.2 ⟨by omega,by omega⟩)
  rw[e,vo (t:=.sl aa) (by omega) (by omega)] at this
  simp only[Int.toNat_natCast] at this
  cases hn:fq (taken (cJ A b)[j] b.2.2.1) with
  | true=>exact .inl rfl
  | false=>
   right
   rw[hn,cond_false,List.any_eq_false] at this
   have:=this (cJ A b)[i] (List.mem_take_iff_getElem.2 ⟨i,by omega,rfl⟩)
   simpa using this
 ·intro h n hn
  obtain⟨n0,n1⟩:=cj.1 hn
  rw[e,vo (t:=.sl aa) n0 n1]
  cases hh:fq (taken (cJ A b)[n.toNat] b.2.2.1) with
  | true=>rfl
  | false=>
   rw[cond_false,List.any_eq_false]
   intro q hq
   obtain⟨i,hi,rfl⟩:=List.mem_take_iff_getElem.1 hq
   rcases h i n.toNat (by omega) (by omega) (by omega) with h | h
   ·rw[hh] at h;cases h
   ·simpa using h
theorem Hw {A:List ag.D} {b:ah.D} (h:aO A b=true):b.1=(1:Int)\/b.1=(2:Int)\/b.1=(3:Int):=by
 rcases(jR h).2 with h | h | h
 ·exact .inl h.1
 ·exact .inr (.inr h.1)
 ·exact .inr (.inl h.1)
theorem Dr {A B:List ag.D} {b:ah.D} (hb:aO A b=true) (hin:(cJ B b).Sublist (cJ A b)) (hof:b.1=(2:Int)->∀r∈rowsOf A b.2.2.2.1,r∈rowsOf B b.2.2.2.1) (h:broken A b=-1):broken B b=-1:=by
 rcases Hw hb with hk | hk | hk
 ·rw[FY hk] at h ⊢
  exact h.sublist hin
 ·rw[Dh hk] at h ⊢
  intro r hr
  rcases h r (hin.subset hr) with h | ⟨q,h1,h2⟩
  ·exact .inl h
  ·exact .inr ⟨q,hof hk q h1,h2⟩
 ·rw[ES hk] at h ⊢
  exact fun r hr=>h r (hin.subset hr)
theorem CC {ts:List ag.D} {c:aB.D} {b:ah.D} (hc:aU ts c=true) (hb:aO ts b=true) (h:broken ts b=-1) (hn:fj c b=false):broken (bE ts c) b=-1:=by
 obtain⟨⟨b0,_⟩,hk⟩:=jR hb
 have hof:b.1=(2:Int)->0<=b.2.2.2.1:=fun e=>by
  rcases hk with hk | hk | hk
  ·exact absurd (hk.1.symm.trans e) (by decide)
  ·exact absurd (hk.1.symm.trans e) (by decide)
  ·exact hk.2.2.1.1
 refine Dr hb ?_ ?_ h
 ·show (rowsOf (bE ts c) b.2.1).Sublist (rowsOf ts b.2.1)
  rw[zm hc b0]
  by_cases e:c.1=b.2.1
  ·rw[if_pos e,<-e]
   refine oV ?_
   unfold fj at hn
   cases hcome:c.2.2.1 with
   | false=>rfl
   | true=>
    rw[hcome,cond_true,decide_eq_true e.symm] at hn
    cases hn
  ·rw[if_neg e]
   exact List.Sublist.refl _
 ·intro hk2 r hr
  rw[zm hc (hof hk2)]
  by_cases e:c.1=b.2.2.2.1
  ·rw[if_pos e]
   unfold fj at hn
   unfold gX
   cases hcome:c.2.2.1 with
   | true=>rw[cond_true];exact List.mem_append_left _ (by rw[e];exact hr)
   | false=>
    rw[hcome,cond_false,decide_eq_true hk2,decide_eq_true e.symm] at hn
    cases hn
  ·rw[if_neg e]
   exact hr
theorem yJ {ts:List ag.D} {bonds:List ah.D} (h:bQ ts bonds=true):bonds.length<=4/\∀b∈bonds,aH ts=true/\aO ts b=true/\broken ts b=-1:=by
 unfold bQ at h
 rw[Bool.and_eq_true,List.all_eq_true] at h
 refine⟨of_decide_eq_true h.1,fun b hb=>?_⟩
 have:=of_decide_eq_true (h.2 b hb)
 unfold aK at this
 cases h1:aH ts&&aO ts b with
 | false=>
  rw[h1] at this
  have:(-2:Int)=-1:=this
  omega
 | true=>
  rw[h1,cond_true] at this
  rw[Bool.and_eq_true] at h1
  exact⟨h1.1,h1.2,this⟩
theorem yq {α:Type} {xs:List α} {p q:α->Bool} (h:∀x∈xs,p x=q x):xs.any p=xs.any q:=by
 induction xs with
 | nil=>rfl
 | cons x xs ih=>rw[List.any_cons,List.any_cons,h x (List.mem_cons_self ..),ih fun y hy=>h y (List.mem_cons_of_mem _ hy)]
theorem DY {ts:List ag.D} {bonds:List ah.D} (hl:bonds.length<=4) (h0:aH ts=true) (h1:∀b∈bonds,aO ts b=true):bQ ts bonds=!List.any bonds (fun e=>decide (0<=broken ts e)):=by
 unfold bQ
 rw[decide_eq_true hl,Bool.true_and,List.all_eq_not_any_not]
 congr 1
 refine yq ?_
 intro b hb
 rw[ki,h0,h1 b hb]
 simp
theorem Fg {ts:List ag.D} {bonds:List ah.D} {c:aB.D} (hc:aU ts c=true) (h:bQ ts bonds=true):bQ (bE ts c) (bonds.filter (fj c))=bQ (bE ts c) bonds:=by
 obtain⟨hl,hb⟩:=yJ h
 have h2:∀b∈bonds,aO (bE ts c) b=true:=fun b hm=>by rw[EN (DH hc)];exact(hb b hm).2.1
 rw[DY hl (yW hc) h2,DY (Nat.le_trans (List.length_filter_le _ _) hl) (yW hc) (fun b hm=>h2 b (List.mem_filter.1 hm).1),List.any_filter]
 congr 1
 refine yq fun b hm=>?_
 cases ha:fj c b with
 | true=>simp
 | false=>
  rw[CC hc (hb b hm).2.1 (hb b hm).2.2 ha]
  rfl
theorem zJ {ts:List ag.D} {bonds:List ah.D} {c:aB.D} (h:bonds.length<=1048576):Sm (.sl (.int .i64)) (ck ts bonds c):=by
 unfold ck
 cases aU ts c&&bonds.all (aO ts) with
 | false=>exact jQ _
 | true=>exact⟨Nat.le_trans (List.length_filter_le _ _) (by simpa [aP] using h),fun _ _=>trivial⟩
theorem FO {ts:List ag.D} {bonds:List ah.D} {c:aB.D} {k:Int} (h:k∈ck ts bonds c):0<=k/\k<(bonds.length:Int):=by
 unfold ck at h
 cases hk:aU ts c&&bonds.all (aO ts) with
 | false=>rw[hk] at h;cases h
 | true=>rw[hk] at h;exact cj.1 (List.mem_filter.1 h).1
theorem CZ {ts:List ag.D} {bonds:List ah.D} {c:aB.D} (h:aU ts c=true) (hb:∀b∈bonds,aO ts b=true):(ck ts bonds c).map (fun k=>nth (t:=ah) bonds k)=bonds.filter (fj c):=by
 unfold ck
 rw[h,List.all_eq_true.2 hb]
 have e:=fh (t:=ah) bonds
 have:((aP 0 (bonds.length:Int)).map fun k=>nth (t:=ah) bonds k).filter (fj c)=bonds.filter (fj c):=by rw[e]
 rw[<-this,List.filter_map]
 rfl
theorem HD {bonds:List ah.D} {now:List ag.D} (c:aB.D) (h:aH now=true/\bQ now bonds=true):aH (qt bonds now c)=true/\bQ (qt bonds now c) bonds=true:=by
 unfold qt
 cases hc:aU now c&&bQ (bE now c) bonds with
 | false=>exact h
 | true=>
  rw[Bool.and_eq_true] at hc
  exact⟨yW hc.1,hc.2⟩
theorem oE {bonds:List ah.D}:∀(cs:List aB.D) {now:List ag.D},aH now=true/\bQ now bonds=true->aH (cs.foldl (qt bonds) now)=true/\bQ (cs.foldl (qt bonds) now) bonds=true
 | [],_,h=>h
 | c::cs,_,h=>oE cs (HD c h)
def size:List ag.D->Nat
 | []=>0
 | t::ts=>t.2.1.length+size ts
theorem size_set:∀(ts:List ag.D) (k:Nat) (z:ag.D) (hk:k<ts.length),size (ts.set k z)+ts[k].2.1.length=size ts+z.2.1.length
 | t::ts,0,z,_=>by
  show z.2.1.length+size ts+t.2.1.length=t.2.1.length+size ts+z.2.1.length
  omega
 | t::ts,k+1,z,hk=>by
  have:=size_set ts k z (by simpa using hk)
  show t.2.1.length+size (ts.set k z)+(ts[k]'(by simpa using hk)).2.1.length=t.2.1.length+size ts+z.2.1.length
  omega
theorem FW {α:Type} (xs:List α) (n:Nat) (h:n<xs.length):(xs.take n++xs.drop (n+1)).length+1=xs.length:=by
 rw[List.length_append,List.length_take,List.length_drop]
 omega
theorem Fb {ts:List ag.D} {i n:Int} (h0:0<=i) (h1:i<(ts.length:Int)) (n0:0<=n) (n1:n<((rowsOf ts i).length:Int)):size (jy ts i n)+1=size ts:=by
 have h:=size_set ts i.toNat ((nth (t:=ag) ts i).1,((nth (t:=ag) ts i).2.1.take n.toNat++(nth (t:=ag) ts i).2.1.drop (n.toNat+1),())) (by omega)
 have e:=FW (rowsOf ts i) n.toNat (by omega)
 have hn:ts[i.toNat]'(by omega)=nth (t:=ag) ts i:=(vo (t:=ag) h0 h1).symm
 rw[hn] at h
 unfold rowsOf at e
 unfold jy
 simp only at h
 omega
end M
end Go.AE
end
section
namespace Go.AE
open Go Go.RowKit
set_option linter.unusedVariables false
namespace M
theorem rG {A:List ag.D} {b:ah.D} (h:0<=aK A b):0<=b.2.1/\b.2.1<(A.length:Int)/\aK A b<((rowsOf A b.2.1).length:Int)/\(rowsOf A b.2.1).length<=6:=by
 unfold aK at h ⊢
 cases hk:aH A&&aO A b with
 | false=>
  rw[hk] at h
  have:(0:Int)<=-2:=h
  omega
 | true=>
  rw[hk,cond_true] at h
  rw[cond_true]
  rw[Bool.and_eq_true] at hk
  obtain⟨h0,h1⟩:=(jR hk.2).1
  exact⟨h0,h1,(BU h).1,(Ef hk.1 h0 h1).1⟩
theorem ER {A:List ag.D} {b:ah.D} (h:0<=aK A b) :
  (A.set b.2.1.toNat ((nth (t:=ag) A b.2.1).1,((([]++(aD ((nth (t:=ag) A b.2.1).2.1) (some ((0:Int),aK A b))))++(aD ((nth (t:=ag) A b.2.1).2.1) (some (wrap64 (aK A b+(1:Int)),((nth (t:=ag) A b.2.1).2.1.length:Int))))),())))=jy A b.2.1 (aK A b):=by
 obtain⟨_,_,h2,h3⟩:=rG h
 unfold rowsOf at h2 h3
 rw[aQ (n:=aK A b+(1:Int)) (by omega) (by omega),Cy,xO _ (by omega) (by omega),show (aK A b+1).toNat=(aK A b).toNat+1 by omega]
 rfl
theorem Bs {A:List ag.D} {b:ah.D} (h:0<=aK A b):0<=wrap64 (aK A b+(1:Int))/\wrap64 (aK A b+(1:Int))<=((nth (t:=ag) A b.2.1).2.1.length:Int)/\aK A b<=((nth (t:=ag) A b.2.1).2.1.length:Int)/\((nth (t:=ag) A b.2.1).2.1).length<=6 ∧
  (([]:List (Ty.sl aa).D).length+(aD ((nth (t:=ag) A b.2.1).2.1) (some ((0:Int),aK A b))).length) * 24<=lim ∧
  (([]++(aD ((nth (t:=ag) A b.2.1).2.1) (some ((0:Int),aK A b)))).length+(aD ((nth (t:=ag) A b.2.1).2.1) (some (wrap64 (aK A b+(1:Int)),((nth (t:=ag) A b.2.1).2.1.length:Int)))).length) * 24<=lim:=by
 obtain⟨_,_,h2,h3⟩:=rG h
 unfold rowsOf at h2 h3
 have c1:=xH ((nth (t:=ag) A b.2.1).2.1) (some ((0:Int),aK A b))
 have c2:=xH ((nth (t:=ag) A b.2.1).2.1) (some (wrap64 (aK A b+(1:Int)),((nth (t:=ag) A b.2.1).2.1.length:Int)))
 rw[aQ (n:=aK A b+(1:Int)) (by omega) (by omega)] at c2 ⊢
 refine⟨by omega,by omega,by omega,h3,?_,?_⟩
 ·simp only[List.length_nil,lim]
  omega
 ·simp only[List.nil_append,lim]
  omega
theorem ve {P:ag.D->Prop} {A:List ag.D} {i n:Int} (h0:0<=i) (h1:i<(A.length:Int)) (h:∀t∈A,P t) (hp:∀(c:List ax.D) (r w:List (List aa.D)),P (c,(r,()))->w.Sublist r->P (c,(w,()))):∀t∈jy A i n,P t:=by
 intro t ht
 unfold jy at ht
 rcases List.mem_or_eq_of_mem_set ht with ht | rfl
 ·exact h t ht
 ·exact hp _ _ _ (h _ (cI (t:=ag) h0 h1)) (xG _ _)
theorem Dn {A:List ag.D} {b:ah.D} (h:0<=aK A b) (d:∀t∈A,dP t) (e:∀t∈A,eZ t) (f:∀t∈A,jb t) :
  (∀t∈jy A b.2.1 (aK A b),dP t)/\(∀t∈jy A b.2.1 (aK A b),eZ t)/\(∀t∈jy A b.2.1 (aK A b),jb t)/\(jy A b.2.1 (aK A b)).length=A.length/\size (jy A b.2.1 (aK A b))+1=size A:=by
 obtain⟨h0,h1,h2,h3⟩:=rG h
 refine⟨ve h0 h1 d fun c r w hp hw=>⟨hp.1,Nat.le_trans hw.length_le hp.2.1,fun x hx=>hp.2.2 x (hw.subset hx)⟩,ve h0 h1 e fun c r w hp hw=>⟨hp.1,Nat.le_trans hw.length_le hp.2.1,fun x hx=>hp.2.2 x (hw.subset hx)⟩,ve h0 h1 f fun c r w hp hw=>hp,List.length_set,Fb h0 h1 h h2⟩
end M
end Go.AE
end
