/- Bonds and changes: plain Lean. -/
import Derived.Test.YtmkgiaecgkicoaaGreatAeMR
import Derived.Test.YtmkgiaecgkicoaaGreatAeEqI
import Derived.Test.YtmkgiaecgkicoaaGreatAeMD
section
namespace Go.AE
open Go Go.RowKit
set_option linter.unusedVariables false
set_option linter.unusedSimpArgs false
namespace M
abbrev rowsOf (A:List ag.D) (i:Int):List (List aa.D):=(nth (t:=ag) A i).2.1
def By (A B:List ag.D):Prop:=A.length=B.length/\∀i:Int,0<=i->(nth (t:=ag) A i).1=(nth (t:=ag) B i).1
theorem tN {A B C:List ag.D} (h:By A B) (g:By B C):By A C:=⟨h.1.trans g.1,fun i i0=>(h.2 i i0).trans (g.2 i i0)⟩
theorem Eg {n b:Int} (h:¬ 0<=n):inR n 0 b=false:=by
 unfold inR
 rw[decide_eq_false h]
 rfl
theorem Fv {A B:List ag.D} (h:By A B) (b:ai.D):aS A b=aS B b:=by
 unfold aS
 rw[h.1]
 by_cases h0:0<=b.2.1
 ·rw[h.2 _ h0]
  by_cases h1:0<=b.2.2.2.1
  ·rw[h.2 _ h1]
  ·rw[Eg h1]
   rfl
 ·rw[Eg h0]
  rfl
theorem GY {ts:List ag.D} {i:Int} {w:List (List aa.D)} (h0:0<=i):By (ts.set i.toNat ((nth (t:=ag) ts i).1,(w,()))) ts:=by
 refine⟨List.length_set,fun j j0=>?_⟩
 by_cases e:i=j
 ·subst e
  by_cases h1:i<(ts.length:Int)
  ·rw[uj h0 h1]
  ·rw[List.set_eq_of_length_le (by omega)]
 ·rw[FB h0 j0 e]
theorem IT {ts:List ag.D} {i:Int} {w:List (List aa.D)} (h:aG ts=true) (h0:0<=i) (h1:i<(ts.length:Int)) (hl:w.length<=6) (hw:∀r∈w,bM (nth (t:=ag) ts i).1 r=true) :
  aG (ts.set i.toNat ((nth (t:=ag) ts i).1,(w,())))=true:=by
 unfold aG at h ⊢
 rw[Bool.and_eq_true,List.all_eq_true] at h ⊢
 refine⟨by rw[List.length_set];exact h.1,fun t ht=>?_⟩
 rcases List.mem_or_eq_of_mem_set ht with ht | rfl
 ·exact h.2 t ht
 ·have hc:=h.2 _ (cK (t:=ag) h0 h1)
  unfold dy gu at hc ⊢
  rw[Bool.and_eq_true,Bool.and_eq_true,List.all_eq_true] at hc ⊢
  exact⟨decide_eq_true hl,hc.2.1,hw⟩
theorem BX {ts:List ag.D} (h:aG ts=true) {i:Int} (h0:0<=i) (h1:i<(ts.length:Int)):(rowsOf ts i).length<=6/\∀r∈rowsOf ts i,bM (nth (t:=ag) ts i).1 r=true:=by
 unfold aG at h
 rw[Bool.and_eq_true,List.all_eq_true] at h
 have hc:=h.2 _ (cK (t:=ag) h0 h1)
 unfold dy gu at hc
 rw[Bool.and_eq_true,Bool.and_eq_true,List.all_eq_true] at hc
 exact⟨of_decide_eq_true hc.1,hc.2.2⟩
theorem lW {ts:List ag.D} {c:ak.D} (h:aQ ts c=true):aG ts=true/\(0<=c.1/\c.1<(ts.length:Int))/\bM (nth (t:=ag) ts c.1).1 c.2.1=true ∧
  (c.2.2.1=true->(rowsOf ts c.1).length<6)/\(c.2.2.1=false->0<=rowAt (rowsOf ts c.1) c.2.1):=by
 unfold aQ at h
 rw[Bool.and_eq_true,Bool.and_eq_true,Bool.and_eq_true] at h
 obtain⟨h1,h2,h3,h4⟩:=h
 have h2:=vo h2
 refine⟨h1,⟨h2.1,Int.lt_of_le_sub_one h2.2⟩,h3,fun e=>?_,fun e=>?_⟩
 ·rw[e,cond_true] at h4
  have:=of_decide_eq_true h4
  exact Int.ofNat_lt.1 this
 ·rw[e,cond_false] at h4
  exact of_decide_eq_true h4
theorem xU {α:Type} (xs:List α) (n:Nat):(xs.take n++xs.drop (n+1)).Sublist xs:=by
 have h:=(List.take_sublist n xs).append (List.Sublist.refl (xs.drop (n+1)))
 conv=>rhs;rw[<-List.take_append_drop n xs]
 refine(List.Sublist.refl _).append ?_
 rw[<-List.drop_drop]
 exact List.drop_sublist _ _
theorem tW {rows:List (List aa.D)} {c:ak.D} (h:c.2.2.1=false):(iY rows c).Sublist rows:=by
 unfold iY
 rw[h,cond_false]
 exact xU _ _
theorem yJ {ts:List ag.D} {c:ak.D} (h:aQ ts c=true):By (bg ts c) ts:=GY (lW h).2.1.1
theorem ye {ts:List ag.D} {c:ak.D} (h:aQ ts c=true):aG (bg ts c)=true:=by
 obtain⟨h1,⟨h2,h3⟩,h4,h5,h6⟩:=lW h
 obtain⟨r1,r2⟩:=BX h1 h2 h3
 refine IT h1 h2 h3 ?_ ?_
 ·cases e:c.2.2.1 with
  | true=>
   unfold iY
   rw[e,cond_true,List.length_append]
   exact h5 e
  | false=>exact Nat.le_trans (tW e).length_le r1
 ·cases e:c.2.2.1 with
  | true=>
   unfold iY
   rw[e,cond_true]
   intro r hr
   rcases List.mem_append.1 hr with hr | hr
   ·exact r2 r hr
   ·rw[List.mem_singleton.1 hr];exact h4
  | false=>exact fun r hr=>r2 r ((tW e).subset hr)
theorem Ji {ts:List ag.D} {i:Int} {w:List (List aa.D)} (h:Sm (.sl ag) ts) (hw:Sm (.sl (.sl aa)) w):Sm (.sl ag) (ts.set i.toNat ((nth (t:=ag) ts i).1,(w,()))):=by
 refine⟨by rw[List.length_set];exact h.1,fun t ht=>?_⟩
 rcases List.mem_or_eq_of_mem_set ht with ht | rfl
 ·exact h.2 t ht
 ·exact⟨(aH (t:=ag) h i).1,hw,trivial⟩
theorem rE {rows:List (List aa.D)} (h:Sm (.sl (.sl aa)) rows) (n:Nat):Sm (.sl (.sl aa)) (rows.take n++rows.drop (n+1)):=⟨Nat.le_trans (xU rows n).length_le h.1,fun x hx=>h.2 x ((xU rows n).subset hx)⟩
theorem zc {ts:List ag.D} {c:ak.D} (hs:Sm (.sl ag) ts) (hc:Sm ak c) (h:aQ ts c=true):Sm (.sl ag) (bg ts c):=by
 have hr:=(aH (t:=ag) hs c.1).2.1
 refine Ji hs ?_
 unfold iY
 cases e:c.2.2.1 with
 | true=>
  have h5:=(lW h).2.2.2.1 e
  rw[cond_true]
  refine⟨by rw[List.length_append];simp only[List.length_cons,List.length_nil];unfold rowsOf at h5;omega,fun x hx=>?_⟩
  rcases List.mem_append.1 hx with hx | hx
  ·exact hr.2 x hx
  ·rw[List.mem_singleton.1 hx];exact hc.2.1
 | false=>exact rE hr _
theorem CM {A:List ag.D} {b:ai.D} (h:0<=broken A b):broken A b<((fW A b).length:Int)/\breaks A b (broken A b)=true:=by
 unfold broken at h ⊢
 cases h2:(aR 0 ((fW A b).length:Int)).find? (breaks A b) with
 | none=>rw[h2] at h;exact absurd h (by decide)
 | some n=>exact⟨(dm.1 (List.mem_of_find?_eq_some h2)).2,List.find?_some h2⟩
theorem yI {ts:List ag.D} {bonds:List ai.D} (h:bq ts bonds=true):bonds.length<=4/\∀b∈bonds,aG ts=true/\aS ts b=true/\broken ts b=-1:=by
 unfold bq at h
 rw[Bool.and_eq_true,List.all_eq_true] at h
 refine⟨of_decide_eq_true h.1,fun b hb=>?_⟩
 have:=of_decide_eq_true (h.2 b hb)
 unfold aJ at this
 cases h1:aG ts&&aS ts b with
 | false=>
  rw[h1] at this
  have:(-2:Int)=-1:=this
  omega
 | true=>
  rw[h1,cond_true] at this
  rw[Bool.and_eq_true] at h1
  exact⟨h1.1,h1.2,this⟩
theorem Dr {α:Type} {xs:List α} {p q:α->Bool} (h:∀x∈xs,p x=q x):xs.any p=xs.any q:=by
 induction xs with
 | nil=>rfl
 | cons x xs ih=>rw[List.any_cons,List.any_cons,h x (List.mem_cons_self ..),ih fun y hy=>h y (List.mem_cons_of_mem _ hy)]
theorem HK {ts:List ag.D} {bonds:List ai.D} (hl:bonds.length<=4) (h0:aG ts=true) (h1:∀b∈bonds,aS ts b=true):bq ts bonds=!List.any bonds (fun e=>decide (0<=broken ts e)):=by
 unfold bq
 rw[decide_eq_true hl,Bool.true_and,List.all_eq_not_any_not]
 congr 1
 refine Dr ?_
 intro b hb
 rw[kz,h0,h1 b hb]
 simp
theorem HC {bonds:List ai.D} {now:List ag.D} (c:ak.D) (h:aG now=true/\bq now bonds=true):aG (cU bonds now c)=true/\bq (cU bonds now c) bonds=true:=by
 unfold cU
 cases hc:aQ now c&&bq (bg now c) bonds with
 | false=>exact h
 | true=>
  rw[Bool.and_eq_true] at hc
  exact⟨ye hc.1,hc.2⟩
theorem AR {bonds:List ai.D} {now:List ag.D} (c:ak.D):By (cU bonds now c) now:=by
 unfold cU
 cases hc:aQ now c&&bq (bg now c) bonds with
 | false=>exact⟨rfl,fun _ _=>rfl⟩
 | true=>
  rw[Bool.and_eq_true] at hc
  exact yJ hc.1
theorem xQ {bonds:List ai.D} {now:List ag.D} {c:ak.D} (h:Sm (.sl ag) now) (hc:Sm ak c):Sm (.sl ag) (cU bonds now c):=by
 unfold cU
 cases hk:aQ now c&&bq (bg now c) bonds with
 | false=>exact h
 | true=>
  rw[Bool.and_eq_true] at hk
  exact zc h hc hk.1
theorem mI {bonds:List ai.D}:∀(cs:List ak.D) {now:List ag.D},aG now=true/\bq now bonds=true->aG (cs.foldl (cU bonds) now)=true/\bq (cs.foldl (cU bonds) now) bonds=true
 | [],_,h=>h
 | c::cs,_,h=>mI cs (HC c h)
theorem Eo {tables:List ag.D} {bonds:List ai.D} {changes:List ak.D} (h:Sm (.sl ag) tables) (hc:Sm (.sl ak) changes):Sm (.sl ag) (bN tables bonds changes).1:=by
 unfold bN
 cases aG tables&&(bq tables bonds&&decide (changes.length<=8)) with
 | false=>exact iW _
 | true=>
  have key:∀(cs:List ak.D) (now:List ag.D),Sm (.sl ag) now->(∀c∈cs,Sm ak c)->Sm (.sl ag) (cs.foldl (cU bonds) now):=by
   intro cs
   induction cs with
   | nil=>intro now h _;exact h
   | cons c cs ih=>exact fun now h hc=>ih _ (xQ h (hc c (List.mem_cons_self ..))) fun d hd=>hc d (List.mem_cons_of_mem _ hd)
  exact key changes tables h hc.2
theorem AX (ts:List ag.D):bq ts []=true:=rfl
theorem Ff (now:List ag.D) (c:ak.D):cU [] now c=cond (aQ now c) (bg now c) now:=by
 unfold cU
 rw[AX,Bool.and_true]
theorem Dz {tables:List ag.D} {bonds:List ai.D} {changes:List ak.D} (h:(bN tables bonds changes).2=true) :
  aG (bN tables bonds changes).1=true/\bq (bN tables bonds changes).1 bonds=true/\bN tables [] changes=(changes.foldl (cU []) tables,true):=by
 unfold bN at h ⊢
 cases hk:aG tables&&(bq tables bonds&&decide (changes.length<=8)) with
 | false=>rw[hk] at h;cases h
 | true=>
  rw[Bool.and_eq_true,Bool.and_eq_true] at hk
  obtain⟨k1,k2⟩:=mI changes ⟨hk.1,hk.2.1⟩
  refine⟨k1,k2,?_⟩
  rw[hk.1,AX,hk.2.2]
  rfl
def size:List ag.D->Nat
 | []=>0
 | t::ts=>t.2.1.length+size ts
theorem size_set:∀(ts:List ag.D) (k:Nat) (z:ag.D) (hk:k<ts.length),size (ts.set k z)+ts[k].2.1.length=size ts+z.2.1.length
 | t::ts,0,z,_=>by
  show z.2.1.length+size ts+t.2.1.length=t.2.1.length+size ts+z.2.1.length
  omega
 | t::ts,k+1,z,hk=>by
  have:=size_set ts k z (by simpa using hk)
  show t.2.1.length+size (ts.set k z)+(ts[k]'(by simpa using hk)).2.1.length=t.2.1.length+size ts+z.2.1.length
  omega
theorem GM {α:Type} (xs:List α) (n:Nat) (h:n<xs.length):(xs.take n++xs.drop (n+1)).length+1=xs.length:=by
 rw[List.length_append,List.length_take,List.length_drop]
 omega
theorem Fe {ts:List ag.D} {i n:Int} (h0:0<=i) (h1:i<(ts.length:Int)) (n0:0<=n) (n1:n<((rowsOf ts i).length:Int)):size (jD ts i n)+1=size ts:=by
 have h:=size_set ts i.toNat ((nth (t:=ag) ts i).1,((nth (t:=ag) ts i).2.1.take n.toNat++(nth (t:=ag) ts i).2.1.drop (n.toNat+1),())) (by omega)
 have e:=GM (rowsOf ts i) n.toNat (by omega)
 have hn:ts[i.toNat]'(by omega)=nth (t:=ag) ts i:=(Bk (t:=ag) h0 h1).symm
 rw[hn] at h
 unfold rowsOf at e
 unfold jD
 simp only at h
 omega
end M
end Go.AE
end
section
namespace Go.AE
open Go Go.RowKit
set_option linter.unusedVariables false
namespace M
theorem rV {A:List ag.D} {b:ai.D} (h:0<=aJ A b):0<=b.2.1/\b.2.1<(A.length:Int)/\aJ A b<((rowsOf A b.2.1).length:Int)/\(rowsOf A b.2.1).length<=6:=by
 unfold aJ at h ⊢
 cases hk:aG A&&aS A b with
 | false=>
  rw[hk] at h
  have:(0:Int)<=-2:=h
  omega
 | true=>
  rw[hk,cond_true] at h
  rw[cond_true]
  rw[Bool.and_eq_true] at hk
  obtain⟨h0,h1⟩:=(qj hk.2).1
  exact⟨h0,h1,(CM h).1,(BX hk.1 h0 h1).1⟩
theorem Fp {A:List ag.D} {b:ai.D} (h:0<=aJ A b) :
  (A.set b.2.1.toNat ((nth (t:=ag) A b.2.1).1,((([]++(aD ((nth (t:=ag) A b.2.1).2.1) (some ((0:Int),aJ A b))))++(aD ((nth (t:=ag) A b.2.1).2.1) (some (wrap64 (aJ A b+(1:Int)),((nth (t:=ag) A b.2.1).2.1.length:Int))))),())))=jD A b.2.1 (aJ A b):=by
 obtain⟨_,_,h2,h3⟩:=rV h
 unfold rowsOf at h2 h3
 rw[aO (n:=aJ A b+(1:Int)) (by omega) (by omega),CU,yF _ (by omega) (by omega),show (aJ A b+1).toNat=(aJ A b).toNat+1 by omega]
 rfl
theorem Bw {A:List ag.D} {b:ai.D} (h:0<=aJ A b):0<=wrap64 (aJ A b+(1:Int))/\wrap64 (aJ A b+(1:Int))<=((nth (t:=ag) A b.2.1).2.1.length:Int)/\aJ A b<=((nth (t:=ag) A b.2.1).2.1.length:Int)/\((nth (t:=ag) A b.2.1).2.1).length<=6 ∧
  (([]:List (Ty.sl aa).D).length+(aD ((nth (t:=ag) A b.2.1).2.1) (some ((0:Int),aJ A b))).length) * 24<=lim ∧
  (([]++(aD ((nth (t:=ag) A b.2.1).2.1) (some ((0:Int),aJ A b)))).length+(aD ((nth (t:=ag) A b.2.1).2.1) (some (wrap64 (aJ A b+(1:Int)),((nth (t:=ag) A b.2.1).2.1.length:Int)))).length) * 24<=lim:=by
 obtain⟨_,_,h2,h3⟩:=rV h
 unfold rowsOf at h2 h3
 have c1:=xO ((nth (t:=ag) A b.2.1).2.1) (some ((0:Int),aJ A b))
 have c2:=xO ((nth (t:=ag) A b.2.1).2.1) (some (wrap64 (aJ A b+(1:Int)),((nth (t:=ag) A b.2.1).2.1.length:Int)))
 rw[aO (n:=aJ A b+(1:Int)) (by omega) (by omega)] at c2 ⊢
 refine⟨by omega,by omega,by omega,h3,?_,?_⟩
 ·simp only[List.length_nil,lim]
  omega
 ·simp only[List.nil_append,lim]
  omega
theorem vE {P:ag.D->Prop} {A:List ag.D} {i n:Int} (h0:0<=i) (h1:i<(A.length:Int)) (h:∀t∈A,P t) (hp:∀(c:List ay.D) (r w:List (List aa.D)),P (c,(r,()))->w.Sublist r->P (c,(w,()))):∀t∈jD A i n,P t:=by
 intro t ht
 unfold jD at ht
 rcases List.mem_or_eq_of_mem_set ht with ht | rfl
 ·exact h t ht
 ·exact hp _ _ _ (h _ (cK (t:=ag) h0 h1)) (xU _ _)
theorem DO {A:List ag.D} {b:ai.D} (h:0<=aJ A b) (d:∀t∈A,ep t) (e:∀t∈A,fq t) (f:∀t∈A,jj t) :
  (∀t∈jD A b.2.1 (aJ A b),ep t)/\(∀t∈jD A b.2.1 (aJ A b),fq t)/\(∀t∈jD A b.2.1 (aJ A b),jj t)/\(jD A b.2.1 (aJ A b)).length=A.length/\size (jD A b.2.1 (aJ A b))+1=size A:=by
 obtain⟨h0,h1,h2,h3⟩:=rV h
 refine⟨vE h0 h1 d fun c r w hp hw=>⟨hp.1,Nat.le_trans hw.length_le hp.2.1,fun x hx=>hp.2.2 x (hw.subset hx)⟩,vE h0 h1 e fun c r w hp hw=>⟨hp.1,Nat.le_trans hw.length_le hp.2.1,fun x hx=>hp.2.2 x (hw.subset hx)⟩,vE h0 h1 f fun c r w hp hw=>hp,List.length_set,Fe h0 h1 h h2⟩
end M
end Go.AE
end
