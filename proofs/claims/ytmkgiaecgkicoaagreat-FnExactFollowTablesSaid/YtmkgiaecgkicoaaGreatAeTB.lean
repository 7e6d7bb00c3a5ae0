/- Bonds and changes: plain Lean. -/
import Derived.Test.YtmkgiaecgkicoaaGreatAeSeat
import Derived.Test.YtmkgiaecgkicoaaGreatAeEqI
namespace Go.AE
open Go Go.RowKit
set_option linter.unusedVariables false
set_option linter.unusedSimpArgs false
namespace M
abbrev rowsOf (A:List TTable.D) (i:Int):List (List aa.D):=(nth (t:=TTable) A i).2.1
def CL (A B:List TTable.D):Prop:=A.length=B.length/\∀i:Int,0<=i->(nth (t:=TTable) A i).1=(nth (t:=TTable) B i).1
theorem EI {A B C:List TTable.D} (h:CL A B) (g:CL B C):CL A C:=⟨h.1.trans g.1,fun i i0=>(h.2 i i0).trans (g.2 i i0)⟩
theorem EP {n b:Int} (h:¬ 0<=n):inR n 0 b=false:=by
 unfold inR
 rw[decide_eq_false h]
 rfl
theorem BQ {A B:List TTable.D} (h:CL A B) (b:TBond.D):aN A b=aN B b:=by
 unfold aN
 rw[h.1]
 by_cases h0:0<=b.2.1
 ·rw[h.2 _ h0]
  by_cases h1:0<=b.2.2.2.1
  ·rw[h.2 _ h1]
  ·rw[EP h1]
   rfl
 ·rw[EP h0]
  rfl
theorem Dm {ts:List TTable.D} {i:Int} {w:List (List aa.D)} (h0:0<=i):CL (ts.set i.toNat ((nth (t:=TTable) ts i).1,(w,()))) ts:=by
 refine⟨List.length_set,fun j j0=>?_⟩
 by_cases e:i=j
 ·subst e
  by_cases h1:i<(ts.length:Int)
  ·rw[sk h0 h1]
  ·rw[List.set_eq_of_length_le (by omega)]
 ·rw[By h0 j0 e]
theorem GH {ts:List TTable.D} {i:Int} {w:List (List aa.D)} (h:aA ts=true) (h0:0<=i) (h1:i<(ts.length:Int)) (hl:w.length<=6) (hw:∀r∈w,bG (nth (t:=TTable) ts i).1 r=true) :
  aA (ts.set i.toNat ((nth (t:=TTable) ts i).1,(w,())))=true:=by
 unfold aA at h ⊢
 rw[Bool.and_eq_true,List.all_eq_true] at h ⊢
 refine⟨by rw[List.length_set];exact h.1,fun t ht=>?_⟩
 rcases List.mem_or_eq_of_mem_set ht with ht | rfl
 ·exact h.2 t ht
 ·have hc:=h.2 _ (dD (t:=TTable) h0 h1)
  unfold cN fX at hc ⊢
  rw[Bool.and_eq_true,Bool.and_eq_true,List.all_eq_true] at hc ⊢
  exact⟨decide_eq_true hl,hc.2.1,hw⟩
theorem sw {ts:List TTable.D} (h:aA ts=true) {i:Int} (h0:0<=i) (h1:i<(ts.length:Int)):(rowsOf ts i).length<=6/\∀r∈rowsOf ts i,bG (nth (t:=TTable) ts i).1 r=true:=by
 unfold aA at h
 rw[Bool.and_eq_true,List.all_eq_true] at h
 have hc:=h.2 _ (dD (t:=TTable) h0 h1)
 unfold cN fX at hc
 rw[Bool.and_eq_true,Bool.and_eq_true,List.all_eq_true] at hc
 exact⟨of_decide_eq_true hc.1,hc.2.2⟩
theorem gO {ts:List TTable.D} {c:TChange.D} (h:aV ts c=true):aA ts=true/\(0<=c.1/\c.1<(ts.length:Int))/\bG (nth (t:=TTable) ts c.1).1 c.2.1=true ∧
  (c.2.2.1=true->(rowsOf ts c.1).length<6)/\(c.2.2.1=false->0<=rowAt (rowsOf ts c.1) c.2.1):=by
 unfold aV at h
 rw[Bool.and_eq_true,Bool.and_eq_true,Bool.and_eq_true] at h
 obtain⟨h1,h2,h3,h4⟩:=h
 have h2:=wC h2
 refine⟨h1,⟨h2.1,Int.lt_of_le_sub_one h2.2⟩,h3,fun e=>?_,fun e=>?_⟩
 ·rw[e,cond_true] at h4
  have:=of_decide_eq_true h4
  exact Int.ofNat_lt.1 this
 ·rw[e,cond_false] at h4
  exact of_decide_eq_true h4
theorem so {α:Type} (xs:List α) (n:Nat):(xs.take n++xs.drop (n+1)).Sublist xs:=by
 have h:=(List.take_sublist n xs).append (List.Sublist.refl (xs.drop (n+1)))
 conv=>rhs;rw[<-List.take_append_drop n xs]
 refine(List.Sublist.refl _).append ?_
 rw[<-List.drop_drop]
 exact List.drop_sublist _ _
theorem uX {rows:List (List aa.D)} {c:TChange.D} (h:c.2.2.1=false):(jd rows c).Sublist rows:=by
 unfold jd
 rw[h,cond_false]
 exact so _ _
theorem DZ {ts:List TTable.D} {c:TChange.D} (h:aV ts c=true):CL (bt ts c) ts:=Dm (gO h).2.1.1
theorem Di {ts:List TTable.D} {c:TChange.D} (h:aV ts c=true):aA (bt ts c)=true:=by
 obtain⟨h1,⟨h2,h3⟩,h4,h5,h6⟩:=gO h
 obtain⟨r1,r2⟩:=sw h1 h2 h3
 refine GH h1 h2 h3 ?_ ?_
 ·cases e:c.2.2.1 with
  | true=>
   unfold jd
   rw[e,cond_true,List.length_append]
   exact h5 e
  | false=>exact Nat.le_trans (uX e).length_le r1
 ·cases e:c.2.2.1 with
  | true=>
   unfold jd
   rw[e,cond_true]
   intro r hr
   rcases List.mem_append.1 hr with hr | hr
   ·exact r2 r hr
   ·rw[List.mem_singleton.1 hr];exact h4
  | false=>exact fun r hr=>r2 r ((uX e).subset hr)
theorem GD {ts:List TTable.D} {i:Int} {w:List (List aa.D)} (h:Sm (.sl TTable) ts) (hw:Sm (.sl (.sl aa)) w):Sm (.sl TTable) (ts.set i.toNat ((nth (t:=TTable) ts i).1,(w,()))):=by
 refine⟨by rw[List.length_set];exact h.1,fun t ht=>?_⟩
 rcases List.mem_or_eq_of_mem_set ht with ht | rfl
 ·exact h.2 t ht
 ·exact⟨(ay (t:=TTable) h i).1,hw,trivial⟩
theorem zQ {rows:List (List aa.D)} (h:Sm (.sl (.sl aa)) rows) (n:Nat):Sm (.sl (.sl aa)) (rows.take n++rows.drop (n+1)):=⟨Nat.le_trans (so rows n).length_le h.1,fun x hx=>h.2 x ((so rows n).subset hx)⟩
theorem zU {ts:List TTable.D} {c:TChange.D} (hs:Sm (.sl TTable) ts) (hc:Sm TChange c) (h:aV ts c=true):Sm (.sl TTable) (bt ts c):=by
 have hr:=(ay (t:=TTable) hs c.1).2.1
 refine GD hs ?_
 unfold jd
 cases e:c.2.2.1 with
 | true=>
  have h5:=(gO h).2.2.2.1 e
  rw[cond_true]
  refine⟨by rw[List.length_append];simp only[List.length_cons,List.length_nil];unfold rowsOf at h5;omega,fun x hx=>?_⟩
  rcases List.mem_append.1 hx with hx | hx
  ·exact hr.2 x hx
  ·rw[List.mem_singleton.1 hx];exact hc.2.1
 | false=>exact zQ hr _
theorem DL {A:List TTable.D} {b:TBond.D} (h:0<=broken A b):broken A b<((dZ A b).length:Int)/\breaks A b (broken A b)=true:=by
 unfold broken at h ⊢
 cases h2:(aH 0 ((dZ A b).length:Int)).find? (breaks A b) with
 | none=>rw[h2] at h;exact absurd h (by decide)
 | some n=>exact⟨(cR.1 (List.mem_of_find?_eq_some h2)).2,List.find?_some h2⟩
theorem Ex {α:Type} {xs:List α} {p q:α->Bool} (h:∀x∈xs,p x=q x):xs.any p=xs.any q:=by
 induction xs with
 | nil=>rfl
 | cons x xs ih=>rw[List.any_cons,List.any_cons,h x (List.mem_cons_self ..),ih fun y hy=>h y (List.mem_cons_of_mem _ hy)]
theorem HS {ts:List TTable.D} {bonds:List TBond.D} (hl:bonds.length<=4) (h0:aA ts=true) (h1:∀b∈bonds,aN ts b=true):cU ts bonds=!List.any bonds (fun e=>decide (0<=broken ts e)):=by
 unfold cU
 rw[decide_eq_true hl,Bool.true_and,List.all_eq_not_any_not]
 congr 1
 refine Ex ?_
 intro b hb
 rw[AU,h0,h1 b hb]
 simp
theorem HZ {bonds:List TBond.D} {now:List TTable.D} (c:TChange.D) (h:aA now=true/\cU now bonds=true):aA (rR bonds now c)=true/\cU (rR bonds now c) bonds=true:=by
 unfold rR
 cases hc:aV now c&&cU (bt now c) bonds with
 | false=>exact h
 | true=>
  rw[Bool.and_eq_true] at hc
  exact⟨Di hc.1,hc.2⟩
theorem oP {bonds:List TBond.D}:∀(cs:List TChange.D) {now:List TTable.D},aA now=true/\cU now bonds=true->aA (cs.foldl (rR bonds) now)=true/\cU (cs.foldl (rR bonds) now) bonds=true
 | [],_,h=>h
 | c::cs,_,h=>oP cs (HZ c h)
def size:List TTable.D->Nat
 | []=>0
 | t::ts=>t.2.1.length+size ts
theorem size_set:∀(ts:List TTable.D) (k:Nat) (z:TTable.D) (hk:k<ts.length),size (ts.set k z)+ts[k].2.1.length=size ts+z.2.1.length
 | t::ts,0,z,_=>by
  show z.2.1.length+size ts+t.2.1.length=t.2.1.length+size ts+z.2.1.length
  omega
 | t::ts,k+1,z,hk=>by
  have:=size_set ts k z (by simpa using hk)
  show t.2.1.length+size (ts.set k z)+(ts[k]'(by simpa using hk)).2.1.length=t.2.1.length+size ts+z.2.1.length
  omega
theorem size_le {ts:List TTable.D} (h:aA ts=true):size ts<=18:=by
 unfold aA at h
 rw[Bool.and_eq_true,List.all_eq_true] at h
 have key:∀(l:List TTable.D),(∀t∈l,cN t=true)->size l<=6 * l.length:=by
  intro l
  induction l with
  | nil=>intro _;exact Nat.le_refl _
  | cons t l ih=>
   intro hl
   have h1:=hl t (List.mem_cons_self ..)
   have h2:=ih fun u hu=>hl u (List.mem_cons_of_mem _ hu)
   unfold cN at h1
   rw[Bool.and_eq_true] at h1
   have h3:=of_decide_eq_true h1.1
   show t.2.1.length+size l<=6 * (l.length+1)
   omega
 have h1:=key ts h.2
 have h2:=of_decide_eq_true h.1
 omega
theorem HG {α:Type} (xs:List α) (n:Nat) (h:n<xs.length):(xs.take n++xs.drop (n+1)).length+1=xs.length:=by
 rw[List.length_append,List.length_take,List.length_drop]
 omega
theorem wB {ts:List TTable.D} {i n:Int} (h0:0<=i) (h1:i<(ts.length:Int)) (n0:0<=n) (n1:n<((rowsOf ts i).length:Int)):size (gL ts i n)+1=size ts:=by
 have h:=size_set ts i.toNat ((nth (t:=TTable) ts i).1,((nth (t:=TTable) ts i).2.1.take n.toNat++(nth (t:=TTable) ts i).2.1.drop (n.toNat+1),())) (by omega)
 have e:=HG (rowsOf ts i) n.toNat (by omega)
 have hn:ts[i.toNat]'(by omega)=nth (t:=TTable) ts i:=(wO (t:=TTable) h0 h1).symm
 rw[hn] at h
 unfold rowsOf at e
 unfold gL
 simp only at h
 omega
theorem Io {ts:List TTable.D} {i:Int} (n:Int) (h:aA ts=true) (h0:0<=i) (h1:i<(ts.length:Int)):aA (gL ts i n)=true:=
 GH h h0 h1 (Nat.le_trans (so _ _).length_le (sw h h0 h1).1) fun r hr=>(sw h h0 h1).2 r ((so _ _).subset hr)
theorem Bk {ts:List TTable.D} {i:Int} (n:Int) (h0:0<=i):CL (gL ts i n) ts:=Dm h0
theorem Ct {ts:List TTable.D} (i n:Int) (h:Sm (.sl TTable) ts):Sm (.sl TTable) (gL ts i n):=GD h (zQ (ay (t:=TTable) h i).2.1 _)
theorem Gc {ts:List TTable.D} {i:Int} (n:Int) (h0:0<=i) (h1:i<(ts.length:Int)) {j:Int} (j0:0<=j):rowsOf (gL ts i n) j=if i=j then (rowsOf ts i).take n.toNat++(rowsOf ts i).drop (n.toNat+1) else rowsOf ts j:=by
 unfold rowsOf gL
 by_cases e:i=j
 ·rw[if_pos e,<-e,sk h0 h1]
 ·rw[if_neg e,By h0 j0 e]
def sR (bonds:List TBond.D) (A:List TTable.D):Prop:=aA A=true/\∀b∈bonds,aN A b=true
theorem oF {bonds:List TBond.D} {A:List TTable.D} (h:sR bonds A) {b:TBond.D} (hb:b∈bonds):0<=b.2.1/\b.2.1<(A.length:Int):=(qc (h.2 b hb)).1
theorem tO {bonds:List TBond.D} {A:List TTable.D} (h:sR bonds A) {b:TBond.D} (hb:b∈bonds) (n:Int):sR bonds (gL A b.2.1 n):=by
 obtain⟨h0,h1⟩:=oF h hb
 exact⟨Io n h.1 h0 h1,fun c hc=>by rw[BQ (Bk n h0)];exact h.2 c hc⟩
theorem kH {A:List TTable.D} {b:TBond.D} (h:loose A b=true):b.2.2.2.2.2.1=true/\0<=broken A b/\broken A b<((dZ A b).length:Int)/\breaks A b (broken A b)=true:=by
 unfold loose at h
 rw[Bool.and_eq_true] at h
 have h2:=of_decide_eq_true h.2
 exact⟨h.1,h2,DL h2⟩
theorem xC {bonds:List TBond.D}:∀(n:Nat) {A:List TTable.D},sR bonds A->size A<n->(∀b∈bonds,loose (follow bonds n A) b=false)/\sR bonds (follow bonds n A)/\CL (follow bonds n A) A/\∀i:Int,0<=i->(rowsOf (follow bonds n A) i).Sublist (rowsOf A i)
 | 0,_,_,h=>absurd h (Nat.not_lt_zero _)
 | n+1,A,hA,hs=>by
  unfold follow
  cases hf:bonds.find? (loose A) with
  | none=>
   rw[List.find?_eq_none] at hf
   exact⟨fun b hb=>by simpa using hf b hb,hA,⟨rfl,fun _ _=>rfl⟩,fun i _=>List.Sublist.refl _⟩
  | some b=>
   have hb:=List.mem_of_find?_eq_some hf
   obtain⟨_,l1,l2,_⟩:=kH (List.find?_some hf)
   obtain⟨h0,h1⟩:=oF hA hb
   have hz:=wB h0 h1 l1 l2
   obtain⟨r1,r2,r3,r4⟩:=xC n (tO hA hb (broken A b)) (by omega)
   refine⟨r1,r2,EI r3 (Bk _ h0),fun i i0=>(r4 i i0).trans ?_⟩
   rw[Gc _ h0 h1 i0]
   by_cases e:b.2.1=i
   ·rw[if_pos e,<-e];exact so _ _
   ·rw[if_neg e];exact List.Sublist.refl _
theorem si {bonds:List TBond.D}:∀(n:Nat) {A:List TTable.D},Sm (.sl TTable) A->Sm (.sl TTable) (follow bonds n A)
 | 0,_,h=>h
 | n+1,A,h=>by
  unfold follow
  cases bonds.find? (loose A) with
  | none=>exact h
  | some b=>exact si n (Ct _ _ h)
theorem xU {tables:List TTable.D} {bonds:List TBond.D} {c:TChange.D} (h:Sm (.sl TTable) tables) (hc:Sm TChange c):Sm (.sl TTable) (bR tables bonds c).1:=by
 unfold bR
 cases hk:aV tables c&&(decide (bonds.length<=4)&&bonds.all (aN tables)) with
 | false=>exact wD _
 | true=>
  rw[Bool.and_eq_true] at hk
  rw[cond_true]
  cases cU (follow bonds 19 (bt tables c)) bonds with
  | false=>exact wD _
  | true=>exact si 19 (zU h hc hk.1)
theorem xp {tables:List TTable.D} {bonds:List TBond.D} {c:TChange.D} (h1:aV tables c=true) (h2:bonds.all (aN tables)=true):sR bonds (bt tables c):=
 ⟨Di h1,fun b hb=>by rw[BQ (DZ h1)];exact List.all_eq_true.1 h2 b hb⟩
theorem Ds {t:Ty} (p:t.D->Bool):∀(xs:List t.D),match xs.find? p with
  | none=>idx (t:=t) p xs=-1
  | some b=>0<=idx (t:=t) p xs/\idx (t:=t) p xs<(xs.length:Int)/\nth (t:=t) xs (idx (t:=t) p xs)=b
 | []=>rfl
 | x::xs=>by
  have ih:=Ds p xs
  unfold idx at ih ⊢
  rw[List.find?_cons,List.findIdx?_cons]
  cases hp:p x with
  | true=>exact⟨Int.le_refl _,by show (0:Int)<((x::xs).length:Int);rw[List.length_cons];omega,rfl⟩
  | false=>
   simp only
   cases h:xs.find? p with
   | none=>
    rw[h] at ih
    simp only at ih
    cases h2:xs.findIdx? p with
    | none=>rfl
    | some k=>rw[h2] at ih;simp only at ih;omega
   | some b=>
    rw[h] at ih
    simp only at ih
    cases h2:xs.findIdx? p with
    | none=>rw[h2] at ih;exact absurd ih.1 (by decide)
    | some k=>
     rw[h2] at ih
     simp only at ih
     obtain⟨i1,i2,i3⟩:=ih
     show 0<=((k+1:Nat):Int)/\((k+1:Nat):Int)<((x::xs).length:Int)/\nth (t:=t) (x::xs) ((k+1:Nat):Int)=b
     refine⟨by omega,by rw[List.length_cons];omega,?_⟩
     rw[show ((k+1:Nat):Int)=(k:Int)+1 by omega,yW x xs (by omega)]
     exact i3
theorem uq {bonds:List TBond.D} {f:List TTable.D->Option (Sum (List TTable.D) (List TTable.D))} (hf:∀A,sR bonds A->Sm (.sl TTable) A->f A=some (match bonds.find? (loose A) with
   | none=>.inr A
   | some b=>.inl (gL A b.2.1 (broken A b)))):∀(n:Nat) {A:List TTable.D},sR bonds A->Sm (.sl TTable) A->size A<n->cC f A=some (follow bonds n A)
 | 0,_,_,_,h=>absurd h (Nat.not_lt_zero _)
 | n+1,A,hA,hs,hn=>by
  rw[bP,hf A hA hs]
  unfold follow
  cases h:bonds.find? (loose A) with
  | none=>rfl
  | some b=>
   have hb:=List.mem_of_find?_eq_some h
   obtain⟨_,l1,l2,_⟩:=kH (List.find?_some h)
   obtain⟨h0,h1⟩:=oF hA hb
   have hz:=wB h0 h1 l1 l2
   exact uq hf n (tO hA hb _) (Ct _ _ hs) (by omega)
theorem Ei {bonds:List TBond.D} {A:List TTable.D} {f:Bool×Int×List TTable.D->Option (Sum (Bool×Int×List TTable.D) (Bool×List TTable.D))} (hl:bonds.length<=4)
  (h0:∀k:Int,0<=k->k<(bonds.length:Int)->f (false,k,A)=some (.inl (cond (loose A (nth (t:=TBond) bonds k)) (true,k+1,gL A (nth (t:=TBond) bonds k).2.1 (broken A (nth (t:=TBond) bonds k))) (false,k+1,A))))
  (h1:∀(k:Int) (B:List TTable.D),f (true,k,B)=some (.inr (true,B))) (h2:∀k:Int,¬k<(bonds.length:Int)->f (false,k,A)=some (.inr (false,A))) :
  ∀(n:Nat) (k:Int),n=bonds.length-k.toNat->0<=k->cC f (false,k,A)=some (match (bonds.drop k.toNat).find? (loose A) with
   | none=>(false,A)
   | some b=>(true,gL A b.2.1 (broken A b))):=by
 intro n
 induction n with
 | zero=>
  intro k hn k0
  rw[bP,h2 k (by omega),List.drop_eq_nil_of_le (by omega)]
  rfl
 | succ n ih=>
  intro k hn k0
  have hlt:k.toNat<bonds.length:=by omega
  rw[bP,h0 k k0 (by omega),List.drop_eq_getElem_cons hlt,List.find?_cons,wO (t:=TBond) k0 (by omega)]
  cases hp:loose A bonds[k.toNat] with
  | true=>
   rw[cond_true,bL,bP,h1]
   rfl
  | false=>
   rw[cond_false,bL,ih (k+1) (by omega) (by omega),show (k+1).toNat=k.toNat+1 by omega]
theorem xG {bonds:List TBond.D} {f:Bool×List TTable.D->Option (Sum (Bool×List TTable.D) (List TTable.D))} (h0:∀A,f (false,A)=some (.inr A)) (hf:∀A,sR bonds A->Sm (.sl TTable) A->f (true,A)=some (.inl (match bonds.find? (loose A) with
   | none=>(false,A)
   | some b=>(true,gL A b.2.1 (broken A b))))):∀(n:Nat) {A:List TTable.D},sR bonds A->Sm (.sl TTable) A->size A<n->cC f (true,A)=some (follow bonds n A)
 | 0,_,_,_,h=>absurd h (Nat.not_lt_zero _)
 | n+1,A,hA,hs,hn=>by
  rw[bP,hf A hA hs]
  unfold follow
  cases h:bonds.find? (loose A) with
  | none=>
   show cC f (false,A)=_
   rw[bP,h0]
   rfl
  | some b=>
   have hb:=List.mem_of_find?_eq_some h
   obtain⟨_,l1,l2,_⟩:=kH (List.find?_some h)
   obtain⟨h0',h1⟩:=oF hA hb
   have hz:=wB h0' h1 l1 l2
   exact xG h0 hf n (tO hA hb _) (Ct _ _ hs) (by omega)
theorem CG {α:Type} (p:α->Bool):∀(xs:List α) (b:Bool),xs.foldl (fun v x=>v&&p x) b=(b&&xs.all p)
 | [],b=>by simp
 | x::xs,b=>by rw[List.foldl_cons,CG p xs,List.all_cons,Bool.and_assoc]
end M
end Go.AE
