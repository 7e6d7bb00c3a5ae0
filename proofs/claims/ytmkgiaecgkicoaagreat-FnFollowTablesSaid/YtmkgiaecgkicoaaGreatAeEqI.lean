/- Tables and bonds. -/
import Derived.Test.YtmkgiaecgkicoaaGreatAeEqH
import Derived.Test.YtmkgiaecgkicoaaGreatAeLem
section
namespace Go.AE
open Go Go.RowKit
set_option linter.unusedSimpArgs false
set_option linter.unusedVariables false
theorem Ag {α:Type} (xs:List α):decide ((xs.length:Int)=0)=decide (xs.length=0):=decide_eq_decide.2 (by omega)
theorem Fw {α:Type} (xs:List α):decide ((0:Int)<(xs.length:Int))=!decide (xs.length=0):=by
 by_cases h:xs.length=0
 ·rw[decide_eq_true h,decide_eq_false (by omega)];rfl
 ·rw[decide_eq_false h,decide_eq_true (by omega)];rfl
theorem Ia {α β:Type} (xs:List α) (ys:List β):decide ((xs.length:Int)=(ys.length:Int))=decide (xs.length=ys.length):=decide_eq_decide.2 (by omega)
theorem wY {n a b:Int} (h:M.inR n a b=true):a<=n/\n<=b:=by
 unfold M.inR at h
 simp only[Bool.and_eq_true,decide_eq_true_eq] at h
 exact h
theorem pM {c:List ax.D} {l:List Int} (h:M.cz c l=true) {n:Int} (hn:n∈l):0<=n/\n<(c.length:Int):=by
 unfold M.cz at h
 rw[Bool.and_eq_true,List.all_eq_true] at h
 have:=wY (h.2 n hn)
 omega
theorem yH {t:Ty} {xs:List t.D} {i:Int} (hi:i∈aT 0 (xs.length:Int)):nth (t:=t) xs i∈xs:=by
 obtain⟨h0,h1⟩:=cS.1 hi
 exact cF h0 h1
theorem yR {tables:List ag.D} (h:M.aF tables=true) {t:ag.D} (ht:t∈tables) {r:List aa.D} (hr:r∈t.2.1):r.length=t.1.length:=by
 unfold M.aF at h
 rw[Bool.and_eq_true,List.all_eq_true] at h
 have h2:=h.2 t ht
 unfold M.dm M.gF at h2
 rw[Bool.and_eq_true,Bool.and_eq_true,List.all_eq_true] at h2
 have h3:=h2.2.2 r hr
 unfold M.bU at h3
 simp only[Bool.and_eq_true,decide_eq_true_eq] at h3
 exact h3.2.2.1
theorem rM {tables:List ag.D} (h:M.aF tables=true) {t:ag.D} (ht:t∈tables) {r:List aa.D} (hr:r∈t.2.1) {l:List Int} (hl:M.cz t.1 l=true):M.fm r l:=by
 intro n hn
 have:=pM hl hn
 rw[yR h ht hr]
 exact this
theorem GF {step:Int->Option (Sum Int (Sum Unit Unit))} (c:Int) (p:Int->Bool) (hc:c<=1048576) (hs:∀j,0<=j->step j=if j<c then (if p j then some (.inr (.inr ())) else some (.inl (wrap64 (j+1)))) else some (.inr (.inl ()))) :
  ∀(n:Nat) (j:Int),n=(c-j).toNat->0<=j->bL step j=some (cond ((aT j c).any p) (.inr ()) (.inl ())):=by
 intro n
 induction n with
 | zero=>
  intro j hn h0
  rw[bQ,hs j h0,if_neg (by omega),jg (by omega)]
  rfl
 | succ n ih=>
  intro j hn h0
  have hlt:j<c:=by omega
  rw[bQ,hs j h0,if_pos hlt,gT hlt,List.any_cons]
  cases p j with
  | true=>rfl
  | false=>
   simp only[Bool.false_eq_true,if_false,bO,Bool.false_or]
   rw[aO (by omega) (by omega)]
   exact ih (j+1) (by omega) (by omega)
theorem CZ {step:Bool×Int->Option (Sum (Bool×Int) Bool)} (c:Int) (p:Int->Bool) (hc:c<=1048576) (hs:∀f j,0<=j->step (f,j)=if j<c then (cond f (some (.inr f)) (some (.inl (p j,wrap64 (j+1))))) else some (.inr f)) :
  ∀(n:Nat) (f:Bool) (j:Int),n=(c-j).toNat->0<=j->bL step (f,j)=some (f||(aT j c).any p):=by
 intro n
 induction n with
 | zero=>
  intro f j hn h0
  rw[bQ,hs f j h0,if_neg (by omega),jg (by omega)]
  simp
 | succ n ih=>
  intro f j hn h0
  have hlt:j<c:=by omega
  rw[bQ,hs f j h0,if_pos hlt]
  cases f with
  | true=>simp
  | false=>
   simp only[cond_false,bO,Bool.false_or]
   rw[aO (by omega) (by omega),ih (p j) (j+1) (by omega) (by omega),gT hlt,List.any_cons]
theorem Hu {t:Ty} {xs:List t.D} {n:Nat} {i:Int} (h:i<(n:Int)) (h0:0<=i):nth (t:=t) (xs.take n) i=nth (t:=t) xs i:=by
 unfold nth
 rw[List.getD_eq_getElem?_getD,List.getD_eq_getElem?_getD,List.getElem?_take_of_lt (by omega)]
theorem HR {t:Ty} (xs:List t.D) (q:t.D->Bool) {i:Int} (h0:0<=i) (h1:i<=(xs.length:Int)):(aT 0 i).any (fun j=>q (nth xs j))=(xs.take i.toNat).any q:=by
 rw[<-BC (t:=t) (xs.take i.toNat) q]
 have e:((xs.take i.toNat).length:Int)=i:=by rw[List.length_take];omega
 rw[e]
 have key:∀(l:List Int) (_:∀j∈l,0<=j/\j<i),l.any (fun j=>q (nth xs j))=l.any (fun j=>q (nth (xs.take i.toNat) j)):=by
  intro l
  induction l with
  | nil=>intro _;rfl
  | cons j l ih=>
   intro hl
   obtain⟨a,b⟩:=hl j (List.mem_cons_self ..)
   rw[List.any_cons,List.any_cons,ih (fun k hk=>hl k (List.mem_cons_of_mem _ hk)),Hu (by omega) a]
 exact key _ (fun j hj=>cS.1 hj)
theorem zI {α:Type} (xs:List α) {k:Int}:aC xs (some ((0:Int),k))=xs.take k.toNat:=by
 unfold aC
 simp
theorem kz {tables:List ag.D} {b:ah.D} (h:M.aN tables b=true):(0<=b.2.1/\b.2.1<(tables.length:Int)) ∧
  ((b.1=(1:Int)/\M.cz (nth (t:=ag) tables b.2.1).1 b.2.2.1=true)\/(b.1=(3:Int)/\M.dL (nth (t:=ag) tables b.2.1).1 b.2.2.2.2.2.2.1=3) ∨
   (b.1=(2:Int)/\M.cz (nth (t:=ag) tables b.2.1).1 b.2.2.1=true/\(0<=b.2.2.2.1/\b.2.2.2.1<(tables.length:Int))/\M.cz (nth (t:=ag) tables b.2.2.2.1).1 b.2.2.2.2.1=true)):=by
 unfold M.aN at h
 rw[Bool.and_eq_true] at h
 obtain⟨h0,h⟩:=h
 have h0:=wY h0
 refine⟨⟨h0.1,Int.lt_of_le_sub_one h0.2⟩,?_⟩
 by_cases e1:b.1=(1:Int)
 ·simp only[e1,decide_true,cond_true,Bool.and_eq_true] at h
  exact .inl ⟨e1,h.1⟩
 by_cases e3:b.1=(3:Int)
 ·simp only[e3,decide_true,cond_true,Int.reduceEq,decide_false,cond_false,Bool.and_eq_true,decide_eq_true_eq] at h
  exact .inr (.inl ⟨e3,h.1⟩)
 by_cases e2:b.1=(2:Int)
 ·simp only[e2,decide_true,cond_true,Int.reduceEq,decide_false,cond_false,Bool.and_eq_true] at h
  have h1:=wY h.1
  exact .inr (.inr ⟨e2,h.2.1,⟨h1.1,Int.lt_of_le_sub_one h1.2⟩,h.2.2.1⟩)
 ·simp only[e1,e2,e3,decide_false,cond_false] at h
  cases h
theorem BS (tables:List ag.D) (b:ah.D):M.broken tables b=-1\/0<=M.broken tables b:=by
 unfold M.broken
 cases h:(aT 0 ((M.dD tables b).length:Int)).find? (M.breaks tables b) with
 | none=>exact .inl rfl
 | some n=>exact .inr (cS.1 (List.mem_of_find?_eq_some h)).1
theorem EX (tables:List ag.D) (b:ah.D):decide (M.broken tables b=-1)=!decide (0<=M.broken tables b):=by
 rcases BS tables b with h | h
 ·rw[h];rfl
 ·rw[decide_eq_true h,decide_eq_false (by omega)];rfl
theorem kV (tables:List ag.D) (b:ah.D):decide (M.aJ tables b=-1)=(M.aF tables&&M.aN tables b&&!decide (0<=M.broken tables b)):=by
 unfold M.aJ
 cases M.aF tables&&M.aN tables b
 ·rfl
 ·simp only[cond_true,Bool.true_and]
  exact EX tables b
theorem CI (tables:List ag.D) (bonds:List ah.D):cond ((decide ((bonds.length:Int)=(0:Int)))==false) (cond ((decide ((bonds.length:Int)<=(4:Int)))==true) (cond ((M.aF tables&&List.all bonds (M.aN tables))==true)
  (af (∀e∈bonds,(M.aF tables&&M.aN tables e)=true) (some (!List.any bonds (fun e=>decide (0<=M.broken tables e))))) (some false)) (some false)) (some true)=some (M.bS tables bonds):=by
 unfold M.bS
 rw[show decide ((bonds.length:Int)<=4)=decide (bonds.length<=4) from decide_eq_decide.2 (by omega),Ag]
 cases hb:decide (bonds.length=0) with
 | true=>
  have:bonds=[]:=List.length_eq_zero_iff.1 (of_decide_eq_true hb)
  subst this
  rfl
 | false=>
 cases decide (bonds.length<=4)
 ·rfl
 have hne:bonds≠[]:=by rintro rfl;cases hb
 cases ht:M.aF tables with
 | false=>
  cases bonds with
  | nil=>exact absurd rfl hne
  | cons x l=>simp[kV,ht]
 | true=>
  cases ho:List.all bonds (M.aN tables) with
  | false=>
   have:(bonds.all fun b=>decide (M.aJ tables b=-1))=false:=by
    rw[List.all_eq_false] at ho ⊢
    obtain⟨x,hx,hn⟩:=ho
    exact⟨x,hx,by rw[kV,ht];simp[hn]⟩
   rw[this]
   rfl
  | true=>
   rw[List.all_eq_true] at ho
   simp only[Bool.true_and,show ((false:Bool)==false)=true from rfl,show ((true:Bool)==true)=true from rfl,cond_true]
   rw[ai ho,List.all_eq_not_any_not]
   congr 2
   have key:∀(l:List ah.D) (_:∀x∈l,M.aN tables x=true),(l.any fun e=>decide (0<=M.broken tables e))=l.any fun b=>!decide (M.aJ tables b=-1):=by
    intro l
    induction l with
    | nil=>intro _;rfl
    | cons x l ih=>
     intro hl
     rw[List.any_cons,List.any_cons,ih (fun y hy=>hl y (List.mem_cons_of_mem _ hy)),kV,ht,hl x (List.mem_cons_self ..)]
     simp
   exact key bonds ho
end Go.AE
end
section
namespace Go.AE
open Go Go.RowKit
set_option linter.unusedSimpArgs false
set_option linter.unusedVariables false
theorem Bc {row:List aa.D} {E:List aE.D} (p:aE.D) (st:List aa.D) (hp:Sm aE p) (hs:Sm (.sl aa) st) (hl:st.length<=1000) (h1:M.takes p<=(st.length:Int)) (hk:1<=p.1/\p.1<=8) (hc:M.nR p row.length) :
  F.ez row E p st=some (.inl (M.fz row st p)):=by
 obtain⟨t0,t2⟩:=vo p
 have hw:=Dj (n:=st.length) (k:=M.takes p) (by omega) t0 t2
 have hct:=vj st (k:=(st.length:Int)-M.takes p) (by omega) (by omega)
 have hn:((st.length:Int)-M.takes p).toNat=st.length-(M.takes p).toNat:=by omega
 rw[hn] at hct
 unfold F.ez M.fz
 rw[hw,hct]
 have hsm:Sm (.sl aa) (st.drop (st.length-(M.takes p).toNat)):=⟨by rw[List.length_drop];omega,fun x hx=>hs.2 x (List.mem_of_mem_drop hx)⟩
 rw[ai hsm,ai hc,ai hk]
 simp only[bW]
 repeat rw[ai (by first | omega | (rw[List.length_drop];omega) | (unfold lim;simp;omega))]
 rw[hn]
end Go.AE
end
section
namespace Go.AE
open Go Go.RowKit
set_option linter.unusedSimpArgs false
set_option linter.unusedVariables false
theorem Ew {row:List aa.D} (p:aE.D) (st:List aa.D) (hp:Sm aE p) (hs:Sm (.sl aa) st) (hl:st.length<=1000) (h1:M.takes p<=(st.length:Int)) (hk:1<=p.1/\p.1<=8) (hc:M.nR p row.length) :
  F.sU row st p=some (M.fz row st p):=by
 have w1:wrap64 ((st.length:Int)-1)=(st.length:Int)-1:=aO (by omega) (by omega)
 have w2:wrap64 ((st.length:Int)-2)=(st.length:Int)-2:=aO (by omega) (by omega)
 have n1:((st.length:Int)-1).toNat=st.length-1:=by omega
 have n2:((st.length:Int)-2).toNat=st.length-2:=by omega
 have s1:Sm aa (nth (t:=aa) st ((st.length:Int)-1)):=aH hs _
 have s2:Sm aa (nth (t:=aa) st ((st.length:Int)-2)):=aH hs _
 unfold F.sU M.fz M.iy
 rw[w1,w2]
 rcases Fv hk with h | h | h | h | h | h | h | h
 ·rw[qK (.inl h)]
  simp only[h]
  repeat rw[ai (by unfold lim;simp;omega)]
  simp
 ·obtain⟨c0,c1⟩:=hc h
  rw[qK (.inr h)]
  simp only[h]
  simp only[show decide ((2:Int)=1)=false from rfl,cond_false,decide_true,cond_true]
  rw[ai c0,ai c1]
  simp
 ·have ht:=fR (.inl h)
  rw[ht] at h1 ⊢
  have hd:=oU (t:=aa) (st:=st) (by omega)
  rw[show (2:Int).toNat=2 from rfl,hd]
  simp only[h,show decide ((3:Int)=1)=false from rfl,show decide ((3:Int)=2)=false from rfl,cond_false,decide_true,cond_true,n1,n2,bW]
  repeat rw[ai (by first | omega | exact s1 | exact s2 | (unfold lim;simp;omega))]
  rfl
 ·have ht:=fR (.inr (.inl h))
  rw[ht] at h1 ⊢
  have hd:=oU (t:=aa) (st:=st) (by omega)
  rw[show (2:Int).toNat=2 from rfl,hd]
  simp only[h,show decide ((4:Int)=1)=false from rfl,show decide ((4:Int)=2)=false from rfl,show decide ((4:Int)=3)=false from rfl,cond_false,decide_true,cond_true,n1,n2,bW]
  repeat rw[ai (by first | omega | exact s1 | exact s2 | (unfold lim;simp;omega))]
  rfl
 ·have ht:=fR (.inr (.inr (.inl h)))
  rw[ht] at h1 ⊢
  have hd:=oU (t:=aa) (st:=st) (by omega)
  rw[show (2:Int).toNat=2 from rfl,hd]
  simp only[h,show decide ((5:Int)=1)=false from rfl,show decide ((5:Int)=2)=false from rfl,show decide ((5:Int)=3)=false from rfl,show decide ((5:Int)=4)=false from rfl,cond_false,decide_true,cond_true,n1,n2,bW]
  repeat rw[ai (by first | omega | exact s1 | exact s2 | (unfold lim;simp;omega))]
  rfl
 ·have ht:=fR (.inr (.inr (.inr h)))
  rw[ht] at h1 ⊢
  have hd:=oU (t:=aa) (st:=st) (by omega)
  rw[show (2:Int).toNat=2 from rfl,hd]
  simp only[h,show decide ((6:Int)=1)=false from rfl,show decide ((6:Int)=2)=false from rfl,show decide ((6:Int)=3)=false from rfl,show decide ((6:Int)=4)=false from rfl,show decide ((6:Int)=5)=false from rfl,cond_false,decide_true,cond_true,n1,n2,bW]
  repeat rw[ai (by first | omega | exact s1 | exact s2 | (unfold lim;simp;omega))]
  rfl
 ·have ht:=mH (.inl h)
  rw[ht] at h1 ⊢
  have hd:=vg (t:=aa) (st:=st) (by omega)
  rw[show (1:Int).toNat=1 from rfl,hd]
  simp only[h,show decide ((7:Int)=1)=false from rfl,show decide ((7:Int)=2)=false from rfl,show decide ((7:Int)=3)=false from rfl,show decide ((7:Int)=4)=false from rfl,show decide ((7:Int)=5)=false from rfl,show decide ((7:Int)=6)=false from rfl,cond_false,decide_true,cond_true,n1,n2,bW]
  repeat rw[ai (by first | omega | exact s1 | exact s2 | (unfold lim;simp;omega))]
  rfl
 ·have ht:=mH (.inr h)
  rw[ht] at h1 ⊢
  have hd:=vg (t:=aa) (st:=st) (by omega)
  rw[show (1:Int).toNat=1 from rfl,hd]
  simp only[h,show decide ((8:Int)=1)=false from rfl,show decide ((8:Int)=2)=false from rfl,show decide ((8:Int)=3)=false from rfl,show decide ((8:Int)=4)=false from rfl,show decide ((8:Int)=5)=false from rfl,show decide ((8:Int)=6)=false from rfl,show decide ((8:Int)=7)=false from rfl,cond_false,decide_true,cond_true,n1,n2,bW]
  repeat rw[ai (by first | omega | exact s1 | exact s2 | (unfold lim;simp;omega))]
  rfl
theorem Bo {row:List aa.D} {E:List aE.D} (p:aE.D) (st:List aa.D) (hs:Sm (.sl aa) st) (hl:st.length<=1000) (h1:M.takes p<=(st.length:Int)) (hk:1<=p.1/\p.1<=8) (hc:M.nR p row.length) :
  F.fh row E p st=some (.inl (M.fz row st p)):=by
 unfold F.fh
 rw[ai hs,ai hl,ai h1,ai hk,ai hc]
 rfl
end Go.AE
end
section
namespace Go.AE
open Go Go.RowKit
set_option linter.unusedVariables false
namespace M
theorem zW {ρ:Type} {f:Int->Option (Sum Int (Sum Unit ρ))} {n:Nat} (hn:n<=1048576) (h:∀v:Int,0<=v->v<(n:Int)->f v=some (.inl (wrap64 (v+(1:Int))))) (he:f (n:Int)=some (.inr (.inl ()))) :
  ∀(d k:Nat),k+d=n->bL f (k:Int)=some (.inl ())
 | 0,k,hk=>by
  rw[show k=n by omega,bQ,he]
  rfl
 | d+1,k,hk=>by
  rw[bQ,h (k:Int) (by omega) (by omega),bO,aO (by omega) (by omega)]
  exact zW hn h he d (k+1) (by omega)
end M
end Go.AE
end
