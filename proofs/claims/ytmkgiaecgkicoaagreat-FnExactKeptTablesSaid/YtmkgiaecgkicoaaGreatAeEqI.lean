/- Tables and bonds. -/
import Derived.Test.YtmkgiaecgkicoaaGreatAeEqH
import Derived.Test.YtmkgiaecgkicoaaGreatAeSeat
section
namespace Go.AE
open Go Go.RowKit
set_option linter.unusedSimpArgs false
set_option linter.unusedVariables false
theorem zN {α:Type} (xs:List α):decide ((xs.length:Int)=0)=decide (xs.length=0):=decide_eq_decide.2 (by omega)
theorem EC {α:Type} (xs:List α):decide ((0:Int)<(xs.length:Int))=!decide (xs.length=0):=by
 by_cases h:xs.length=0
 ·rw[decide_eq_true h,decide_eq_false (by omega)];rfl
 ·rw[decide_eq_false h,decide_eq_true (by omega)];rfl
theorem Gh {α β:Type} (xs:List α) (ys:List β):decide ((xs.length:Int)=(ys.length:Int))=decide (xs.length=ys.length):=decide_eq_decide.2 (by omega)
theorem vU {n a b:Int} (h:M.inR n a b=true):a<=n/\n<=b:=by
 unfold M.inR at h
 simp only[Bool.and_eq_true,decide_eq_true_eq] at h
 exact h
theorem oJ {c:List ai.D} {l:List Int} (h:M.bR c l=true) {n:Int} (hn:n∈l):0<=n/\n<(c.length:Int):=by
 unfold M.bR at h
 rw[Bool.and_eq_true,List.all_eq_true] at h
 have:=vU (h.2 n hn)
 omega
theorem BN {t:Ty} {xs:List t.D} {i:Int} (hi:i∈aH 0 (xs.length:Int)):nth (t:=t) xs i∈xs:=by
 obtain⟨h0,h1⟩:=cY.1 hi
 exact dS h0 h1
theorem yF {tables:List TTable.D} (h:M.aA tables=true) {t:TTable.D} (ht:t∈tables) {r:List aa.D} (hr:r∈t.2.1):r.length=t.1.length:=by
 unfold M.aA at h
 rw[Bool.and_eq_true,List.all_eq_true] at h
 have h2:=h.2 t ht
 unfold M.cU M.fT at h2
 rw[Bool.and_eq_true,Bool.and_eq_true,List.all_eq_true] at h2
 have h3:=h2.2.2 r hr
 unfold M.bH at h3
 simp only[Bool.and_eq_true,decide_eq_true_eq] at h3
 exact h3.2.2.1
theorem qW {tables:List TTable.D} (h:M.aA tables=true) {t:TTable.D} (ht:t∈tables) {r:List aa.D} (hr:r∈t.2.1) {l:List Int} (hl:M.bR t.1 l=true):M.eI r l:=by
 intro n hn
 have:=oJ hl hn
 rw[yF h ht hr]
 exact this
theorem Fs {step:Int->Option (Sum Int (Sum Unit Unit))} (c:Int) (p:Int->Bool) (hc:c<=1048576) (hs:∀j,0<=j->step j=if j<c then (if p j then some (.inr (.inr ())) else some (.inl (wrap64 (j+1)))) else some (.inr (.inl ()))) :
  ∀(n:Nat) (j:Int),n=(c-j).toNat->0<=j->dj step j=some (cond ((aH j c).any p) (.inr ()) (.inl ())):=by
 intro n
 induction n with
 | zero=>
  intro j hn h0
  rw[cP,hs j h0,if_neg (by omega),fB (by omega)]
  rfl
 | succ n ih=>
  intro j hn h0
  have hlt:j<c:=by omega
  rw[cP,hs j h0,if_pos hlt,eF hlt,List.any_cons]
  cases p j with
  | true=>rfl
  | false=>
   simp only[Bool.false_eq_true,if_false,bP,Bool.false_or]
   rw[aK (by omega) (by omega)]
   exact ih (j+1) (by omega) (by omega)
theorem Di {step:Bool×Int->Option (Sum (Bool×Int) Bool)} (c:Int) (p:Int->Bool) (hc:c<=1048576) (hs:∀f j,0<=j->step (f,j)=if j<c then (cond f (some (.inr f)) (some (.inl (p j,wrap64 (j+1))))) else some (.inr f)) :
  ∀(n:Nat) (f:Bool) (j:Int),n=(c-j).toNat->0<=j->dj step (f,j)=some (f||(aH j c).any p):=by
 intro n
 induction n with
 | zero=>
  intro f j hn h0
  rw[cP,hs f j h0,if_neg (by omega),fB (by omega)]
  simp
 | succ n ih=>
  intro f j hn h0
  have hlt:j<c:=by omega
  rw[cP,hs f j h0,if_pos hlt]
  cases f with
  | true=>simp
  | false=>
   simp only[cond_false,bP,Bool.false_or]
   rw[aK (by omega) (by omega),ih (p j) (j+1) (by omega) (by omega),eF hlt,List.any_cons]
theorem Gv {t:Ty} {xs:List t.D} {n:Nat} {i:Int} (h:i<(n:Int)) (h0:0<=i):nth (t:=t) (xs.take n) i=nth (t:=t) xs i:=by
 unfold nth
 rw[List.getD_eq_getElem?_getD,List.getD_eq_getElem?_getD,List.getElem?_take_of_lt (by omega)]
theorem GL {t:Ty} (xs:List t.D) (q:t.D->Bool) {i:Int} (h0:0<=i) (h1:i<=(xs.length:Int)):(aH 0 i).any (fun j=>q (nth xs j))=(xs.take i.toNat).any q:=by
 rw[<-Bt (t:=t) (xs.take i.toNat) q]
 have e:((xs.take i.toNat).length:Int)=i:=by rw[List.length_take];omega
 rw[e]
 have key:∀(l:List Int) (_:∀j∈l,0<=j/\j<i),l.any (fun j=>q (nth xs j))=l.any (fun j=>q (nth (xs.take i.toNat) j)):=by
  intro l
  induction l with
  | nil=>intro _;rfl
  | cons j l ih=>
   intro hl
   obtain⟨a,b⟩:=hl j (List.mem_cons_self ..)
   rw[List.any_cons,List.any_cons,ih (fun k hk=>hl k (List.mem_cons_of_mem _ hk)),Gv (by omega) a]
 exact key _ (fun j hj=>cY.1 hj)
theorem Gg {α:Type} (xs:List α) {k:Int}:aB xs (some ((0:Int),k))=xs.take k.toNat:=by
 unfold aB
 simp
theorem tZ {tables:List TTable.D} {b:TBond.D} (h:M.aX tables b=true):(0<=b.2.1/\b.2.1<(tables.length:Int)) ∧
  ((b.1=(1:Int)/\M.bR (nth (t:=TTable) tables b.2.1).1 b.2.2.1=true)\/(b.1=(3:Int)/\M.cV (nth (t:=TTable) tables b.2.1).1 b.2.2.2.2.2.2.1=3) ∨
   (b.1=(2:Int)/\M.bR (nth (t:=TTable) tables b.2.1).1 b.2.2.1=true/\(0<=b.2.2.2.1/\b.2.2.2.1<(tables.length:Int))/\M.bR (nth (t:=TTable) tables b.2.2.2.1).1 b.2.2.2.2.1=true)):=by
 unfold M.aX at h
 rw[Bool.and_eq_true] at h
 obtain⟨h0,h⟩:=h
 have h0:=vU h0
 refine⟨⟨h0.1,Int.lt_of_le_sub_one h0.2⟩,?_⟩
 by_cases e1:b.1=(1:Int)
 ·simp only[e1,decide_true,cond_true,Bool.and_eq_true] at h
  exact .inl ⟨e1,h.1⟩
 by_cases e3:b.1=(3:Int)
 ·simp only[e3,decide_true,cond_true,Int.reduceEq,decide_false,cond_false,Bool.and_eq_true,decide_eq_true_eq] at h
  exact .inr (.inl ⟨e3,h.1⟩)
 by_cases e2:b.1=(2:Int)
 ·simp only[e2,decide_true,cond_true,Int.reduceEq,decide_false,cond_false,Bool.and_eq_true] at h
  have h1:=vU h.1
  exact .inr (.inr ⟨e2,h.2.1,⟨h1.1,Int.lt_of_le_sub_one h1.2⟩,h.2.2.1⟩)
 ·simp only[e1,e2,e3,decide_false,cond_false] at h
  cases h
theorem Fx (tables:List TTable.D) (b:TBond.D):M.broken tables b=-1\/0<=M.broken tables b:=by
 unfold M.broken
 cases h:(aH 0 ((M.gu tables b).length:Int)).find? (M.breaks tables b) with
 | none=>exact .inl rfl
 | some n=>exact .inr (cY.1 (List.mem_of_find?_eq_some h)).1
theorem DW (tables:List TTable.D) (b:TBond.D):decide (M.broken tables b=-1)=!decide (0<=M.broken tables b):=by
 rcases Fx tables b with h | h
 ·rw[h];rfl
 ·rw[decide_eq_true h,decide_eq_false (by omega)];rfl
theorem kf (tables:List TTable.D) (b:TBond.D):decide (M.de tables b=-1)=(M.aA tables&&M.aX tables b&&!decide (0<=M.broken tables b)):=by
 unfold M.de
 cases M.aA tables&&M.aX tables b
 ·rfl
 ·simp only[cond_true,Bool.true_and]
  exact DW tables b
theorem BS (tables:List TTable.D) (bonds:List TBond.D):cond ((decide ((bonds.length:Int)=(0:Int)))==false) (cond ((decide ((bonds.length:Int)<=(4:Int)))==true) (cond ((M.aA tables&&List.all bonds (M.aX tables))==true)
  (ag (∀e∈bonds,(M.aA tables&&M.aX tables e)=true) (some (!List.any bonds (fun e=>decide (0<=M.broken tables e))))) (some false)) (some false)) (some true)=some (M.bA tables bonds):=by
 unfold M.bA
 rw[show decide ((bonds.length:Int)<=4)=decide (bonds.length<=4) from decide_eq_decide.2 (by omega),zN]
 cases hb:decide (bonds.length=0) with
 | true=>
  have:bonds=[]:=List.length_eq_zero_iff.1 (of_decide_eq_true hb)
  subst this
  rfl
 | false=>
 cases decide (bonds.length<=4)
 ·rfl
 have hne:bonds≠[]:=by rintro rfl;cases hb
 cases ht:M.aA tables with
 | false=>
  cases bonds with
  | nil=>exact absurd rfl hne
  | cons x l=>simp[kf,ht]
 | true=>
  cases ho:List.all bonds (M.aX tables) with
  | false=>
   have:(bonds.all fun b=>decide (M.de tables b=-1))=false:=by
    rw[List.all_eq_false] at ho ⊢
    obtain⟨x,hx,hn⟩:=ho
    exact⟨x,hx,by rw[kf,ht];simp[hn]⟩
   rw[this]
   rfl
  | true=>
   rw[List.all_eq_true] at ho
   simp only[Bool.true_and,show ((false:Bool)==false)=true from rfl,show ((true:Bool)==true)=true from rfl,cond_true]
   rw[af ho,List.all_eq_not_any_not]
   congr 2
   have key:∀(l:List TBond.D) (_:∀x∈l,M.aX tables x=true),(l.any fun e=>decide (0<=M.broken tables e))=l.any fun b=>!decide (M.de tables b=-1):=by
    intro l
    induction l with
    | nil=>intro _;rfl
    | cons x l ih=>
     intro hl
     rw[List.any_cons,List.any_cons,ih (fun y hy=>hl y (List.mem_cons_of_mem _ hy)),kf,ht,hl x (List.mem_cons_self ..)]
     simp
   exact key bonds ho
end Go.AE
end
section
namespace Go.AE
open Go Go.RowKit
set_option linter.unusedSimpArgs false
set_option linter.unusedVariables false
theorem AD {row:List aa.D} {E:List ax.D} (p:ax.D) (st:List aa.D) (hp:Sm ax p) (hs:Sm (.sl aa) st) (hl:st.length<=1000) (h1:M.takes p<=(st.length:Int)) (hk:1<=p.1/\p.1<=8) (hc:M.ni p row.length) :
  F.dy row E p st=some (.inl (M.eG row st p)):=by
 obtain⟨t0,t2⟩:=uo p
 have hw:=CW (n:=st.length) (k:=M.takes p) (by omega) t0 t2
 have hct:=CC st (k:=(st.length:Int)-M.takes p) (by omega) (by omega)
 have hn:((st.length:Int)-M.takes p).toNat=st.length-(M.takes p).toNat:=by omega
 rw[hn] at hct
 unfold F.dy M.eG
 rw[hw,hct]
 have hsm:Sm (.sl aa) (st.drop (st.length-(M.takes p).toNat)):=⟨by rw[List.length_drop];omega,fun x hx=>hs.2 x (List.mem_of_mem_drop hx)⟩
 rw[af hsm,af hc,af hk]
 simp only[aU]
 repeat rw[af (by first | omega | (rw[List.length_drop];omega) | (unfold lim;simp;omega))]
 rw[hn]
end Go.AE
end
section
namespace Go.AE
open Go Go.RowKit
set_option linter.unusedSimpArgs false
set_option linter.unusedVariables false
theorem Ee {row:List aa.D} (p:ax.D) (st:List aa.D) (hp:Sm ax p) (hs:Sm (.sl aa) st) (hl:st.length<=1000) (h1:M.takes p<=(st.length:Int)) (hk:1<=p.1/\p.1<=8) (hc:M.ni p row.length) :
  F.rU row st p=some (M.eG row st p):=by
 have w1:wrap64 ((st.length:Int)-1)=(st.length:Int)-1:=aK (by omega) (by omega)
 have w2:wrap64 ((st.length:Int)-2)=(st.length:Int)-2:=aK (by omega) (by omega)
 have n1:((st.length:Int)-1).toNat=st.length-1:=by omega
 have n2:((st.length:Int)-2).toNat=st.length-2:=by omega
 have s1:Sm aa (nth (t:=aa) st ((st.length:Int)-1)):=ay hs _
 have s2:Sm aa (nth (t:=aa) st ((st.length:Int)-2)):=ay hs _
 unfold F.rU M.eG M.gQ
 rw[w1,w2]
 rcases EK hk with h | h | h | h | h | h | h | h
 ·rw[oX (.inl h)]
  simp only[h]
  repeat rw[af (by unfold lim;simp;omega)]
  simp
 ·obtain⟨c0,c1⟩:=hc h
  rw[oX (.inr h)]
  simp only[h]
  simp only[show decide ((2:Int)=1)=false from rfl,cond_false,decide_true,cond_true]
  rw[af c0,af c1]
  simp
 ·have ht:=eZ (.inl h)
  rw[ht] at h1 ⊢
  have hd:=oS (t:=aa) (st:=st) (by omega)
  rw[show (2:Int).toNat=2 from rfl,hd]
  simp only[h,show decide ((3:Int)=1)=false from rfl,show decide ((3:Int)=2)=false from rfl,cond_false,decide_true,cond_true,n1,n2,aU]
  repeat rw[af (by first | omega | exact s1 | exact s2 | (unfold lim;simp;omega))]
  rfl
 ·have ht:=eZ (.inr (.inl h))
  rw[ht] at h1 ⊢
  have hd:=oS (t:=aa) (st:=st) (by omega)
  rw[show (2:Int).toNat=2 from rfl,hd]
  simp only[h,show decide ((4:Int)=1)=false from rfl,show decide ((4:Int)=2)=false from rfl,show decide ((4:Int)=3)=false from rfl,cond_false,decide_true,cond_true,n1,n2,aU]
  repeat rw[af (by first | omega | exact s1 | exact s2 | (unfold lim;simp;omega))]
  rfl
 ·have ht:=eZ (.inr (.inr (.inl h)))
  rw[ht] at h1 ⊢
  have hd:=oS (t:=aa) (st:=st) (by omega)
  rw[show (2:Int).toNat=2 from rfl,hd]
  simp only[h,show decide ((5:Int)=1)=false from rfl,show decide ((5:Int)=2)=false from rfl,show decide ((5:Int)=3)=false from rfl,show decide ((5:Int)=4)=false from rfl,cond_false,decide_true,cond_true,n1,n2,aU]
  repeat rw[af (by first | omega | exact s1 | exact s2 | (unfold lim;simp;omega))]
  rfl
 ·have ht:=eZ (.inr (.inr (.inr h)))
  rw[ht] at h1 ⊢
  have hd:=oS (t:=aa) (st:=st) (by omega)
  rw[show (2:Int).toNat=2 from rfl,hd]
  simp only[h,show decide ((6:Int)=1)=false from rfl,show decide ((6:Int)=2)=false from rfl,show decide ((6:Int)=3)=false from rfl,show decide ((6:Int)=4)=false from rfl,show decide ((6:Int)=5)=false from rfl,cond_false,decide_true,cond_true,n1,n2,aU]
  repeat rw[af (by first | omega | exact s1 | exact s2 | (unfold lim;simp;omega))]
  rfl
 ·have ht:=lW (.inl h)
  rw[ht] at h1 ⊢
  have hd:=uc (t:=aa) (st:=st) (by omega)
  rw[show (1:Int).toNat=1 from rfl,hd]
  simp only[h,show decide ((7:Int)=1)=false from rfl,show decide ((7:Int)=2)=false from rfl,show decide ((7:Int)=3)=false from rfl,show decide ((7:Int)=4)=false from rfl,show decide ((7:Int)=5)=false from rfl,show decide ((7:Int)=6)=false from rfl,cond_false,decide_true,cond_true,n1,n2,aU]
  repeat rw[af (by first | omega | exact s1 | exact s2 | (unfold lim;simp;omega))]
  rfl
 ·have ht:=lW (.inr h)
  rw[ht] at h1 ⊢
  have hd:=uc (t:=aa) (st:=st) (by omega)
  rw[show (1:Int).toNat=1 from rfl,hd]
  simp only[h,show decide ((8:Int)=1)=false from rfl,show decide ((8:Int)=2)=false from rfl,show decide ((8:Int)=3)=false from rfl,show decide ((8:Int)=4)=false from rfl,show decide ((8:Int)=5)=false from rfl,show decide ((8:Int)=6)=false from rfl,show decide ((8:Int)=7)=false from rfl,cond_false,decide_true,cond_true,n1,n2,aU]
  repeat rw[af (by first | omega | exact s1 | exact s2 | (unfold lim;simp;omega))]
  rfl
theorem Ay {row:List aa.D} {E:List ax.D} (p:ax.D) (st:List aa.D) (hs:Sm (.sl aa) st) (hl:st.length<=1000) (h1:M.takes p<=(st.length:Int)) (hk:1<=p.1/\p.1<=8) (hc:M.ni p row.length) :
  F.ee row E p st=some (.inl (M.eG row st p)):=by
 unfold F.ee
 rw[af hs,af hl,af h1,af hk,af hc]
 rfl
end Go.AE
end
section
namespace Go.AE
open Go Go.RowKit
set_option linter.unusedVariables false
set_option linter.unusedSimpArgs false
namespace M
abbrev rowsOf (A:List TTable.D) (i:Int):List (List aa.D):=(nth (t:=TTable) A i).2.1
def BQ (A B:List TTable.D):Prop:=A.length=B.length/\∀i:Int,0<=i->(nth (t:=TTable) A i).1=(nth (t:=TTable) B i).1
theorem tO {A B C:List TTable.D} (h:BQ A B) (g:BQ B C):BQ A C:=⟨h.1.trans g.1,fun i i0=>(h.2 i i0).trans (g.2 i i0)⟩
theorem ES {n b:Int} (h:¬ 0<=n):inR n 0 b=false:=by
 unfold inR
 rw[decide_eq_false h]
 rfl
theorem FA {A B:List TTable.D} (h:BQ A B) (b:TBond.D):aX A b=aX B b:=by
 unfold aX
 rw[h.1]
 by_cases h0:0<=b.2.1
 ·rw[h.2 _ h0]
  by_cases h1:0<=b.2.2.2.1
  ·rw[h.2 _ h1]
  ·rw[ES h1]
   rfl
 ·rw[ES h0]
  rfl
theorem FV {ts:List TTable.D} {i:Int} {w:List (List aa.D)} (h0:0<=i):BQ (ts.set i.toNat ((nth (t:=TTable) ts i).1,(w,()))) ts:=by
 refine⟨List.length_set,fun j j0=>?_⟩
 by_cases e:i=j
 ·subst e
  by_cases h1:i<(ts.length:Int)
  ·rw[uf h0 h1]
  ·rw[List.set_eq_of_length_le (by omega)]
 ·rw[FB h0 j0 e]
theorem IE {ts:List TTable.D} {i:Int} {w:List (List aa.D)} (h:aA ts=true) (h0:0<=i) (h1:i<(ts.length:Int)) (hl:w.length<=6) (hw:∀r∈w,bH (nth (t:=TTable) ts i).1 r=true) :
  aA (ts.set i.toNat ((nth (t:=TTable) ts i).1,(w,())))=true:=by
 unfold aA at h ⊢
 rw[Bool.and_eq_true,List.all_eq_true] at h ⊢
 refine⟨by rw[List.length_set];exact h.1,fun t ht=>?_⟩
 rcases List.mem_or_eq_of_mem_set ht with ht | rfl
 ·exact h.2 t ht
 ·have hc:=h.2 _ (dS (t:=TTable) h0 h1)
  unfold cU fT at hc ⊢
  rw[Bool.and_eq_true,Bool.and_eq_true,List.all_eq_true] at hc ⊢
  exact⟨decide_eq_true hl,hc.2.1,hw⟩
theorem Fg {ts:List TTable.D} (h:aA ts=true) {i:Int} (h0:0<=i) (h1:i<(ts.length:Int)):(rowsOf ts i).length<=6/\∀r∈rowsOf ts i,bH (nth (t:=TTable) ts i).1 r=true:=by
 unfold aA at h
 rw[Bool.and_eq_true,List.all_eq_true] at h
 have hc:=h.2 _ (dS (t:=TTable) h0 h1)
 unfold cU fT at hc
 rw[Bool.and_eq_true,Bool.and_eq_true,List.all_eq_true] at hc
 exact⟨of_decide_eq_true hc.1,hc.2.2⟩
theorem lM {ts:List TTable.D} {c:TChange.D} (h:bf ts c=true):aA ts=true/\(0<=c.1/\c.1<(ts.length:Int))/\bH (nth (t:=TTable) ts c.1).1 c.2.1=true ∧
  (c.2.2.1=true->(rowsOf ts c.1).length<6)/\(c.2.2.1=false->0<=rowAt (rowsOf ts c.1) c.2.1):=by
 unfold bf at h
 rw[Bool.and_eq_true,Bool.and_eq_true,Bool.and_eq_true] at h
 obtain⟨h1,h2,h3,h4⟩:=h
 have h2:=vU h2
 refine⟨h1,⟨h2.1,Int.lt_of_le_sub_one h2.2⟩,h3,fun e=>?_,fun e=>?_⟩
 ·rw[e,cond_true] at h4
  have:=of_decide_eq_true h4
  exact Int.ofNat_lt.1 this
 ·rw[e,cond_false] at h4
  exact of_decide_eq_true h4
theorem Cf {α:Type} (xs:List α) (n:Nat):(xs.take n++xs.drop (n+1)).Sublist xs:=by
 have h:=(List.take_sublist n xs).append (List.Sublist.refl (xs.drop (n+1)))
 conv=>rhs;rw[<-List.take_append_drop n xs]
 refine(List.Sublist.refl _).append ?_
 rw[<-List.drop_drop]
 exact List.drop_sublist _ _
theorem vB {rows:List (List aa.D)} {c:TChange.D} (h:c.2.2.1=false):(iS rows c).Sublist rows:=by
 unfold iS
 rw[h,cond_false]
 exact Cf _ _
theorem Ar {ts:List TTable.D} {c:TChange.D} (h:bf ts c=true):BQ (bu ts c) ts:=FV (lM h).2.1.1
theorem zd {ts:List TTable.D} {c:TChange.D} (h:bf ts c=true):aA (bu ts c)=true:=by
 obtain⟨h1,⟨h2,h3⟩,h4,h5,h6⟩:=lM h
 obtain⟨r1,r2⟩:=Fg h1 h2 h3
 refine IE h1 h2 h3 ?_ ?_
 ·cases e:c.2.2.1 with
  | true=>
   unfold iS
   rw[e,cond_true,List.length_append]
   exact h5 e
  | false=>exact Nat.le_trans (vB e).length_le r1
 ·cases e:c.2.2.1 with
  | true=>
   unfold iS
   rw[e,cond_true]
   intro r hr
   rcases List.mem_append.1 hr with hr | hr
   ·exact r2 r hr
   ·rw[List.mem_singleton.1 hr];exact h4
  | false=>exact fun r hr=>r2 r ((vB e).subset hr)
theorem IJ {ts:List TTable.D} {i:Int} {w:List (List aa.D)} (h:Sm (.sl TTable) ts) (hw:Sm (.sl (.sl aa)) w):Sm (.sl TTable) (ts.set i.toNat ((nth (t:=TTable) ts i).1,(w,()))):=by
 refine⟨by rw[List.length_set];exact h.1,fun t ht=>?_⟩
 rcases List.mem_or_eq_of_mem_set ht with ht | rfl
 ·exact h.2 t ht
 ·exact⟨(ay (t:=TTable) h i).1,hw,trivial⟩
theorem Eb {rows:List (List aa.D)} (h:Sm (.sl (.sl aa)) rows) (n:Nat):Sm (.sl (.sl aa)) (rows.take n++rows.drop (n+1)):=⟨Nat.le_trans (Cf rows n).length_le h.1,fun x hx=>h.2 x ((Cf rows n).subset hx)⟩
theorem zo {ts:List TTable.D} {c:TChange.D} (hs:Sm (.sl TTable) ts) (hc:Sm TChange c) (h:bf ts c=true):Sm (.sl TTable) (bu ts c):=by
 have hr:=(ay (t:=TTable) hs c.1).2.1
 refine IJ hs ?_
 unfold iS
 cases e:c.2.2.1 with
 | true=>
  have h5:=(lM h).2.2.2.1 e
  rw[cond_true]
  refine⟨by rw[List.length_append];simp only[List.length_cons,List.length_nil];unfold rowsOf at h5;omega,fun x hx=>?_⟩
  rcases List.mem_append.1 hx with hx | hx
  ·exact hr.2 x hx
  ·rw[List.mem_singleton.1 hx];exact hc.2.1
 | false=>exact Eb hr _
theorem zw {ts:List TTable.D} {bonds:List TBond.D} (h:bA ts bonds=true):bonds.length<=4/\∀b∈bonds,aA ts=true/\aX ts b=true/\broken ts b=-1:=by
 unfold bA at h
 rw[Bool.and_eq_true,List.all_eq_true] at h
 refine⟨of_decide_eq_true h.1,fun b hb=>?_⟩
 have:=of_decide_eq_true (h.2 b hb)
 unfold de at this
 cases h1:aA ts&&aX ts b with
 | false=>
  rw[h1] at this
  have:(-2:Int)=-1:=this
  omega
 | true=>
  rw[h1,cond_true] at this
  rw[Bool.and_eq_true] at h1
  exact⟨h1.1,h1.2,this⟩
theorem Ed {α:Type} {xs:List α} {p q:α->Bool} (h:∀x∈xs,p x=q x):xs.any p=xs.any q:=by
 induction xs with
 | nil=>rfl
 | cons x xs ih=>rw[List.any_cons,List.any_cons,h x (List.mem_cons_self ..),ih fun y hy=>h y (List.mem_cons_of_mem _ hy)]
theorem HF {ts:List TTable.D} {bonds:List TBond.D} (hl:bonds.length<=4) (h0:aA ts=true) (h1:∀b∈bonds,aX ts b=true):bA ts bonds=!List.any bonds (fun e=>decide (0<=broken ts e)):=by
 unfold bA
 rw[decide_eq_true hl,Bool.true_and,List.all_eq_not_any_not]
 congr 1
 refine Ed ?_
 intro b hb
 rw[kf,h0,h1 b hb]
 simp
theorem Hv {bonds:List TBond.D} {now:List TTable.D} (c:TChange.D) (h:aA now=true/\bA now bonds=true):aA (dO bonds now c)=true/\bA (dO bonds now c) bonds=true:=by
 unfold dO
 cases hc:bf now c&&bA (bu now c) bonds with
 | false=>exact h
 | true=>
  rw[Bool.and_eq_true] at hc
  exact⟨zd hc.1,hc.2⟩
theorem Bh {bonds:List TBond.D} {now:List TTable.D} (c:TChange.D):BQ (dO bonds now c) now:=by
 unfold dO
 cases hc:bf now c&&bA (bu now c) bonds with
 | false=>exact⟨rfl,fun _ _=>rfl⟩
 | true=>
  rw[Bool.and_eq_true] at hc
  exact Ar hc.1
theorem Cs {bonds:List TBond.D} {now:List TTable.D} {c:TChange.D} (h:Sm (.sl TTable) now) (hc:Sm TChange c):Sm (.sl TTable) (dO bonds now c):=by
 unfold dO
 cases hk:bf now c&&bA (bu now c) bonds with
 | false=>exact h
 | true=>
  rw[Bool.and_eq_true] at hk
  exact zo h hc hk.1
theorem oI {bonds:List TBond.D}:∀(cs:List TChange.D) {now:List TTable.D},aA now=true/\bA now bonds=true->aA (cs.foldl (dO bonds) now)=true/\bA (cs.foldl (dO bonds) now) bonds=true
 | [],_,h=>h
 | c::cs,_,h=>oI cs (Hv c h)
theorem HS {tables:List TTable.D} {bonds:List TBond.D} {changes:List TChange.D} (h:Sm (.sl TTable) tables) (hc:Sm (.sl TChange) changes):Sm (.sl TTable) (cE tables bonds changes).1:=by
 unfold cE
 cases aA tables&&(bA tables bonds&&decide (changes.length<=8)) with
 | false=>exact Ao _
 | true=>
  have key:∀(cs:List TChange.D) (now:List TTable.D),Sm (.sl TTable) now->(∀c∈cs,Sm TChange c)->Sm (.sl TTable) (cs.foldl (dO bonds) now):=by
   intro cs
   induction cs with
   | nil=>intro now h _;exact h
   | cons c cs ih=>exact fun now h hc=>ih _ (Cs h (hc c (List.mem_cons_self ..))) fun d hd=>hc d (List.mem_cons_of_mem _ hd)
  exact key changes tables h hc.2
def size:List TTable.D->Nat
 | []=>0
 | t::ts=>t.2.1.length+size ts
end M
end Go.AE
end
