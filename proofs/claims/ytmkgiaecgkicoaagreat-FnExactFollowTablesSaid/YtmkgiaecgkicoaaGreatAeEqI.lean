/- Tables and bonds. -/
import Derived.Test.YtmkgiaecgkicoaaGreatAeEqH
section
namespace Go.AE
open Go Go.RowKit
set_option linter.unusedSimpArgs false
set_option linter.unusedVariables false
theorem Dy {α:Type} (xs:List α):decide ((xs.length:Int)=0)=decide (xs.length=0):=decide_eq_decide.2 (by omega)
theorem Fx {α:Type} (xs:List α):decide ((0:Int)<(xs.length:Int))=!decide (xs.length=0):=by
 by_cases h:xs.length=0
 ·rw[decide_eq_true h,decide_eq_false (by omega)];rfl
 ·rw[decide_eq_false h,decide_eq_true (by omega)];rfl
theorem HE {α β:Type} (xs:List α) (ys:List β):decide ((xs.length:Int)=(ys.length:Int))=decide (xs.length=ys.length):=decide_eq_decide.2 (by omega)
theorem wC {n a b:Int} (h:M.inR n a b=true):a<=n/\n<=b:=by
 unfold M.inR at h
 simp only[Bool.and_eq_true,decide_eq_true_eq] at h
 exact h
theorem oI {c:List ai.D} {l:List Int} (h:M.bT c l=true) {n:Int} (hn:n∈l):0<=n/\n<(c.length:Int):=by
 unfold M.bT at h
 rw[Bool.and_eq_true,List.all_eq_true] at h
 have:=wC (h.2 n hn)
 omega
theorem BS {t:Ty} {xs:List t.D} {i:Int} (hi:i∈aH 0 (xs.length:Int)):nth (t:=t) xs i∈xs:=by
 obtain⟨h0,h1⟩:=cR.1 hi
 exact dD h0 h1
theorem yR {tables:List TTable.D} (h:M.aA tables=true) {t:TTable.D} (ht:t∈tables) {r:List aa.D} (hr:r∈t.2.1):r.length=t.1.length:=by
 unfold M.aA at h
 rw[Bool.and_eq_true,List.all_eq_true] at h
 have h2:=h.2 t ht
 unfold M.cN M.fX at h2
 rw[Bool.and_eq_true,Bool.and_eq_true,List.all_eq_true] at h2
 have h3:=h2.2.2 r hr
 unfold M.bG at h3
 simp only[Bool.and_eq_true,decide_eq_true_eq] at h3
 exact h3.2.2.1
theorem rz {tables:List TTable.D} (h:M.aA tables=true) {t:TTable.D} (ht:t∈tables) {r:List aa.D} (hr:r∈t.2.1) {l:List Int} (hl:M.bT t.1 l=true):M.eJ r l:=by
 intro n hn
 have:=oI hl hn
 rw[yR h ht hr]
 exact this
theorem FH {step:Int->Option (Sum Int (Sum Unit Unit))} (c:Int) (p:Int->Bool) (hc:c<=1048576) (hs:∀j,0<=j->step j=if j<c then (if p j then some (.inr (.inr ())) else some (.inl (wrap64 (j+1)))) else some (.inr (.inl ()))) :
  ∀(n:Nat) (j:Int),n=(c-j).toNat->0<=j->cC step j=some (cond ((aH j c).any p) (.inr ()) (.inl ())):=by
 intro n
 induction n with
 | zero=>
  intro j hn h0
  rw[bP,hs j h0,if_neg (by omega),fM (by omega)]
  rfl
 | succ n ih=>
  intro j hn h0
  have hlt:j<c:=by omega
  rw[bP,hs j h0,if_pos hlt,eH hlt,List.any_cons]
  cases p j with
  | true=>rfl
  | false=>
   simp only[Bool.false_eq_true,if_false,bL,Bool.false_or]
   rw[aJ (by omega) (by omega)]
   exact ih (j+1) (by omega) (by omega)
theorem De {step:Bool×Int->Option (Sum (Bool×Int) Bool)} (c:Int) (p:Int->Bool) (hc:c<=1048576) (hs:∀f j,0<=j->step (f,j)=if j<c then (cond f (some (.inr f)) (some (.inl (p j,wrap64 (j+1))))) else some (.inr f)) :
  ∀(n:Nat) (f:Bool) (j:Int),n=(c-j).toNat->0<=j->cC step (f,j)=some (f||(aH j c).any p):=by
 intro n
 induction n with
 | zero=>
  intro f j hn h0
  rw[bP,hs f j h0,if_neg (by omega),fM (by omega)]
  simp
 | succ n ih=>
  intro f j hn h0
  have hlt:j<c:=by omega
  rw[bP,hs f j h0,if_pos hlt]
  cases f with
  | true=>simp
  | false=>
   simp only[cond_false,bL,Bool.false_or]
   rw[aJ (by omega) (by omega),ih (p j) (j+1) (by omega) (by omega),eH hlt,List.any_cons]
theorem GZ {t:Ty} {xs:List t.D} {n:Nat} {i:Int} (h:i<(n:Int)) (h0:0<=i):nth (t:=t) (xs.take n) i=nth (t:=t) xs i:=by
 unfold nth
 rw[List.getD_eq_getElem?_getD,List.getD_eq_getElem?_getD,List.getElem?_take_of_lt (by omega)]
theorem Hs {t:Ty} (xs:List t.D) (q:t.D->Bool) {i:Int} (h0:0<=i) (h1:i<=(xs.length:Int)):(aH 0 i).any (fun j=>q (nth xs j))=(xs.take i.toNat).any q:=by
 rw[<-BN (t:=t) (xs.take i.toNat) q]
 have e:((xs.take i.toNat).length:Int)=i:=by rw[List.length_take];omega
 rw[e]
 have key:∀(l:List Int) (_:∀j∈l,0<=j/\j<i),l.any (fun j=>q (nth xs j))=l.any (fun j=>q (nth (xs.take i.toNat) j)):=by
  intro l
  induction l with
  | nil=>intro _;rfl
  | cons j l ih=>
   intro hl
   obtain⟨a,b⟩:=hl j (List.mem_cons_self ..)
   rw[List.any_cons,List.any_cons,ih (fun k hk=>hl k (List.mem_cons_of_mem _ hk)),GZ (by omega) a]
 exact key _ (fun j hj=>cR.1 hj)
theorem Dg {α:Type} (xs:List α) {k:Int}:aB xs (some ((0:Int),k))=xs.take k.toNat:=by
 unfold aB
 simp
theorem qc {tables:List TTable.D} {b:TBond.D} (h:M.aN tables b=true):(0<=b.2.1/\b.2.1<(tables.length:Int)) ∧
  ((b.1=(1:Int)/\M.bT (nth (t:=TTable) tables b.2.1).1 b.2.2.1=true)\/(b.1=(3:Int)/\M.dg (nth (t:=TTable) tables b.2.1).1 b.2.2.2.2.2.2.1=3) ∨
   (b.1=(2:Int)/\M.bT (nth (t:=TTable) tables b.2.1).1 b.2.2.1=true/\(0<=b.2.2.2.1/\b.2.2.2.1<(tables.length:Int))/\M.bT (nth (t:=TTable) tables b.2.2.2.1).1 b.2.2.2.2.1=true)):=by
 unfold M.aN at h
 rw[Bool.and_eq_true] at h
 obtain⟨h0,h⟩:=h
 have h0:=wC h0
 refine⟨⟨h0.1,Int.lt_of_le_sub_one h0.2⟩,?_⟩
 by_cases e1:b.1=(1:Int)
 ·simp only[e1,decide_true,cond_true,Bool.and_eq_true] at h
  exact .inl ⟨e1,h.1⟩
 by_cases e3:b.1=(3:Int)
 ·simp only[e3,decide_true,cond_true,Int.reduceEq,decide_false,cond_false,Bool.and_eq_true,decide_eq_true_eq] at h
  exact .inr (.inl ⟨e3,h.1⟩)
 by_cases e2:b.1=(2:Int)
 ·simp only[e2,decide_true,cond_true,Int.reduceEq,decide_false,cond_false,Bool.and_eq_true] at h
  have h1:=wC h.1
  exact .inr (.inr ⟨e2,h.2.1,⟨h1.1,Int.lt_of_le_sub_one h1.2⟩,h.2.2.1⟩)
 ·simp only[e1,e2,e3,decide_false,cond_false] at h
  cases h
theorem Gf (tables:List TTable.D) (b:TBond.D):M.broken tables b=-1\/0<=M.broken tables b:=by
 unfold M.broken
 cases h:(aH 0 ((M.dZ tables b).length:Int)).find? (M.breaks tables b) with
 | none=>exact .inl rfl
 | some n=>exact .inr (cR.1 (List.mem_of_find?_eq_some h)).1
theorem DW (tables:List TTable.D) (b:TBond.D):decide (M.broken tables b=-1)=!decide (0<=M.broken tables b):=by
 rcases Gf tables b with h | h
 ·rw[h];rfl
 ·rw[decide_eq_true h,decide_eq_false (by omega)];rfl
theorem AU (tables:List TTable.D) (b:TBond.D):decide (M.eS tables b=-1)=(M.aA tables&&M.aN tables b&&!decide (0<=M.broken tables b)):=by
 unfold M.eS
 cases M.aA tables&&M.aN tables b
 ·rfl
 ·simp only[cond_true,Bool.true_and]
  exact DW tables b
end Go.AE
end
section
namespace Go.AE
open Go Go.RowKit
set_option linter.unusedSimpArgs false
set_option linter.unusedVariables false
theorem Bb {row:List aa.D} {E:List ax.D} (p:ax.D) (st:List aa.D) (hp:Sm ax p) (hs:Sm (.sl aa) st) (hl:st.length<=1000) (h1:M.takes p<=(st.length:Int)) (hk:1<=p.1/\p.1<=8) (hc:M.nr p row.length) :
  F.dG row E p st=some (.inl (M.eM row st p)):=by
 obtain⟨t0,t2⟩:=uA p
 have hw:=Dq (n:=st.length) (k:=M.takes p) (by omega) t0 t2
 have hct:=zo st (k:=(st.length:Int)-M.takes p) (by omega) (by omega)
 have hn:((st.length:Int)-M.takes p).toNat=st.length-(M.takes p).toNat:=by omega
 rw[hn] at hct
 unfold F.dG M.eM
 rw[hw,hct]
 have hsm:Sm (.sl aa) (st.drop (st.length-(M.takes p).toNat)):=⟨by rw[List.length_drop];omega,fun x hx=>hs.2 x (List.mem_of_mem_drop hx)⟩
 rw[af hsm,af hc,af hk]
 simp only[aY]
 repeat rw[af (by first | omega | (rw[List.length_drop];omega) | (unfold lim;simp;omega))]
 rw[hn]
end Go.AE
end
section
namespace Go.AE
open Go Go.RowKit
set_option linter.unusedSimpArgs false
set_option linter.unusedVariables false
theorem EH {row:List aa.D} (p:ax.D) (st:List aa.D) (hp:Sm ax p) (hs:Sm (.sl aa) st) (hl:st.length<=1000) (h1:M.takes p<=(st.length:Int)) (hk:1<=p.1/\p.1<=8) (hc:M.nr p row.length) :
  F.rY row st p=some (M.eM row st p):=by
 have w1:wrap64 ((st.length:Int)-1)=(st.length:Int)-1:=aJ (by omega) (by omega)
 have w2:wrap64 ((st.length:Int)-2)=(st.length:Int)-2:=aJ (by omega) (by omega)
 have n1:((st.length:Int)-1).toNat=st.length-1:=by omega
 have n2:((st.length:Int)-2).toNat=st.length-2:=by omega
 have s1:Sm aa (nth (t:=aa) st ((st.length:Int)-1)):=ay hs _
 have s2:Sm aa (nth (t:=aa) st ((st.length:Int)-2)):=ay hs _
 unfold F.rY M.eM M.gU
 rw[w1,w2]
 rcases FB hk with h | h | h | h | h | h | h | h
 ·rw[qu (.inl h)]
  simp only[h]
  repeat rw[af (by unfold lim;simp;omega)]
  simp
 ·obtain⟨c0,c1⟩:=hc h
  rw[qu (.inr h)]
  simp only[h]
  simp only[show decide ((2:Int)=1)=false from rfl,cond_false,decide_true,cond_true]
  rw[af c0,af c1]
  simp
 ·have ht:=fz (.inl h)
  rw[ht] at h1 ⊢
  have hd:=oT (t:=aa) (st:=st) (by omega)
  rw[show (2:Int).toNat=2 from rfl,hd]
  simp only[h,show decide ((3:Int)=1)=false from rfl,show decide ((3:Int)=2)=false from rfl,cond_false,decide_true,cond_true,n1,n2,aY]
  repeat rw[af (by first | omega | exact s1 | exact s2 | (unfold lim;simp;omega))]
  rfl
 ·have ht:=fz (.inr (.inl h))
  rw[ht] at h1 ⊢
  have hd:=oT (t:=aa) (st:=st) (by omega)
  rw[show (2:Int).toNat=2 from rfl,hd]
  simp only[h,show decide ((4:Int)=1)=false from rfl,show decide ((4:Int)=2)=false from rfl,show decide ((4:Int)=3)=false from rfl,cond_false,decide_true,cond_true,n1,n2,aY]
  repeat rw[af (by first | omega | exact s1 | exact s2 | (unfold lim;simp;omega))]
  rfl
 ·have ht:=fz (.inr (.inr (.inl h)))
  rw[ht] at h1 ⊢
  have hd:=oT (t:=aa) (st:=st) (by omega)
  rw[show (2:Int).toNat=2 from rfl,hd]
  simp only[h,show decide ((5:Int)=1)=false from rfl,show decide ((5:Int)=2)=false from rfl,show decide ((5:Int)=3)=false from rfl,show decide ((5:Int)=4)=false from rfl,cond_false,decide_true,cond_true,n1,n2,aY]
  repeat rw[af (by first | omega | exact s1 | exact s2 | (unfold lim;simp;omega))]
  rfl
 ·have ht:=fz (.inr (.inr (.inr h)))
  rw[ht] at h1 ⊢
  have hd:=oT (t:=aa) (st:=st) (by omega)
  rw[show (2:Int).toNat=2 from rfl,hd]
  simp only[h,show decide ((6:Int)=1)=false from rfl,show decide ((6:Int)=2)=false from rfl,show decide ((6:Int)=3)=false from rfl,show decide ((6:Int)=4)=false from rfl,show decide ((6:Int)=5)=false from rfl,cond_false,decide_true,cond_true,n1,n2,aY]
  repeat rw[af (by first | omega | exact s1 | exact s2 | (unfold lim;simp;omega))]
  rfl
 ·have ht:=lX (.inl h)
  rw[ht] at h1 ⊢
  have hd:=vH (t:=aa) (st:=st) (by omega)
  rw[show (1:Int).toNat=1 from rfl,hd]
  simp only[h,show decide ((7:Int)=1)=false from rfl,show decide ((7:Int)=2)=false from rfl,show decide ((7:Int)=3)=false from rfl,show decide ((7:Int)=4)=false from rfl,show decide ((7:Int)=5)=false from rfl,show decide ((7:Int)=6)=false from rfl,cond_false,decide_true,cond_true,n1,n2,aY]
  repeat rw[af (by first | omega | exact s1 | exact s2 | (unfold lim;simp;omega))]
  rfl
 ·have ht:=lX (.inr h)
  rw[ht] at h1 ⊢
  have hd:=vH (t:=aa) (st:=st) (by omega)
  rw[show (1:Int).toNat=1 from rfl,hd]
  simp only[h,show decide ((8:Int)=1)=false from rfl,show decide ((8:Int)=2)=false from rfl,show decide ((8:Int)=3)=false from rfl,show decide ((8:Int)=4)=false from rfl,show decide ((8:Int)=5)=false from rfl,show decide ((8:Int)=6)=false from rfl,show decide ((8:Int)=7)=false from rfl,cond_false,decide_true,cond_true,n1,n2,aY]
  repeat rw[af (by first | omega | exact s1 | exact s2 | (unfold lim;simp;omega))]
  rfl
theorem Bh {row:List aa.D} {E:List ax.D} (p:ax.D) (st:List aa.D) (hs:Sm (.sl aa) st) (hl:st.length<=1000) (h1:M.takes p<=(st.length:Int)) (hk:1<=p.1/\p.1<=8) (hc:M.nr p row.length) :
  F.ew row E p st=some (.inl (M.eM row st p)):=by
 unfold F.ew
 rw[af hs,af hl,af h1,af hk,af hc]
 rfl
end Go.AE
end
