/- A plan that is ok stays ok when it is made tidy: plain Lean. -/
import Derived.Test.YtjakcjmjlfdeoaaGreatAeMP
import Derived.Test.YtjakcjmjlfdeoaaGreatAeInl
import Derived.Test.YtjakcjmjlfdeoaaGreatAeEqR
import Derived.Test.YtjakcjmjlfdeoaaGreatAeEqH
section
namespace Go.AE
open Go Go.RowKit
set_option linter.unusedVariables false
namespace M
end M
end Go.AE
end
section
namespace Go.AE
open Go Go.RowKit
set_option linter.unusedVariables false
namespace M
theorem AK (tables:List ax.D) (xs:List aj.D) (s:aj.D):cT tables (xs++[s])=cT tables xs++[ck tables (cT tables xs) s]:=by
 unfold cT
 rw[List.foldl_append]
 rfl
theorem vX (tables:List ax.D):∀(xs:List aj.D),(cT tables xs).length=xs.length:=by
 have key:∀(xs:List aj.D) (a:List (List (List aa.D))),(xs.foldl (eg tables) a).length=a.length+xs.length:=by
  intro xs
  induction xs with
  | nil=>intro a;simp
  | cons x xs ih=>intro a;rw[List.foldl_cons,ih];unfold eg;simp;omega
 intro xs
 have:=key xs []
 unfold cT
 simpa using this
end M
end Go.AE
end
section
namespace Go.AE
open Go Go.RowKit
set_option linter.unusedVariables false
namespace M
def uk (n:Nat):aj.D:=((6:Int),((n:Int)-1,((0:Int),((0:Int),([],([],()))))))
def xN (n:Nat):aj.D:=((5:Int),((n:Int)-1,((n:Int)-1,((0:Int),([],([],()))))))
theorem Iw {tables:List ax.D} {R:List (List (List aa.D))} {s:aj.D} (h:s.1=(6:Int)):ck tables R s=cB (nth (t:=.sl (.sl aa)) R s.2.1):=by unfold ck;rw[h];rfl
theorem Iv {tables:List ax.D} {R:List (List (List aa.D))} {s:aj.D} (h:s.1=(5:Int)):ck tables R s=(nth (t:=.sl (.sl aa)) R s.2.1++nth (t:=.sl (.sl aa)) R s.2.2.1:List (List aa.D)):=by unfold ck;rw[h];rfl
theorem Ak {tables:List ax.D} {plan:List aj.D} {s:aj.D} (h:bL tables (plan++[s])=true):bE tables (plan++[s])=ck tables (cT tables plan) s:=by
 unfold bE
 rw[h,cond_true,AK]
 exact uu (t:=.sl (.sl aa)) (by rw[vX,List.length_append];simp)
theorem rD {tables:List ax.D} {plan:List aj.D} (h:bL tables plan=true):nth (t:=.sl (.sl aa)) (cT tables plan) ((plan.length:Int)-1)=bE tables plan:=by
 unfold bE
 rw[h,cond_true]
theorem Dj {tables:List ax.D} {plan:List aj.D} (h:bL tables plan=true):1<=plan.length/\plan.length<=6:=by
 unfold bL at h
 have hn:=(Bool.and_eq_true_iff.1 (Bool.and_eq_true_iff.1 h).2).2
 unfold inR at hn
 simp only[Bool.and_eq_true,decide_eq_true_eq] at hn
 omega
theorem GD {tables:List ax.D} {plan:List aj.D} (hts:Sm (.sl ax) tables) (hp:Sm (.sl aj) plan) (h:bL tables plan=true) (hl:¬(plan.length:Int)=(6:Int)):bL tables (plan++[uk plan.length])=true:=by
 obtain⟨st,e,hl1,hl2,hR⟩:=tv hts hp h
 have hlen:(cT tables plan).length=plan.length:=vX tables plan
 have hn:inR (plan.length:Int) 1 6=true:=by
  unfold bL at h
  exact(Bool.and_eq_true_iff.1 (Bool.and_eq_true_iff.1 h).2).2
 have ht:cA tables=true:=by
  unfold bL at h
  exact(Bool.and_eq_true_iff.1 (Bool.and_eq_true_iff.1 h).2).1
 have n1:1<=(plan.length:Int)/\(plan.length:Int)<=6:=by
  unfold inR at hn
  simp only[Bool.and_eq_true,decide_eq_true_eq] at hn
  omega
 obtain⟨_,m3,_⟩:=hR ((plan.length:Int)-1) (by omega) (by rw[hlen];omega)
 have hc:cH tables st.1 (uk plan.length)=some (nth (t:=.sl ag) st.1 ((plan.length:Int)-1)):=by
  have hA:(inR ((plan.length:Int)-1) 0 ((st.1.length:Int)-1)&&inR 0 0 ((st.1.length:Int)-1))=true:=by
   rw[Bool.and_eq_true_iff]
   exact⟨DC.2 ⟨by omega,by rw[<-hl1,hlen];omega⟩,DC.2 ⟨by omega,by rw[<-hl1,hlen];omega⟩⟩
  unfold cH
  rw[show bR (uk plan.length)=true from rfl,cond_true]
  show cond false _ (cond (inR ((plan.length:Int)-1) 0 ((st.1.length:Int)-1)&&inR 0 0 ((st.1.length:Int)-1)) _ _)=_
  rw[hA]
  rfl
 have hs:bS tables st (uk plan.length)=some (st.1++[nth (t:=.sl ag) st.1 ((plan.length:Int)-1)],st.2++[nth (t:=.int .i64) st.2 ((plan.length:Int)-1)]):=by
  unfold bS
  rw[hc]
  show cond (decide ((300:Int)<nth (t:=.int .i64) st.2 ((plan.length:Int)-1))) none _=_
  rw[decide_eq_false (Int.not_lt.2 m3)]
  rfl
 have e2:eA (bS tables) (plan++[uk plan.length]) ([],[])=some (st.1++[nth (t:=.sl ag) st.1 ((plan.length:Int)-1)],st.2++[nth (t:=.int .i64) st.2 ((plan.length:Int)-1)]):=by
  rw[xV,e]
  exact hs
 unfold bL dg mh
 rw[e2,ht]
 show inR _ 1 6=true
 rw[List.length_append]
 unfold inR at hn ⊢
 simp only[List.length_cons,List.length_nil,Bool.and_eq_true,decide_eq_true_eq] at hn ⊢
 omega
theorem Er {tables:List ax.D} {plan:List aj.D} (hts:Sm (.sl ax) tables) (hp:Sm (.sl aj) plan) (h:bL tables plan=true) (hl:¬(plan.length:Int)=(6:Int)):bE tables (plan++[uk plan.length])=cB (bE tables plan):=by
 rw[Ak (GD hts hp h hl),Iw rfl]
 show cB (nth (t:=.sl (.sl aa)) (cT tables plan) ((plan.length:Int)-1))=_
 rw[rD h]
theorem ET {tables:List ax.D} {plan:List aj.D} (h:bL tables plan=true) (h2:bL tables (plan++[xN plan.length])=true):bE tables (plan++[xN plan.length])=(bE tables plan++bE tables plan:List (List aa.D)):=by
 rw[Ak h2,Iv rfl]
 show (nth (t:=.sl (.sl aa)) (cT tables plan) ((plan.length:Int)-1)++nth (t:=.sl (.sl aa)) (cT tables plan) ((plan.length:Int)-1):List (List aa.D))=_
 rw[rD h]
theorem FH (n:Nat):Sm aj (uk n):=⟨trivial,trivial,trivial,trivial,iB _,iB _,trivial⟩
theorem FU (n:Nat):Sm aj (xN n):=⟨trivial,trivial,trivial,trivial,iB _,iB _,trivial⟩
theorem Ed {plan:List aj.D} {s:aj.D} (hl:plan.length<=6) (h:Sm (.sl aj) plan) (hs:Sm aj s):Sm (.sl aj) (plan++[s]):=
 ⟨by rw[List.length_append];simp only[List.length_cons,List.length_nil];omega,fun x hx=>(List.mem_append.1 hx).elim (h.2 x) fun hx=>by rw[List.mem_singleton.1 hx];exact hs⟩
theorem GQ {rows:List (List aa.D)} (h:Sm (.sl (.sl aa)) rows):Sm (.sl (.sl aa)) (cB rows):=⟨Nat.le_trans (xM rows).1 h.1,fun x hx=>h.2 x ((xM rows).2 x hx)⟩
end M
end Go.AE
end
section
namespace Go.AE
open Go Go.RowKit
set_option linter.unusedSimpArgs false
set_option linter.unusedVariables false
theorem zx {row:List aa.D} {E:List aC.D} (p:aC.D) (st:List aa.D) (hp:Sm aC p) (hs:Sm (.sl aa) st) (hl:st.length<=1000) (h1:M.takes p<=(st.length:Int)) (hk:1<=p.1/\p.1<=8) (hc:M.lZ p row.length) :
  F.dL row E p st=some (.inl (M.eL row st p)):=by
 obtain⟨t0,t2⟩:=tu p
 have hw:=Ch (n:=st.length) (k:=M.takes p) (by omega) t0 t2
 have hct:=BJ st (k:=(st.length:Int)-M.takes p) (by omega) (by omega)
 have hn:((st.length:Int)-M.takes p).toNat=st.length-(M.takes p).toNat:=by omega
 rw[hn] at hct
 unfold F.dL M.eL
 rw[hw,hct]
 have hsm:Sm (.sl aa) (st.drop (st.length-(M.takes p).toNat)):=⟨by rw[List.length_drop];omega,fun x hx=>hs.2 x (List.mem_of_mem_drop hx)⟩
 rw[ah hsm,ah hc,ah hk]
 simp only[aY]
 repeat rw[ah (by first | omega | (rw[List.length_drop];omega) | (unfold lim;simp;omega))]
 rw[hn]
end Go.AE
end
section
namespace Go.AE
open Go Go.RowKit
set_option linter.unusedSimpArgs false
set_option linter.unusedVariables false
theorem CN {row:List aa.D} (p:aC.D) (st:List aa.D) (hp:Sm aC p) (hs:Sm (.sl aa) st) (hl:st.length<=1000) (h1:M.takes p<=(st.length:Int)) (hk:1<=p.1/\p.1<=8) (hc:M.lZ p row.length) :
  F.qT row st p=some (M.eL row st p):=by
 have w1:wrap64 ((st.length:Int)-1)=(st.length:Int)-1:=aI (by omega) (by omega)
 have w2:wrap64 ((st.length:Int)-2)=(st.length:Int)-2:=aI (by omega) (by omega)
 have n1:((st.length:Int)-1).toNat=st.length-1:=by omega
 have n2:((st.length:Int)-2).toNat=st.length-2:=by omega
 have s1:Sm aa (nth (t:=aa) st ((st.length:Int)-1)):=aJ hs _
 have s2:Sm aa (nth (t:=aa) st ((st.length:Int)-2)):=aJ hs _
 unfold F.qT M.eL M.gR
 rw[w1,w2]
 rcases DW hk with h | h | h | h | h | h | h | h
 ·rw[nR (.inl h)]
  simp only[h]
  repeat rw[ah (by unfold lim;simp;omega)]
  simp
 ·obtain⟨c0,c1⟩:=hc h
  rw[nR (.inr h)]
  simp only[h]
  simp only[show decide ((2:Int)=1)=false from rfl,cond_false,decide_true,cond_true]
  rw[ah c0,ah c1]
  simp
 ·have ht:=ff (.inl h)
  rw[ht] at h1 ⊢
  have hd:=nk (t:=aa) (st:=st) (by omega)
  rw[show (2:Int).toNat=2 from rfl,hd]
  simp only[h,show decide ((3:Int)=1)=false from rfl,show decide ((3:Int)=2)=false from rfl,cond_false,decide_true,cond_true,n1,n2,aY]
  repeat rw[ah (by first | omega | exact s1 | exact s2 | (unfold lim;simp;omega))]
  rfl
 ·have ht:=ff (.inr (.inl h))
  rw[ht] at h1 ⊢
  have hd:=nk (t:=aa) (st:=st) (by omega)
  rw[show (2:Int).toNat=2 from rfl,hd]
  simp only[h,show decide ((4:Int)=1)=false from rfl,show decide ((4:Int)=2)=false from rfl,show decide ((4:Int)=3)=false from rfl,cond_false,decide_true,cond_true,n1,n2,aY]
  repeat rw[ah (by first | omega | exact s1 | exact s2 | (unfold lim;simp;omega))]
  rfl
 ·have ht:=ff (.inr (.inr (.inl h)))
  rw[ht] at h1 ⊢
  have hd:=nk (t:=aa) (st:=st) (by omega)
  rw[show (2:Int).toNat=2 from rfl,hd]
  simp only[h,show decide ((5:Int)=1)=false from rfl,show decide ((5:Int)=2)=false from rfl,show decide ((5:Int)=3)=false from rfl,show decide ((5:Int)=4)=false from rfl,cond_false,decide_true,cond_true,n1,n2,aY]
  repeat rw[ah (by first | omega | exact s1 | exact s2 | (unfold lim;simp;omega))]
  rfl
 ·have ht:=ff (.inr (.inr (.inr h)))
  rw[ht] at h1 ⊢
  have hd:=nk (t:=aa) (st:=st) (by omega)
  rw[show (2:Int).toNat=2 from rfl,hd]
  simp only[h,show decide ((6:Int)=1)=false from rfl,show decide ((6:Int)=2)=false from rfl,show decide ((6:Int)=3)=false from rfl,show decide ((6:Int)=4)=false from rfl,show decide ((6:Int)=5)=false from rfl,cond_false,decide_true,cond_true,n1,n2,aY]
  repeat rw[ah (by first | omega | exact s1 | exact s2 | (unfold lim;simp;omega))]
  rfl
 ·have ht:=kY (.inl h)
  rw[ht] at h1 ⊢
  have hd:=tf (t:=aa) (st:=st) (by omega)
  rw[show (1:Int).toNat=1 from rfl,hd]
  simp only[h,show decide ((7:Int)=1)=false from rfl,show decide ((7:Int)=2)=false from rfl,show decide ((7:Int)=3)=false from rfl,show decide ((7:Int)=4)=false from rfl,show decide ((7:Int)=5)=false from rfl,show decide ((7:Int)=6)=false from rfl,cond_false,decide_true,cond_true,n1,n2,aY]
  repeat rw[ah (by first | omega | exact s1 | exact s2 | (unfold lim;simp;omega))]
  rfl
 ·have ht:=kY (.inr h)
  rw[ht] at h1 ⊢
  have hd:=tf (t:=aa) (st:=st) (by omega)
  rw[show (1:Int).toNat=1 from rfl,hd]
  simp only[h,show decide ((8:Int)=1)=false from rfl,show decide ((8:Int)=2)=false from rfl,show decide ((8:Int)=3)=false from rfl,show decide ((8:Int)=4)=false from rfl,show decide ((8:Int)=5)=false from rfl,show decide ((8:Int)=6)=false from rfl,show decide ((8:Int)=7)=false from rfl,cond_false,decide_true,cond_true,n1,n2,aY]
  repeat rw[ah (by first | omega | exact s1 | exact s2 | (unfold lim;simp;omega))]
  rfl
theorem zT {row:List aa.D} {E:List aC.D} (p:aC.D) (st:List aa.D) (hs:Sm (.sl aa) st) (hl:st.length<=1000) (h1:M.takes p<=(st.length:Int)) (hk:1<=p.1/\p.1<=8) (hc:M.lZ p row.length) :
  F.ez row E p st=some (.inl (M.eL row st p)):=by
 unfold F.ez
 rw[ah hs,ah hl,ah h1,ah hk,ah hc]
 rfl
end Go.AE
end
