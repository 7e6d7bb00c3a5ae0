/- Rows of plans: plain Lean. -/
import Derived.Test.YtiplhefglgpdoaaGreatAeMQ
namespace Go.AE
open Go Go.RowKit
set_option linter.unusedVariables false
def M.fN (rows:List (List aa.D)) (row:List aa.D):Nat:=rows.countP fun r=>decide (r=row)
def M.eT (out:List (List aa.D)) (r:List aa.D):List (List aa.D):=cond (decide ((fN out r:Int)=(0:Int))) (out++[r]) out
def M.iB (rows:List (List aa.D)):List (List aa.D):=rows.foldl eT []
def M.joined (e:List aC.D) (r:List aa.D) (rows:List (List aa.D)):List (List aa.D):=(rows.map fun q=>r++q).filter fun x=>holds x e
def M.bZ (tables:List ax.D) (ahead:List (List (List aa.D))) (s:ah.D):List (List aa.D):=
 cond (decide (s.1=(1:Int))) (nth (t:=ax) tables s.2.2.2.1).2.1
 (cond (decide (s.1=(2:Int))) (List.filter (fun r=>holds r s.2.2.2.2.1) (nth (t:=.sl (.sl aa)) ahead s.2.1))
 (cond (decide (s.1=(3:Int))) (List.map (fun r=>taken r s.2.2.2.2.2.1) (nth (t:=.sl (.sl aa)) ahead s.2.1))
 (cond (decide (s.1=(4:Int))) (List.flatMap (fun r=>joined s.2.2.2.2.1 r (nth (t:=.sl (.sl aa)) ahead s.2.2.1)) (nth (t:=.sl (.sl aa)) ahead s.2.1))
 (cond (decide (s.1=(5:Int))) (nth (t:=.sl (.sl aa)) ahead s.2.1++nth (t:=.sl (.sl aa)) ahead s.2.2.1:List (List aa.D))
 (cond (decide (s.1=(6:Int))) (iB (nth (t:=.sl (.sl aa)) ahead s.2.1)) [])))))
def M.xC (R:List (List aa.D)):Prop:=R.length<=300/\∀r∈R,r.length<=4
def M.rE (tables:List ax.D) (ahead:List (List (List aa.D))) (s:ah.D):Prop:=
 (s.1=(1:Int)->0<=s.2.2.2.1/\s.2.2.2.1<(tables.length:Int))/\ni (ahead.length:Int) s ∧
 (¬s.1=(1:Int)->xC (nth (t:=.sl (.sl aa)) ahead s.2.1)/\xC (nth (t:=.sl (.sl aa)) ahead s.2.2.1)) ∧
 (s.1=(2:Int)->∀r∈(nth (t:=.sl (.sl aa)) ahead s.2.1:List (List aa.D)),cJ r.length s.2.2.2.2.1) ∧
 (s.1=(3:Int)->∀r∈(nth (t:=.sl (.sl aa)) ahead s.2.1:List (List aa.D)),Ac r s.2.2.2.2.2.1) ∧
 (s.1=(4:Int)->∀r∈(nth (t:=.sl (.sl aa)) ahead s.2.1:List (List aa.D)),∀q∈(nth (t:=.sl (.sl aa)) ahead s.2.2.1:List (List aa.D)),cJ (r++q:List aa.D).length s.2.2.2.2.1)
def M.eW (tables:List ax.D) (all:List (List (List aa.D))) (s:ah.D):List (List (List aa.D)):=all++[bZ tables all s]
def M.cw (tables:List ax.D) (plan:List ah.D):List (List (List aa.D)):=plan.foldl (eW tables) []
def M.dj (tables:List ax.D) (plan:List ah.D):List (List aa.D):=cond (bQ tables plan) (nth (t:=.sl (.sl aa)) (cw tables plan) ((plan.length:Int)-1)) []
namespace M
theorem CT (out:List (List aa.D)) (r:List aa.D):(eT out r).length<=out.length+1/\∀x∈eT out r,x∈out\/x=r:=by
 unfold eT
 cases decide ((fN out r:Int)=(0:Int)) with
 | true=>
  refine⟨by simp,fun x hx=>?_⟩
  rcases List.mem_append.1 hx with h | h
  ·exact .inl h
  ·exact .inr (List.mem_singleton.1 h)
 | false=>exact⟨by show out.length<=out.length+1;omega,fun x hx=>.inl hx⟩
theorem Gf (rows:List (List aa.D)):(iB rows).length<=rows.length/\∀x∈iB rows,x∈rows:=by
 have key:∀(l:List (List aa.D)) (out:List (List aa.D)),(l.foldl eT out).length<=out.length+l.length/\∀x∈l.foldl eT out,x∈out\/x∈l:=by
  intro l
  induction l with
  | nil=>intro out;exact⟨by simp,fun x hx=>.inl hx⟩
  | cons y l ih=>
   intro out
   obtain⟨h1,h2⟩:=ih (eT out y)
   obtain⟨h3,h4⟩:=CT out y
   refine⟨by rw[List.foldl_cons,List.length_cons];omega,fun x hx=>?_⟩
   rcases h2 x hx with h | h
   ·rcases h4 x h with h | h
    ·exact .inl h
    ·exact .inr (by simp[h])
   ·exact .inr (by simp[h])
 have:=key rows []
 refine⟨by have:=this.1;unfold iB;simpa using this,fun x hx=>?_⟩
 rcases this.2 x hx with h | h
 ·cases h
 ·exact h
theorem yz (e:List aC.D) (r:List aa.D) (rows:List (List aa.D)):(joined e r rows).length<=rows.length:=by
 unfold joined
 refine Nat.le_trans (List.length_filter_le _ _) ?_
 rw[List.length_map]
 exact Nat.le_refl _
theorem BO {α β:Type} (f:α->List β) (n:Nat):∀(xs:List α),(∀x∈xs,(f x).length<=n)->(xs.flatMap f).length<=xs.length * n
 | [],_=>by simp
 | x::xs,h=>by
  have h1:=h x (by simp)
  have h2:=BO f n xs (fun y hy=>h y (by simp[hy]))
  rw[List.flatMap_cons,List.length_append,List.length_cons,Nat.succ_mul]
  omega
def Rows (st:eL) (all:List (List (List aa.D))):Prop:=all.length=st.1.length/\st.2.length=st.1.length/\∀j:Int,0<=j->j<(all.length:Int) →
 ((nth (t:=.sl (.sl aa)) all j:List (List aa.D)).length:Int)<=nth (t:=.int .i64) st.2 j/\nth (t:=.int .i64) st.2 j<=300/\(nth (t:=.sl ag) st.1 j:List ag.D).length<=4 ∧
 Sm (.sl (.sl aa)) (nth (t:=.sl (.sl aa)) all j)/\∀r∈(nth (t:=.sl (.sl aa)) all j:List (List aa.D)),r.length=(nth (t:=.sl ag) st.1 j:List ag.D).length
theorem oA {st:eL} {all:List (List (List aa.D))} (h:Rows st all) {R:List (List aa.D)} {c:List ag.D} {m:Int} (h1:(R.length:Int)<=m) (h2:m<=300) (h3:c.length<=4) (h4:Sm (.sl (.sl aa)) R) (h5:∀r∈R,r.length=c.length) :
  Rows (st.1++[c],st.2++[m]) (all++[R]):=by
 obtain⟨l1,l2,h⟩:=h
 refine⟨by simp[l1],by simp[l2],fun j j0 j1=>?_⟩
 by_cases hj:j=(all.length:Int)
 ·rw[ee (t:=.sl (.sl aa)) hj,ee (t:=.int .i64) (by rw[hj,l1,l2]),ee (t:=.sl ag) (by rw[hj,l1])]
  exact⟨h1,h2,h3,h4,h5⟩
 ·have hlt:j<(all.length:Int):=by simp at j1;omega
  rw[fT (t:=.sl (.sl aa)) j0 hlt,fT (t:=.int .i64) j0 (by rw[l2,<-l1];exact hlt),fT (t:=.sl ag) j0 (by rw[<-l1];exact hlt)]
  exact h j j0 hlt
end M
end Go.AE
