/- Rows of plans: plain Lean. -/
import Derived.Test.YtiplhefglgpdoaaGreatAeMQ
section
namespace Go.AE
open Go Go.RowKit
set_option linter.unusedVariables false
def M.fT (rows:List (List af.D)) (row:List af.D):Nat:=rows.countP fun r=>decide (r=row)
def M.eX (out:List (List af.D)) (r:List af.D):List (List af.D):=cond (decide ((fT out r:Int)=(0:Int))) (out++[r]) out
def M.iD (rows:List (List af.D)):List (List af.D):=rows.foldl eX []
def M.joined (e:List aE.D) (r:List af.D) (rows:List (List af.D)):List (List af.D):=(rows.map fun q=>r++q).filter fun x=>holds x e
def M.cI (tables:List ax.D) (ahead:List (List (List af.D))) (s:ah.D):List (List af.D):=
 cond (decide (s.1=(1:Int))) (nth (t:=ax) tables s.2.2.2.1).2.1
 (cond (decide (s.1=(2:Int))) (List.filter (fun r=>holds r s.2.2.2.2.1) (nth (t:=.sl (.sl af)) ahead s.2.1))
 (cond (decide (s.1=(3:Int))) (List.map (fun r=>taken r s.2.2.2.2.2.1) (nth (t:=.sl (.sl af)) ahead s.2.1))
 (cond (decide (s.1=(4:Int))) (List.flatMap (fun r=>joined s.2.2.2.2.1 r (nth (t:=.sl (.sl af)) ahead s.2.2.1)) (nth (t:=.sl (.sl af)) ahead s.2.1))
 (cond (decide (s.1=(5:Int))) (nth (t:=.sl (.sl af)) ahead s.2.1++nth (t:=.sl (.sl af)) ahead s.2.2.1:List (List af.D))
 (cond (decide (s.1=(6:Int))) (iD (nth (t:=.sl (.sl af)) ahead s.2.1)) [])))))
def M.xV (R:List (List af.D)):Prop:=R.length<=300/\∀r∈R,r.length<=4
def M.rR (tables:List ax.D) (ahead:List (List (List af.D))) (s:ah.D):Prop:=
 (s.1=(1:Int)->0<=s.2.2.2.1/\s.2.2.2.1<(tables.length:Int))/\fI (ahead.length:Int) s ∧
 (¬s.1=(1:Int)->xV (nth (t:=.sl (.sl af)) ahead s.2.1)/\xV (nth (t:=.sl (.sl af)) ahead s.2.2.1)) ∧
 (s.1=(2:Int)->∀r∈(nth (t:=.sl (.sl af)) ahead s.2.1:List (List af.D)),fZ r.length s.2.2.2.2.1) ∧
 (s.1=(3:Int)->∀r∈(nth (t:=.sl (.sl af)) ahead s.2.1:List (List af.D)),Bc r s.2.2.2.2.2.1) ∧
 (s.1=(4:Int)->∀r∈(nth (t:=.sl (.sl af)) ahead s.2.1:List (List af.D)),∀q∈(nth (t:=.sl (.sl af)) ahead s.2.2.1:List (List af.D)),fZ (r++q:List af.D).length s.2.2.2.2.1)
def M.eV (tables:List ax.D) (all:List (List (List af.D))) (s:ah.D):List (List (List af.D)):=all++[cI tables all s]
def M.fm (tables:List ax.D) (plan:List ah.D):List (List (List af.D)):=plan.foldl (eV tables) []
def M.dG (tables:List ax.D) (plan:List ah.D):List (List af.D):=cond (bC tables plan) (nth (t:=.sl (.sl af)) (fm tables plan) ((plan.length:Int)-1)) []
namespace M
theorem DH (out:List (List af.D)) (r:List af.D):(eX out r).length<=out.length+1/\∀x∈eX out r,x∈out\/x=r:=by
 unfold eX
 cases decide ((fT out r:Int)=(0:Int)) with
 | true=>
  refine⟨by simp,fun x hx=>?_⟩
  rcases List.mem_append.1 hx with h | h
  ·exact .inl h
  ·exact .inr (List.mem_singleton.1 h)
 | false=>exact⟨by show out.length<=out.length+1;omega,fun x hx=>.inl hx⟩
theorem HE (rows:List (List af.D)):(iD rows).length<=rows.length/\∀x∈iD rows,x∈rows:=by
 have key:∀(l:List (List af.D)) (out:List (List af.D)),(l.foldl eX out).length<=out.length+l.length/\∀x∈l.foldl eX out,x∈out\/x∈l:=by
  intro l
  induction l with
  | nil=>intro out;exact⟨by simp,fun x hx=>.inl hx⟩
  | cons y l ih=>
   intro out
   obtain⟨h1,h2⟩:=ih (eX out y)
   obtain⟨h3,h4⟩:=DH out y
   refine⟨by rw[List.foldl_cons,List.length_cons];omega,fun x hx=>?_⟩
   rcases h2 x hx with h | h
   ·rcases h4 x h with h | h
    ·exact .inl h
    ·exact .inr (by simp[h])
   ·exact .inr (by simp[h])
 have:=key rows []
 refine⟨by have:=this.1;unfold iD;simpa using this,fun x hx=>?_⟩
 rcases this.2 x hx with h | h
 ·cases h
 ·exact h
theorem zV (e:List aE.D) (r:List af.D) (rows:List (List af.D)):(joined e r rows).length<=rows.length:=by
 unfold joined
 refine Nat.le_trans (List.length_filter_le _ _) ?_
 rw[List.length_map]
 exact Nat.le_refl _
theorem Dc {α β:Type} (f:α->List β) (n:Nat):∀(xs:List α),(∀x∈xs,(f x).length<=n)->(xs.flatMap f).length<=xs.length * n
 | [],_=>by simp
 | x::xs,h=>by
  have h1:=h x (by simp)
  have h2:=Dc f n xs (fun y hy=>h y (by simp[hy]))
  rw[List.flatMap_cons,List.length_append,List.length_cons,Nat.succ_mul]
  omega
def Rows (st:fk) (all:List (List (List af.D))):Prop:=all.length=st.1.length/\st.2.length=st.1.length/\∀j:Int,0<=j->j<(all.length:Int) →
 ((nth (t:=.sl (.sl af)) all j:List (List af.D)).length:Int)<=nth (t:=.int .i64) st.2 j/\nth (t:=.int .i64) st.2 j<=300/\(nth (t:=.sl ag) st.1 j:List ag.D).length<=4 ∧
 Sm (.sl (.sl af)) (nth (t:=.sl (.sl af)) all j)/\∀r∈(nth (t:=.sl (.sl af)) all j:List (List af.D)),r.length=(nth (t:=.sl ag) st.1 j:List ag.D).length
theorem oF {st:fk} {all:List (List (List af.D))} (h:Rows st all) {R:List (List af.D)} {c:List ag.D} {m:Int} (h1:(R.length:Int)<=m) (h2:m<=300) (h3:c.length<=4) (h4:Sm (.sl (.sl af)) R) (h5:∀r∈R,r.length=c.length) :
  Rows (st.1++[c],st.2++[m]) (all++[R]):=by
 obtain⟨l1,l2,h⟩:=h
 refine⟨by simp[l1],by simp[l2],fun j j0 j1=>?_⟩
 by_cases hj:j=(all.length:Int)
 ·rw[iL (t:=.sl (.sl af)) hj,iL (t:=.int .i64) (by rw[hj,l1,l2]),iL (t:=.sl ag) (by rw[hj,l1])]
  exact⟨h1,h2,h3,h4,h5⟩
 ·have hlt:j<(all.length:Int):=by simp at j1;omega
  rw[fL (t:=.sl (.sl af)) j0 hlt,fL (t:=.int .i64) j0 (by rw[l2,<-l1];exact hlt),fL (t:=.sl ag) j0 (by rw[<-l1];exact hlt)]
  exact h j j0 hlt
end M
end Go.AE
end
section
namespace Go.AE
open Go Go.RowKit
set_option linter.unusedVariables false
def M.ins:List Int->Int->List Int->List Int
 | [],x,R=>x::R
 | y::A,x,R=>cond (decide (x<y)) (ins A x (y::R)) (A.reverse++y::x::R)
def M.iQ:List Int->List Int->List Int
 | A,[]=>A.reverse
 | A,x::R=>iQ (ins A x []).reverse R
def M.gS (xs:List Int):List Int:=iQ [] xs
def M.gp (acc:List Int) (x:Int):List Int:=cond (decide (acc.getLast? = some x)) acc (acc++[x])
def M.cE (xs:List Int):List Int:=xs.foldl gp []
namespace M
theorem BT:∀(A:List Int) (x:Int) (R:List Int),ins A x R=ins A x []++R
 | [],_,_=>rfl
 | y::A,x,R=>by
  unfold ins
  cases decide (x<y) with
  | true=>rw[cond_true,cond_true,BT A x (y::R),BT A x [y]];simp
  | false=>rw[cond_false,cond_false];simp
theorem zC:∀(A:List Int) (x:Int) (R:List Int),(ins A x R).length=A.length+1+R.length
 | [],_,_=>by simp[ins];omega
 | y::A,x,R=>by
  unfold ins
  cases decide (x<y) with
  | true=>rw[cond_true,zC A x (y::R)];simp;omega
  | false=>rw[cond_false];simp;omega
theorem Cy:∀(A:List Int) (x:Int) (R:List Int),(ins A x R).Perm (A.reverse++x::R)
 | [],_,_=>.refl _
 | y::A,x,R=>by
  unfold ins
  cases decide (x<y) with
  | true=>
   rw[cond_true]
   refine(Cy A x (y::R)).trans ?_
   simp only[List.reverse_cons,List.append_assoc,List.singleton_append]
   exact(List.Perm.swap y x R).append_left _
  | false=>rw[cond_false];simp
theorem zw:∀(A:List Int) (x:Int) (R:List Int),A.Pairwise (fun a b=>b<=a)->(x::R).Pairwise (·<=·)->(∀a∈A,∀b∈R,a<=b)->(ins A x R).Pairwise (·<=·)
 | [],_,_,_,hR,_=>hR
 | y::A,x,R,hA,hR,hAR=>by
  obtain⟨h1,h2⟩:=List.pairwise_cons.1 hA
  obtain⟨h3,h4⟩:=List.pairwise_cons.1 hR
  unfold ins
  by_cases hx:x<y
  ·rw[decide_eq_true hx,cond_true]
   refine zw A x (y::R) h2 (List.pairwise_cons.2 ⟨fun b hb=>?_,List.pairwise_cons.2 ⟨fun b hb=>hAR y (by simp) b hb,h4⟩⟩) (fun a ha b hb=>?_)
   ·rcases List.mem_cons.1 hb with rfl | hb
    ·omega
    ·exact h3 b hb
   ·rcases List.mem_cons.1 hb with rfl | hb
    ·exact h1 a ha
    ·exact hAR a (by simp[ha]) b hb
  ·rw[decide_eq_false hx,cond_false]
   have hyx:y<=x:=by omega
   refine List.pairwise_append.2 ⟨List.pairwise_reverse.2 h2,List.pairwise_cons.2 ⟨fun b hb=>?_,hR⟩,fun a ha b hb=>?_⟩
   ·rcases List.mem_cons.1 hb with rfl | hb
    ·exact hyx
    ·have:=h3 b hb;omega
   ·have h5:=h1 a (List.mem_reverse.1 ha)
    rcases List.mem_cons.1 hb with rfl | hb
    ·exact h5
    ·rcases List.mem_cons.1 hb with rfl | hb
     ·omega
     ·have:=h3 b hb;omega
theorem tR:∀(R A:List Int),(iQ A R).Perm (A.reverse++R)
 | [],A=>by simp[iQ]
 | x::R,A=>by
  unfold iQ
  refine(tR R _).trans ?_
  rw[List.reverse_reverse]
  have:=(Cy A x []).append_right R
  simpa using this
theorem qF:∀(R A:List Int),A.Pairwise (fun a b=>b<=a)->(iQ A R).Pairwise (·<=·)
 | [],A,h=>by unfold iQ;exact List.pairwise_reverse.2 h
 | x::R,A,h=>by
  unfold iQ
  refine qF R _ (List.pairwise_reverse.2 ?_)
  have:=zw A x [] h (List.pairwise_singleton _ _) (fun a _ b hb=>by cases hb)
  exact this
theorem yJ (xs:List Int):(gS xs).Perm xs:=by have:=tR xs [];simpa [gS] using this
theorem Co (xs:List Int):(gS xs).Pairwise (·<=·):=qF xs [] .nil
theorem lQ (xs:List Int):(gS xs).length=xs.length:=(yJ xs).length_eq
theorem Dx {B:Nat} {xs:List Int} (h:SmB B (.sl (.int .i64)) xs):SmB B (.sl (.int .i64)) (gS xs):=⟨by show (gS xs).length<=B;rw[lQ];exact h.1,fun _ _=>trivial⟩
theorem Bp (acc:List Int) (x:Int):(gp acc x).length<=acc.length+1/\acc.length<=(gp acc x).length/\0<(gp acc x).length/\(gp acc x).getLast? = some x:=by
 unfold gp
 by_cases h:acc.getLast? = some x
 ·rw[decide_eq_true h,cond_true]
  refine⟨by omega,Nat.le_refl _,?_,h⟩
  cases acc with
  | nil=>cases h
  | cons=>simp
 ·rw[decide_eq_false h,cond_false];simp
theorem Bw:∀(xs acc:List Int),(xs.foldl gp acc).length<=acc.length+xs.length/\acc.length<=(xs.foldl gp acc).length
 | [],acc=>by simp
 | x::xs,acc=>by
  have h1:=Bp acc x
  have h2:=Bw xs (gp acc x)
  simp only[List.foldl_cons,List.length_cons]
  omega
theorem zo (xs:List Int):(cE xs).length<=xs.length:=by have:=(Bw xs []).1;simpa [cE] using this
theorem EE {B:Nat} {xs:List Int} (h:SmB B (.sl (.int .i64)) xs):SmB B (.sl (.int .i64)) (cE xs):=⟨Nat.le_trans (zo xs) h.1,fun _ _=>trivial⟩
theorem oY (xs:List Int) (x:Int):cE (xs++[x])=gp (cE xs) x:=by unfold cE;rw[List.foldl_append];rfl
theorem uC {xs:List Int} (h:xs≠[]):(cE xs).getLast? = xs.getLast?:=by
 obtain⟨l,x,rfl⟩:∃l x,xs=l++[x]:=⟨xs.dropLast,xs.getLast h,(List.dropLast_concat_getLast h).symm⟩
 rw[oY,(Bp _ _).2.2.2];simp
theorem Bl:∀(xs acc:List Int) (y:Int),y∈xs.foldl gp acc ↔ y∈acc\/y∈xs
 | [],acc,y=>by simp
 | x::xs,acc,y=>by
  rw[List.foldl_cons,Bl xs _ y]
  have:y∈gp acc x ↔ y∈acc\/y=x:=by
   unfold gp
   by_cases h:acc.getLast? = some x
   ·rw[decide_eq_true h,cond_true]
    constructor
    ·exact .inl
    ·rintro (h' | rfl)
     ·exact h'
     ·exact List.mem_of_getLast? h
   ·rw[decide_eq_false h,cond_false];simp
  rw[this];simp[or_assoc]
theorem CY (xs:List Int) (y:Int):y∈cE xs ↔ y∈xs:=by unfold cE;rw[Bl];simp
theorem pU:∀(xs acc:List Int),acc.Pairwise (·<·)->(∀a,acc.getLast? = some a->∀b∈acc,b<=a)->(∀a∈acc,∀b∈xs,a<=b)->xs.Pairwise (·<=·)->(xs.foldl gp acc).Pairwise (·<·)
 | [],acc,h,_,_,_=>h
 | x::xs,acc,h,hl,hx,hp=>by
  obtain⟨p1,p2⟩:=List.pairwise_cons.1 hp
  rw[List.foldl_cons]
  by_cases he:acc.getLast? = some x
  ·have e:gp acc x=acc:=by unfold gp;rw[decide_eq_true he,cond_true]
   rw[e]
   exact pU xs acc h hl (fun a ha b hb=>hx a ha b (by simp[hb])) p2
  ·have e:gp acc x=acc++[x]:=by unfold gp;rw[decide_eq_false he,cond_false]
   have hlt:∀a∈acc,a<x:=by
    intro a ha
    have hne:acc≠[]:=List.ne_nil_of_mem ha
    have h1:=List.getLast?_eq_some_getLast hne
    have h2:=hl _ h1 a ha
    have h3:=hx _ (List.getLast_mem hne) x (by simp)
    have h4:acc.getLast hne≠x:=fun e=>he (by rw[h1,e])
    omega
   rw[e]
   refine pU xs _ (List.pairwise_append.2 ⟨h,List.pairwise_singleton _ _,fun a ha b hb=>by rw[List.mem_singleton.1 hb];exact hlt a ha⟩) (fun a ha b hb=>?_) (fun a ha b hb=>?_) p2
   ·have:a=x:=by simpa using ha.symm
    subst this
    rcases List.mem_append.1 hb with hb | hb
    ·exact Int.le_of_lt (hlt b hb)
    ·rw[List.mem_singleton.1 hb];exact Int.le_refl _
   ·rcases List.mem_append.1 ha with ha | ha
    ·exact hx a ha b (by simp[hb])
    ·rw[List.mem_singleton.1 ha];exact p1 b hb
theorem yA {xs:List Int} (h:xs.Pairwise (·<=·)):(cE xs).Pairwise (·<·):=pU xs [] .nil (fun a ha=>by simp at ha) (fun a ha=>by cases ha) h
theorem zO:∀{xs ys:List Int},xs.Pairwise (·<·)->ys.Pairwise (·<·)->(∀z,z∈xs ↔ z∈ys)->xs=ys
 | [],[],_,_,_=>rfl
 | [],y::ys,_,_,h=>absurd ((h y).2 (by simp)) (by simp)
 | x::xs,[],_,_,h=>absurd ((h x).1 (by simp)) (by simp)
 | x::xs,y::ys,hx,hy,h=>by
  obtain⟨x1,x2⟩:=List.pairwise_cons.1 hx
  obtain⟨y1,y2⟩:=List.pairwise_cons.1 hy
  have e:x=y:=by
   have h1:=(h x).1 (by simp)
   have h2:=(h y).2 (by simp)
   rcases List.mem_cons.1 h1 with h1 | h1
   ·exact h1
   rcases List.mem_cons.1 h2 with h2 | h2
   ·exact h2.symm
   have:=y1 x h1
   have:=x1 y h2
   omega
  subst e
  refine congrArg (x::·) (zO x2 y2 fun z=>?_)
  constructor
  ·intro hz
   rcases List.mem_cons.1 ((h z).1 (by simp[hz])) with e | hz'
   ·have:=x1 z hz;omega
   ·exact hz'
  ·intro hz
   rcases List.mem_cons.1 ((h z).2 (by simp[hz])) with e | hz'
   ·have:=y1 z hz;omega
   ·exact hz'
theorem Gc {xs ys:List Int} (hy:ys.Pairwise (·<·)) (h:∀z,z∈xs ↔ z∈ys):cE (gS xs)=ys:=
 zO (yA (Co xs)) hy fun z=>by rw[CY,(yJ xs).mem_iff];exact h z
theorem Ai (a n:Int):(aK a n).Pairwise (·<·):=by
 unfold aK
 rw[List.pairwise_map]
 exact List.Pairwise.imp (fun {x y} (h:x<y)=>by omega) List.pairwise_lt_range
end M
end Go.AE
namespace Go.AE
open Go Go.RowKit
namespace M
end M
end Go.AE
end
section
namespace Go.AE
open Go Go.RowKit
set_option linter.unusedVariables false
def M.fo (plan:List ah.D) (k:Int) (v:List Bool×List Bool):List Bool×List Bool:=
 (bu plan k v.1,cond (nth (t:=.bool) v.1 k&&decide ((nth (t:=ah) plan k).1=(1:Int))) (v.2.set (nth (t:=ah) plan k).2.2.2.1.toNat true) v.2)
def M.asked (n:Nat) (plan:List ah.D):List Bool:=(cv (fo plan) plan.length ((List.replicate plan.length false).set (plan.length-1) true,List.replicate n false)).2
def M.dc (tables:List ax.D) (plan:List ah.D):List Int:=cond (bC tables plan) ((aK 0 (tables.length:Int)).filter fun k=>nth (t:=.bool) (asked tables.length plan) k) []
def M.cC (plan:List ah.D):List Int:=((aK 0 (plan.length:Int)).filter fun k=>nth (t:=.bool) (cn plan) k&&decide ((nth (t:=ah) plan k).1=(1:Int))).map fun k=>(nth (t:=ah) plan k).2.2.2.1
namespace M
theorem EX {σ α:Type} (g:σ->α->Option σ):∀(xs:List α) (s r:σ),dr g xs s=some r->∀x∈xs,∃s1 s2,g s1 x=some s2
 | y::xs,s,r,h,x,hx=>by
  unfold dr at h
  cases hg:g s y with
  | none=>rw[hg] at h;cases h
  | some s'=>
   rw[hg] at h
   rcases List.mem_cons.1 hx with rfl | hx
   ·exact⟨s,s',hg⟩
   ·exact EX g xs s' r h x hx
theorem EB {tables:List ax.D} {plan:List ah.D} (h:bC tables plan=true) {s:ah.D} (hs:s∈plan) (h1:s.1=(1:Int)):0<=s.2.2.2.1/\s.2.2.2.1<(tables.length:Int):=by
 unfold bC at h
 obtain⟨h2,_⟩:=Bool.and_eq_true_iff.1 h
 unfold cY at h2
 cases hr:jt tables plan with
 | none=>rw[hr] at h2;cases h2
 | some st=>
  obtain⟨s1,s2,hg⟩:=EX _ plan _ _ hr s hs
  obtain⟨c,hc,_⟩:=iC hg
  unfold bZ at hc
  cases hf:bJ s with
  | false=>rw[hf] at hc;cases hc
  | true=>
   rw[hf,decide_eq_true h1,cond_true,cond_true] at hc
   cases hi:inR s.2.2.2.1 0 ((tables.length:Int)-1) with
   | false=>rw[hi] at hc;cases hc
   | true=>exact lT.1 hi
theorem BH {t:Ty} {a:List t.D} {i:Int} {z:t.D} (h0:0<=i) (h1:i<(a.length:Int)):nth (t:=t) (a.set i.toNat z) i=z:=by
 unfold nth
 rw[List.getD_eq_getElem?_getD,List.getElem?_set_self (by omega)]
 rfl
theorem zl {plan:List ah.D} {k j:Int} {u:List Bool} (hin:fI k (nth (t:=ah) plan k)) (hk:k<=j):nth (t:=.bool) (bu plan k u) j=nth (t:=.bool) u j:=by
 unfold bu
 by_cases h1:(nth (t:=ah) plan k).1=(1:Int)
 ·rw[decide_eq_true h1]
  simp
 ·obtain⟨⟨a0,a1⟩,⟨b0,b1⟩⟩:=hin h1
  have j0:0<=j:=Int.le_trans a0 (Int.le_trans (Int.le_of_lt a1) hk)
  have na:=Int.ne_of_lt (Int.lt_of_lt_of_le a1 hk)
  have nb:=Int.ne_of_lt (Int.lt_of_lt_of_le b1 hk)
  rw[decide_eq_false h1]
  cases nth (t:=.bool) u k with
  | false=>rfl
  | true=>
   simp only[Bool.not_false,Bool.and_true,cond_true]
   cases two (nth (t:=ah) plan k).1 with
   | false=>rw[cond_false,bV a0 j0 na]
   | true=>rw[cond_true,bV b0 j0 nb,bV a0 j0 na]
theorem wG {plan:List ah.D} (hr:iW plan):∀(n:Nat) (u:List Bool) (j:Int),(n:Int)<=(plan.length:Int)->(n:Int)<=j->nth (t:=.bool) (cv (bu plan) n u) j=nth (t:=.bool) u j
 | 0,u,j,_,_=>rfl
 | n+1,u,j,hn,hj=>by
  rw[show cv (bu plan) (n+1) u=cv (bu plan) n (bu plan (n:Int) u) from rfl,wG hr n _ j (by omega) (by omega)]
  exact zl (hr.2 n (by omega) (by omega)) (by omega)
theorem FJ {plan:List ah.D} (hr:iW plan) {T:Nat} (ht:∀k:Int,0<=k->k<(plan.length:Int)->(nth (t:=ah) plan k).1=(1:Int)->0<=(nth (t:=ah) plan k).2.2.2.1/\(nth (t:=ah) plan k).2.2.2.1<(T:Int)) :
  ∀(n:Nat) (u a:List Bool),(n:Int)<=(plan.length:Int)->a.length=T->(cv (fo plan) n (u,a)).1=cv (bu plan) n u/\(cv (fo plan) n (u,a)).2.length=T ∧
   ∀j:Int,0<=j->j<(T:Int)->(nth (t:=.bool) (cv (fo plan) n (u,a)).2 j=true ↔ nth (t:=.bool) a j=true\/∃k:Int,0<=k/\k<(n:Int)/\nth (t:=.bool) (cv (bu plan) n u) k=true/\(nth (t:=ah) plan k).1=(1:Int)/\(nth (t:=ah) plan k).2.2.2.1=j)
 | 0,u,a,_,ha=>⟨rfl,ha,fun j _ _=>⟨.inl,fun h=>h.elim id fun⟨k,h1,h2,_⟩=>absurd h2 (by omega)⟩⟩
 | n+1,u,a,hn,ha=>by
  have hl:(fo plan (n:Int) (u,a)).2.length=T:=by
   unfold fo
   cases (nth (t:=.bool) u n&&decide ((nth (t:=ah) plan n).1=(1:Int))) with
   | false=>exact ha
   | true=>show (List.set _ _ _).length=T;rw[List.length_set];exact ha
  obtain⟨h1,h2,h3⟩:=FJ hr ht n (fo plan (n:Int) (u,a)).1 (fo plan (n:Int) (u,a)).2 (by omega) hl
  refine⟨h1,h2,fun j j0 j1=>?_⟩
  have e1:cv (fo plan) (n+1) (u,a)=cv (fo plan) n ((fo plan (n:Int) (u,a)).1,(fo plan (n:Int) (u,a)).2):=rfl
  have e2:cv (bu plan) (n+1) u=cv (bu plan) n (fo plan (n:Int) (u,a)).1:=rfl
  have hself:nth (t:=.bool) (cv (bu plan) n (fo plan (n:Int) (u,a)).1) (n:Int)=nth (t:=.bool) u (n:Int):=by
   rw[wG hr n _ _ (by omega) (Int.le_refl _)]
   exact zl (hr.2 n (by omega) (by omega)) (Int.le_refl _)
  rw[e1,e2,h3 j j0 j1]
  have hset:nth (t:=.bool) (fo plan (n:Int) (u,a)).2 j=true ↔ nth (t:=.bool) a j=true\/(nth (t:=.bool) u (n:Int)=true/\(nth (t:=ah) plan (n:Int)).1=(1:Int)/\(nth (t:=ah) plan (n:Int)).2.2.2.1=j):=by
   unfold fo
   by_cases hu:nth (t:=.bool) u (n:Int)=true
   ·by_cases hk:(nth (t:=ah) plan (n:Int)).1=(1:Int)
    ·obtain⟨t0,t1⟩:=ht n (by omega) (by omega) hk
     rw[show (nth (t:=.bool) u (n:Int)&&decide ((nth (t:=ah) plan (n:Int)).1=(1:Int)))=true by rw[hu,decide_eq_true hk];rfl,cond_true]
     by_cases hj:(nth (t:=ah) plan (n:Int)).2.2.2.1=j
     ·rw[hj,BH j0 (by rw[ha];exact j1)]
      exact⟨fun _=>.inr ⟨hu,hk,rfl⟩,fun _=>rfl⟩
     ·rw[bV t0 j0 hj]
      exact⟨.inl,fun h=>h.elim id fun h=>absurd h.2.2 hj⟩
    ·rw[show (nth (t:=.bool) u (n:Int)&&decide ((nth (t:=ah) plan (n:Int)).1=(1:Int)))=false by rw[decide_eq_false hk];simp,cond_false]
     exact⟨.inl,fun h=>h.elim id fun h=>absurd h.2.1 hk⟩
   ·rw[show (nth (t:=.bool) u (n:Int)&&decide ((nth (t:=ah) plan (n:Int)).1=(1:Int)))=false by rw[Bool.eq_false_iff.2 hu];rfl,cond_false]
    exact⟨.inl,fun h=>h.elim id fun h=>absurd h.1 hu⟩
  rw[hset]
  constructor
  ·rintro ((h | ⟨q1,q2,q3⟩) | ⟨k,k0,k1,k2,k3,k4⟩)
   ·exact .inl h
   ·exact .inr ⟨n,by omega,by omega,by rw[hself];exact q1,q2,q3⟩
   ·exact .inr ⟨k,k0,by omega,k2,k3,k4⟩
  ·rintro (h | ⟨k,k0,k1,k2,k3,k4⟩)
   ·exact .inl (.inl h)
   ·by_cases hk:k=(n:Int)
    ·subst hk
     rw[hself] at k2
     exact .inl (.inr ⟨k2,k3,k4⟩)
    ·exact .inr ⟨k,k0,by omega,k2,k3,k4⟩
theorem yg {tables:List ax.D} {plan:List ah.D} (h:bC tables plan=true):cE (gS (cC plan))=dc tables plan:=by
 have hr:=cT h
 have ht:∀k:Int,0<=k->k<(plan.length:Int)->(nth (t:=ah) plan k).1=(1:Int)->0<=(nth (t:=ah) plan k).2.2.2.1/\(nth (t:=ah) plan k).2.2.2.1<(tables.length:Int):=fun k k0 k1 hk=>EB h (oQ (t:=ah) k0 k1) hk
 obtain⟨_,_,h3⟩:=FJ hr ht plan.length ((List.replicate plan.length false).set (plan.length-1) true) (List.replicate tables.length false) (Int.le_refl _) (by simp)
 unfold dc
 rw[h,cond_true]
 refine Gc ((Ai _ _).sublist List.filter_sublist) fun z=>?_
 unfold cC
 rw[List.mem_map,List.mem_filter,eJ]
 have hz:∀j:Int,¬nth (t:=.bool) (List.replicate tables.length false) j=true:=by
  intro j hj
  unfold nth at hj
  rw[List.getD_eq_getElem?_getD,List.getElem?_replicate] at hj
  split at hj<;>cases hj
 constructor
 ·rintro ⟨k,hk,rfl⟩
  obtain⟨hk1,hk2⟩:=List.mem_filter.1 hk
  obtain⟨k0,k1⟩:=eJ.1 hk1
  obtain⟨q1,q2⟩:=Bool.and_eq_true_iff.1 hk2
  have q2:=of_decide_eq_true q2
  obtain⟨t0,t1⟩:=ht k k0 k1 q2
  exact⟨⟨t0,t1⟩,(h3 _ t0 t1).2 (.inr ⟨k,k0,k1,q1,q2,rfl⟩)⟩
 ·rintro ⟨⟨t0,t1⟩,hn⟩
  rcases(h3 z t0 t1).1 hn with hn | ⟨k,k0,k1,k2,k3,k4⟩
  ·exact absurd hn (hz z)
  ·exact⟨k,List.mem_filter.2 ⟨eJ.2 ⟨k0,k1⟩,Bool.and_eq_true_iff.2 ⟨k2,decide_eq_true k3⟩⟩,k4⟩
theorem At {tables:List ax.D} {plan:List ah.D} (h:Sm (.sl ax) tables):Sm (.sl (.int .i64)) (dc tables plan):=by
 unfold dc
 refine mW ⟨?_,fun _ _=>trivial⟩ (jN _)
 refine Nat.le_trans (List.length_filter_le _ _) ?_
 have:=h.1
 show (aK 0 (tables.length:Int)).length<=1048576
 unfold aK
 rw[List.length_map,List.length_range]
 omega
theorem Gx (plan:List ah.D):(cC plan).length<=plan.length:=by
 unfold cC
 rw[List.length_map]
 refine Nat.le_trans (List.length_filter_le _ _) ?_
 unfold aK
 rw[List.length_map,List.length_range]
 omega
theorem Et {ρ:Type} {f:Int->List Int->Option (Sum (List Int) ρ)} (p:Int->Bool) (g:Int->Int) (n:Int) (h:∀(i:Int) (s:List Int),0<=i->i<n->(s.length:Int)<=i->f i s=some (.inl (cond (p i) (s++[g i]) s))) :
  aM f (aK 0 n) []=some (.inl (((aK 0 n).filter p).map g)):=by
 have key:∀(m:Nat) (i:Int) (s:List Int),m=(n-i).toNat->0<=i->(s.length:Int)<=i->aM f (aK i n) s=some (.inl (s++((aK i n).filter p).map g)):=by
  intro m
  induction m with
  | zero=>intro i s hn h0 hs;rw[bP (by omega)];simp[aM]
  | succ m ih=>
   intro i s hn h0 hs
   have hlt:i<n:=by omega
   rw[dw hlt,bK,h i s h0 hlt hs,aU]
   cases hp:p i with
   | true=>rw[cond_true,ih (i+1) _ (by omega) (by omega) (by simp;omega)];simp[hp]
   | false=>rw[cond_false,ih (i+1) _ (by omega) (by omega) (by omega)];simp[hp]
 have:=key n.toNat 0 [] (by omega) (by omega) (by simp)
 simpa using this
end M
end Go.AE
end
