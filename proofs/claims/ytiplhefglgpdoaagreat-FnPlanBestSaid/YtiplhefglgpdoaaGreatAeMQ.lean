/- Plans with guards: plain Lean. -/
import Derived.Test.YtiplhefglgpdoaaGreatAeMN
section
namespace Go.AE
open Go Go.RowKit
set_option linter.unusedVariables false
namespace M
theorem tS {σ α:Type} (g:σ->α->Option σ):∀(xs:List α) (x:α) (s:σ),cS g (xs++[x]) s=match cS g xs s with
  | some s'=>g s' x
  | none=>none
 | [],x,s=>by
  show (match g s x with | some s'=>some s' | none=>none)=_
  show _=g s x
  cases g s x<;>rfl
 | y::xs,x,s=>by
  show (match g s y with | some s'=>cS g (xs++[x]) s' | none=>none)=match (match g s y with | some s'=>cS g xs s' | none=>none) with | some s'=>g s' x | none=>none
  cases g s y with
  | none=>rfl
  | some s'=>exact tS g xs x s'
theorem zR {σ α:Type} (g:σ->α->Option σ):∀(xs:List α) (k:Nat) (s r:σ),cS g xs s=some r->∃s',cS g (xs.take k) s=some s'
 | [],k,s,r,h=>⟨s,by simp[cS]⟩
 | x::xs,0,s,r,h=>⟨s,rfl⟩
 | x::xs,k+1,s,r,h=>by
  unfold cS at h
  cases hg:g s x with
  | none=>rw[hg] at h;cases h
  | some s1=>
   rw[hg] at h
   obtain⟨s',h'⟩:=zR g xs k s1 r h
   refine⟨s',?_⟩
   rw[List.take_succ_cons]
   unfold cS
   rw[hg]
   exact h'
theorem dX {t:Ty} {xs ys:List t.D} {i:Int} (h0:0<=i) (h1:i<(xs.length:Int)):nth (t:=t) (xs++ys) i=nth (t:=t) xs i:=by
 unfold nth
 rw[List.getD_eq_getElem?_getD,List.getD_eq_getElem?_getD,List.getElem?_append_left (by omega)]
theorem ir {t:Ty} {xs:List t.D} {x:t.D} {i:Int} (h:i=(xs.length:Int)):nth (t:=t) (xs++[x]) i=x:=by
 subst h
 unfold nth
 rw[List.getD_eq_getElem?_getD]
 simp
theorem AK (to:List Int) (s:aa.D):bW (ren to s)=bW s:=by
 unfold bW ren
 simp only
 cases h1:decide (s.1=(1:Int))<;>cases h2:two s.1<;>simp
def nD (st st':eP) (to:List Int) (k:Int):Prop:=(st.1.length:Int)=k/\(st.2.length:Int)=k/\st'.1.length=st'.2.length ∧
 ∀j:Int,0<=j->j<k->(0<=nth (t:=.int .i64) to j/\nth (t:=.int .i64) to j<(st'.1.length:Int))/\nth (t:=.sl ah) st'.1 (nth (t:=.int .i64) to j)=nth (t:=.sl ah) st.1 j/\nth (t:=.int .i64) st'.2 (nth (t:=.int .i64) to j)=nth (t:=.int .i64) st.2 j
theorem oD {n N:Int}:inR n 0 (N-1)=true ↔ 0<=n/\n<N:=by
 unfold inR
 simp
 omega
theorem IB {s:aa.D} (h:bW s=true) (h2:two s.1=false):s.2.2.1=(0:Int):=by
 unfold bW at h
 rw[h2] at h
 have h:=(Bool.and_eq_true_iff.1 (Bool.and_eq_true_iff.1 h).2).1
 simpa using h
theorem fK {tables:List az.D} {st st':eP} {s:aa.D} (h:bH tables st s=some st') :
  ∃c,bF tables st.1 s=some c/\decide ((300:Int)<bf st.2 s)=false/\st'=(st.1++[c],st.2++[bf st.2 s]):=by
 unfold bH at h
 cases hc:bF tables st.1 s with
 | none=>rw[hc] at h;cases h
 | some c=>
  rw[hc] at h
  simp only at h
  cases hd:decide ((300:Int)<bf st.2 s) with
  | true=>rw[hd] at h;cases h
  | false=>
   rw[hd] at h
   cases h
   exact⟨c,rfl,rfl,rfl⟩
theorem DC {tables:List az.D} {st:eP} {s:aa.D} {c:List ah.D} {m:Int} (h1:bF tables st.1 s=some c) (h2:bf st.2 s=m) (h3:decide ((300:Int)<m)=false):bH tables st s=some (st.1++[c],st.2++[m]):=by
 unfold bH
 rw[h1]
 simp only
 rw[h2,h3]
 rfl
theorem Cw {t:Ty} {xs:List t.D} {k:Nat} (h:k<xs.length):xs.take (k+1)=xs.take k++[nth (t:=t) xs (k:Int)]:=by
 rw[List.take_succ_eq_append_getElem h,iq (t:=t) (by omega) (by omega)]
 rfl
end M
end Go.AE
namespace Go.AE
open Go Go.RowKit
theorem M.ja {tables:List az.D} {plan:List aa.D} (h:aQ tables plan=true):plan.length<=6:=by
 unfold aQ at h
 obtain⟨_,h⟩:=Bool.and_eq_true_iff.1 h
 obtain⟨_,h⟩:=Bool.and_eq_true_iff.1 h
 unfold inR at h
 simp at h
 omega
end Go.AE
end
section
namespace Go.AE
open Go Go.RowKit
set_option linter.unusedVariables false
def M.Gi:ax.D:=((5:Int),((0:Int),(((0:Int),((0:Int),((⟨#[]⟩:ByteArray),()))),())))
def M.gv (a b:List ax.D):List ax.D:=a++b++[Gi]
def M.mj (to:List Int) (p:ax.D):ax.D:=cond (decide (p.1=(2:Int))) (p.1,((nth (t:=.int .i64) to p.2.1),p.2.2)) p
def M.mG (e:List ax.D) (to:List Int):List ax.D:=e.map (mj to)
def M.kT (columns:List ah.D) (e:List ax.D) (to:List Int):List ax.D:=
 cond (decide (bE columns e<0)) [] (cond (!decide ((to.length:Int)=(columns.length:Int))) [] (cond (to.any fun z=>!(inR z 0 3)) [] (mG e to)))
def M.pE (e:List ax.D) (n:Nat):Prop:=∀p∈e,p.1=(2:Int)->0<=p.2.1/\p.2.1<(n:Int)
def M.mkS (k a b:Int) (e:List ax.D) (l:List Int):aa.D:=(k,(a,(b,((0:Int),(e,(l,()))))))
def M.fj (s j:aa.D) (at_ rule:Int):List aa.D:=
 cond (decide (rule=(1:Int))) (cond (decide (s.1=(2:Int))&&decide (j.1=(2:Int))) [mkS 2 j.2.1 0 (gv j.2.2.2.2.1 s.2.2.2.2.1) []] [])
 (cond (decide (rule=(2:Int))) (cond (decide (s.1=(2:Int))&&decide (j.1=(4:Int))) [mkS 4 j.2.1 j.2.2.1 (gv j.2.2.2.2.1 s.2.2.2.2.1) []] [])
 (cond (decide (rule=(3:Int))) (cond (decide (s.1=(2:Int))&&decide (j.1=(3:Int))) [mkS 2 j.2.1 0 (mG s.2.2.2.2.1 j.2.2.2.2.2.1) [],mkS 3 at_ 0 [] j.2.2.2.2.2.1] [])
 (cond (decide (rule=(4:Int))) (cond (decide (s.1=(2:Int))&&decide (j.1=(6:Int))) [mkS 2 j.2.1 0 s.2.2.2.2.1 [],mkS 6 at_ 0 [] []] [])
 (cond (decide (rule=(5:Int))) (cond (decide (s.1=(2:Int))&&decide (j.1=(5:Int))) [mkS 2 j.2.1 0 s.2.2.2.2.1 [],mkS 2 j.2.2.1 0 s.2.2.2.2.1 [],mkS 5 at_ (wrap64 (at_+(1:Int))) [] []] [])
 (cond (decide (rule=(6:Int))) (cond (decide (s.1=(3:Int))&&decide (j.1=(3:Int))) [mkS 3 j.2.1 0 [] (s.2.2.2.2.2.1.map fun z=>nth (t:=.int .i64) j.2.2.2.2.2.1 z)] [])
 (cond (decide (rule=(7:Int))) (cond (decide (s.1=(6:Int))&&decide (j.1=(6:Int))) [mkS 6 j.2.1 0 [] []] []) []))))))
def M.bA (plan:List aa.D) (at_ rule:Int):List aa.D:=fj (nth (t:=aa) plan at_) (nth (t:=aa) plan (nth (t:=aa) plan at_).2.1) at_ rule
def M.KY (n:Nat) (s j:aa.D):Prop:=(¬s.1=(1:Int)->0<=s.2.1/\s.2.1<(n:Int))/\(s.1=(2:Int)->j.1=(3:Int)->pE s.2.2.2.2.1 j.2.2.2.2.2.1.length) ∧
 (s.1=(3:Int)->j.1=(3:Int)->∀z∈s.2.2.2.2.2.1,0<=z/\z<(j.2.2.2.2.2.1.length:Int))
def M.jk (plan:List aa.D) (at_:Int):Prop:=(0<=at_/\at_<(plan.length:Int))/\KY plan.length (nth (t:=aa) plan at_) (nth (t:=aa) plan (nth (t:=aa) plan at_).2.1)
def M.Jb (columns:List (List ah.D)) (s j:aa.D):Prop:=s.1=(2:Int)->j.1=(3:Int)->s.2.1<(columns.length:Int)/\kT (nth (t:=.sl ah) columns s.2.1) s.2.2.2.2.1 j.2.2.2.2.2.1=mG s.2.2.2.2.1 j.2.2.2.2.2.1
def M.nB (columns:List (List ah.D)) (plan:List aa.D) (at_:Int):Prop:=Jb columns (nth (t:=aa) plan at_) (nth (t:=aa) plan (nth (t:=aa) plan at_).2.1)
def M.shift (at_ more:Int) (s:aa.D):aa.D:=
 (s.1,cond (!decide (s.1=(1:Int))&&decide (at_<=s.2.1)) (wrap64 (s.2.1+more)) s.2.1,cond (two s.1&&decide (at_<=s.2.2.1)) (wrap64 (s.2.2.1+more)) s.2.2.1,s.2.2.2)
def M.bC (plan:List aa.D) (at_:Int) (steps:List aa.D):List aa.D:=plan.take at_.toNat++steps++(plan.drop (at_.toNat+1)).map (shift at_ (wrap64 ((steps.length:Int)-1)))
def M.eR (tables:List az.D) (plan:List aa.D) (at_ rule:Int):List aa.D×Bool:=
 cond (decide (((bA plan at_ rule).length:Int)=(0:Int))) (plan,false) (cond (aQ tables (bC plan at_ (bA plan at_ rule))) (bC plan at_ (bA plan at_ rule),true) (plan,false))
def M.jA (tables:List az.D) (plan:List aa.D) (at_ rule:Int):List aa.D×Bool:=
 cond (aQ tables plan&&(inR at_ 0 (wrap64 ((plan.length:Int)-(1:Int)))&&inR rule 1 7)) (eR tables plan at_ rule) ([],false)
namespace M
theorem sY {tables:List az.D}:∀(xs:List aa.D) (st st':eP),cS (bH tables) xs st=some st'->st'.1.length=st.1.length+xs.length/\∀j:Int,0<=j->j<(st.1.length:Int)->nth (t:=.sl ah) st'.1 j=nth (t:=.sl ah) st.1 j
 | [],st,st',h=>by cases h;exact⟨by simp,fun _ _ _=>rfl⟩
 | x::xs,st,st',h=>by
  unfold cS at h
  cases hp:bH tables st x with
  | none=>rw[hp] at h;cases h
  | some st1=>
   rw[hp] at h
   obtain⟨c,_,_,rfl⟩:=fK hp
   obtain⟨h1,h2⟩:=sY xs _ st' h
   refine⟨by rw[h1];simp;omega,fun j j0 j1=>?_⟩
   rw[h2 j j0 (by simp;omega)]
   exact dX j0 j1
theorem uY {tables:List az.D}:∀(xs:List aa.D) (st st':eP),cS (bH tables) xs st=some st'->∀i:Int,0<=i->i<(xs.length:Int) →
  ∃a:List (List ah.D),bF tables a (nth (t:=aa) xs i)=some (nth (t:=.sl ah) st'.1 ((st.1.length:Int)+i))/\(a.length:Int)=(st.1.length:Int)+i/\∀j:Int,0<=j->j<(a.length:Int)->nth (t:=.sl ah) a j=nth (t:=.sl ah) st'.1 j
 | [],st,st',h,i,h0,h1=>by simp at h1;omega
 | x::xs,st,st',h,i,h0,h1=>by
  unfold cS at h
  cases hp:bH tables st x with
  | none=>rw[hp] at h;cases h
  | some st1=>
   rw[hp] at h
   obtain⟨c,hc,_,rfl⟩:=fK hp
   obtain⟨e1,e2⟩:=sY xs _ st' h
   by_cases hi:i=0
   ·subst hi
    rw[vJ,Int.add_zero]
    refine⟨st.1,?_,rfl,fun j j0 j1=>?_⟩
    ·rw[e2 _ (by omega) (by simp;omega),ir rfl]
     exact hc
    ·rw[e2 j j0 (by simp;omega)]
     exact(dX j0 j1).symm
   ·obtain⟨a,a1,a2,a3⟩:=uY xs _ st' h (i-1) (by omega) (by simp at h1;omega)
    refine⟨a,?_,by rw[a2];simp;omega,a3⟩
    have e:i=(i-1)+1:=by omega
    rw[e,vW _ _ (by omega)]
    have e3:(((st.1++[c]:List (List ah.D)).length:Nat):Int)+(i-1)=(st.1.length:Int)+(i-1+1):=by simp;omega
    rw[<-e3]
    exact a1
theorem AL {ahead:List (List ah.D)} (ha:∀x∈ahead,x.length<=4) (i:Int):(nth (t:=.sl ah) ahead i:List ah.D).length<=4:=by
 unfold nth
 rw[List.getD_eq_getElem?_getD]
 cases he:ahead[i.toNat]? with
 | none=>exact Nat.zero_le _
 | some x=>exact ha x (List.mem_of_getElem? he)
theorem FX {tables:List az.D} (ht:cC tables=true) (i:Int):(nth (t:=az) tables i).1.length<=4:=by
 unfold nth
 rw[List.getD_eq_getElem?_getD]
 cases he:tables[i.toNat]? with
 | none=>exact Nat.zero_le _
 | some x=>
  unfold cC at ht
  have:=List.all_eq_true.1 (Bool.and_eq_true_iff.1 ht).2 x (List.mem_of_getElem? he)
  unfold dy gI bI at this
  simp only[Bool.and_eq_true,decide_eq_true_eq] at this
  exact this.2.1.1
theorem BV {tables:List az.D} {ahead:List (List ah.D)} {s:aa.D} {c:List ah.D} (ht:cC tables=true) (ha:∀x∈ahead,x.length<=4) (h:bF tables ahead s=some c):c.length<=4:=by
 have hn:=AL ha
 unfold bF at h
 obtain⟨_,h⟩:=aG h
 cases h1:decide (s.1=(1:Int)) with
 | true=>
  rw[h1,cond_true] at h
  obtain⟨_,h⟩:=aG h
  cases h
  exact FX ht _
 | false=>
  rw[h1,cond_false] at h
  obtain⟨_,h⟩:=aG h
  cases h2:decide (s.1=(2:Int)) with
  | true=>
   rw[h2,cond_true] at h
   obtain⟨_,h⟩:=aG h
   cases h
   exact hn _
  | false=>
   rw[h2,cond_false] at h
   cases h3:decide (s.1=(3:Int)) with
   | true=>
    rw[h3,cond_true] at h
    obtain⟨hb,h⟩:=aG h
    cases h
    have:=of_decide_eq_true (Bool.and_eq_true_iff.1 hb).2
    rw[List.length_map]
    omega
   | false=>
    rw[h3,cond_false] at h
    cases h4:decide (s.1=(4:Int)) with
    | true=>
     rw[h4,cond_true] at h
     obtain⟨hb,h⟩:=aG h
     cases h
     have:=of_decide_eq_true (Bool.and_eq_true_iff.1 hb).1
     omega
    | false=>
     rw[h4,cond_false] at h
     cases h5:decide (s.1=(5:Int)) with
     | true=>
      rw[h5,cond_true] at h
      unfold both at h
      obtain⟨_,h⟩:=aG h
      rw[jH h]
      exact hn _
     | false=>
      rw[h5,cond_false] at h
      obtain⟨_,h⟩:=aG h
      cases h
      exact hn _
theorem uc {tables:List az.D} (ht:cC tables=true):∀(xs:List aa.D) (st st':eP),(∀x∈st.1,x.length<=4)->cS (bH tables) xs st=some st'->∀x∈st'.1,x.length<=4
 | [],st,st',ha,h=>by cases h;exact ha
 | x::xs,st,st',ha,h=>by
  unfold cS at h
  cases hp:bH tables st x with
  | none=>rw[hp] at h;cases h
  | some st1=>
   rw[hp] at h
   obtain⟨c,hc,_,rfl⟩:=fK hp
   refine uc ht xs _ st' (fun y hy=>?_) h
   rcases List.mem_append.1 hy with hy | hy
   ·exact ha y hy
   ·rw[List.mem_singleton.1 hy]
    exact BV ht ha hc
theorem qT {tables:List az.D} {ahead:List (List ah.D)} {s:aa.D} {c:List ah.D} (h:bF tables ahead s=some c) (h2:s.1=(2:Int)):bE (nth (t:=.sl ah) ahead s.2.1) s.2.2.2.2.1=3:=by
 unfold bF at h
 obtain⟨_,h⟩:=aG h
 rw[decide_eq_false (show ¬s.1=(1:Int) by rw[h2];decide),cond_false] at h
 obtain⟨_,h⟩:=aG h
 rw[decide_eq_true h2,cond_true] at h
 obtain⟨hb,_⟩:=aG h
 exact of_decide_eq_true hb
theorem sW {tables:List az.D} {ahead:List (List ah.D)} {s:aa.D} {c:List ah.D} (h:bF tables ahead s=some c) (h2:s.1=(3:Int)) :
  (∀n∈s.2.2.2.2.2.1,inR n 0 (((nth (t:=.sl ah) ahead s.2.1).length:Int)-1)=true)/\c.length=s.2.2.2.2.2.1.length:=by
 unfold bF at h
 obtain⟨_,h⟩:=aG h
 rw[decide_eq_false (show ¬s.1=(1:Int) by rw[h2];decide),cond_false] at h
 obtain⟨_,h⟩:=aG h
 rw[decide_eq_false (show ¬s.1=(2:Int) by rw[h2];decide),cond_false] at h
 rw[decide_eq_true h2,cond_true] at h
 obtain⟨hb,h⟩:=aG h
 cases h
 exact⟨fun n hn=>List.all_eq_true.1 (Bool.and_eq_true_iff.1 hb).1 n hn,by rw[List.length_map]⟩
theorem CY {tables:List az.D} {ahead:List (List ah.D)} {s:aa.D} {c:List ah.D} (h:bF tables ahead s=some c) (h2:s.1=(4:Int)):∃q,bE q s.2.2.2.2.1=3:=by
 unfold bF at h
 obtain⟨_,h⟩:=aG h
 rw[decide_eq_false (show ¬s.1=(1:Int) by rw[h2];decide),cond_false] at h
 obtain⟨_,h⟩:=aG h
 rw[decide_eq_false (show ¬s.1=(2:Int) by rw[h2];decide),cond_false] at h
 rw[decide_eq_false (show ¬s.1=(3:Int) by rw[h2];decide),cond_false] at h
 rw[decide_eq_true h2,cond_true] at h
 obtain⟨hb,h⟩:=aG h
 exact⟨_,of_decide_eq_true (Bool.and_eq_true_iff.1 hb).2⟩
theorem Bk {q:List ah.D} {e:List ax.D} (h:bE q e=3):e.length<=12:=by
 unfold bE at h
 cases hc:(bI q&&decide (e.length<=12)) with
 | false=>rw[hc] at h;simp at h
 | true=>exact of_decide_eq_true (Bool.and_eq_true_iff.1 hc).2
theorem Az {w:Nat}:∀(e:List ax.D) (d:Nat),tg w e d->pE e w
 | [],d,h=>fun p hp=>by cases hp
 | q::e,d,h=>fun p hp=>by
  obtain⟨_,_,h3,h4⟩:=h
  rcases List.mem_cons.1 hp with rfl | hp
  ·exact h3
  ·exact Az e _ h4 p hp
theorem IC {a m:Int} {s:aa.D} (h:Sm aa s):Sm aa (shift a m s):=⟨trivial,trivial,trivial,h.2.2.2⟩
theorem Gw {plan:List aa.D} {at_:Int} {n:List aa.D} (hp:Sm (.sl aa) plan) (h6:plan.length<=6) (hn:Sm (.sl aa) n) (h3:n.length<=3):Sm (.sl aa) (bC plan at_ n):=by
 refine⟨?_,fun x hx=>?_⟩
 ·show (bC plan at_ n).length<=1048576
  unfold bC
  have:=List.length_take_le at_.toNat plan
  simp only[List.length_append,List.length_map,List.length_drop]
  have h7:(plan.take at_.toNat).length<=6:=Nat.le_trans (List.length_take_le' _ _) h6
  omega
 ·unfold bC at hx
  rcases List.mem_append.1 hx with hx | hx
  ·rcases List.mem_append.1 hx with hx | hx
   ·exact hp.2 x (List.mem_of_mem_take hx)
   ·exact hn.2 x hx
  ·obtain⟨y,hy,rfl⟩:=List.mem_map.1 hx
   exact IC (hp.2 y (List.mem_of_mem_drop hy))
theorem Jg {α:Type} {b:Bool} {xs ys:List α} {n:Nat} (h1:xs.length<=n) (h2:ys.length<=n):(cond b xs ys).length<=n:=by cases b<;>assumption
theorem sU (s j:aa.D) (at_ rule:Int):(fj s j at_ rule).length<=3:=by
 unfold fj
 repeat' (refine Jg ?_ ?_)
 all_goals simp
end M
end Go.AE
end
