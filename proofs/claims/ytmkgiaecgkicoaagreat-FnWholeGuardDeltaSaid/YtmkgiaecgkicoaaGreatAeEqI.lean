/- Tables and bonds. -/
import Derived.Test.YtmkgiaecgkicoaaGreatAeEqH
import Derived.Test.YtmkgiaecgkicoaaGreatAeF
import Derived.Test.YtmkgiaecgkicoaaGreatAeMP
section
namespace Go.AE
open Go Go.RowKit
set_option linter.unusedSimpArgs false
set_option linter.unusedVariables false
theorem KC {n a b:Int} (h:M.inR n a b=true):a<=n/\n<=b:=by
 unfold M.inR at h
 simp only[Bool.and_eq_true,decide_eq_true_eq] at h
 exact h
theorem Gm {LK:List ai.D} (h:M.bw LK=true) {t:ai.D} (ht:t∈LK) {r:List af.D} (hr:r∈t.2.1):r.length=t.1.length:=by
 unfold M.bw at h
 rw[Bool.and_eq_true,List.all_eq_true] at h
 have h2:=h.2 t ht
 unfold M.dU M.jV at h2
 rw[Bool.and_eq_true,Bool.and_eq_true,List.all_eq_true] at h2
 have h3:=h2.2.2 r hr
 unfold M.cA at h3
 simp only[Bool.and_eq_true,decide_eq_true_eq] at h3
 exact h3.2.2.1
theorem HT {t:Ty} {xs:List t.D} {n:Nat} {i:Int} (h:i<(n:Int)) (h0:0<=i):@nth t (xs.take n) i=@nth t xs i:=by
 unfold nth
 rw[List.getD_eq_getElem?_getD,List.getD_eq_getElem?_getD,List.getElem?_take_of_lt (by omega)]
end Go.AE
end
section
namespace Go.AE
open Go Go.RowKit
set_option linter.unusedVariables false
set_option linter.unusedSimpArgs false
theorem DN {t u:Ty} (f:t.D->u.D) (hf:f t.zero=u.zero) (xs:List t.D) (i:Int):@nth u (xs.map f) i=f (@nth t xs i):=by
 unfold nth
 rw[List.getD_eq_getElem?_getD,List.getD_eq_getElem?_getD,List.getElem?_map]
 cases xs[i.toNat]? with
 | none=>exact hf.symm
 | some x=>rfl
theorem uT {α β:Type} {f:α->List β->Option (Sum (List β) Unit)} (p:α->Bool) (g:α->β) {xs:List α} (h:∀x∈xs,∀s:List β,s.length<xs.length->f x s=some (cond (p x) (.inl (s++[g x])) (.inr ()))) :
  aU f xs []=some (cond (xs.all p) (.inl (xs.map g)) (.inr ())):=by
 have key:∀(ys zs:List α) (s:List β),xs=zs++ys->s.length=zs.length->aU f ys s=some (cond (ys.all p) (.inl (s++ys.map g)) (.inr ())):=by
  intro ys
  induction ys with
  | nil=>intro zs s _ _;simp[aU]
  | cons y ys ih=>
   intro zs s e hs
   rw[ck,h y (by rw[e];simp) s (by rw[e,hs];simp)]
   rw[List.all_cons]
   cases hp:p y with
   | true=>
    rw[cond_true,bE,ih (zs++[y]) (s++[g y]) (by rw[e];simp) (by simp[hs])]
    simp
   | false=>rfl
 have:=key xs [] [] rfl rfl
 simpa using this
theorem oN {LK:List ai.D} {LN:List (List ag.D)} {s:ah.D} (b0:0<=s.2.2.1) (b1:s.2.2.1<(LN.length:Int)) (hb:(nth (t:=.sl ag) LN s.2.2.1:List ag.D).length<=1048576) :
  ∀(n:Nat) (i:Int) (v:List ag.D),(v.length:Int)-i=n->0<=i->v.length=(nth (t:=.sl ag) LN s.2.2.1:List ag.D).length →
   cF (F.eO LK LN s) (i,v)=some (match M.kS (nth (t:=.sl ag) LN s.2.2.1) n i v with | some r=>.inl r | none=>.inr ())
 | 0,i,v,hn,h0,hl=>by
  rw[jz]
  unfold F.eO
  simp only
  rw[decide_eq_false (by omega),cond_false]
  rfl
 | n+1,i,v,hn,h0,hl=>by
  have h1:i<(v.length:Int):=by omega
  have h2:i<((nth (t:=.sl ag) LN s.2.2.1:List ag.D).length:Int):=by omega
  rw[jz]
  unfold F.eO M.kS M.pV
  simp only
  rw[decide_eq_true h1,cond_true,aq h0,aq h1,aq b0,aq b1,aq h2,aF (n:=i+1) (by omega) (by omega)]
  cases hk:decide ((@nth ag v i).1=(@nth ag (nth (t:=.sl ag) LN s.2.2.1) i).1) with
  | false=>rfl
  | true=>
   cases he:(@nth ag v i).2.1 with
   | false=>
    simp only[Bool.not_true,cond_false,cond_true,bX,bE,show ((false:Bool)==false)=true from rfl]
    exact oN (LK:=LK) b0 b1 hb n (i+1) _ (by simp;omega) (by omega) (by simpa using hl)
   | true=>
    simp only[Bool.not_true,cond_false,cond_true,bX,bE,show ((true:Bool)==false)=false from rfl]
    exact oN (LK:=LK) b0 b1 hb n (i+1) _ (by simp;omega) (by omega) (by simpa using hl)
theorem oW {s:ah.D} {LK:List ai.D} {LN:List aH.D} {c:Int} {N:Nat} (hc:(N:Int)<=c) :
  ∀(n:Nat) (i:Int) (v:List ag.D),(N:Int)-i=n->0<=i →
   aU (F.fF s LK LN c) (aT i (N:Int)) v=some (match M.kS (@nth aH LN s.2.2.1).1 n i v with | some r=>.inl r | none=>.inr ())
 | 0,i,v,hn,h0=>by
  rw[gy (by omega)]
  rfl
 | n+1,i,v,hn,h0=>by
  rw[hY (by omega),ck]
  unfold F.fF M.kS M.pV
  rw[aq (by omega),show decide ((@nth ag (@nth aH LN s.2.2.1).1 i).1=(@nth ag v i).1)=decide ((@nth ag v i).1=(@nth ag (@nth aH LN s.2.2.1).1 i).1) from decide_eq_decide.2 eq_comm]
  cases hk:decide ((@nth ag v i).1=(@nth ag (@nth aH LN s.2.2.1).1 i).1) with
  | false=>rfl
  | true=>
   cases he:(@nth ag v i).2.1 with
   | false=>
    simp only[Bool.not_true,cond_false,cond_true,bX,bE,show ((false:Bool)==false)=true from rfl]
    exact oW (LK:=LK) hc n (i+1) _ (by omega) (by omega)
   | true=>
    simp only[Bool.not_true,cond_false,cond_true,bX,bE,show ((true:Bool)==false)=false from rfl]
    exact oW (LK:=LK) hc n (i+1) _ (by omega) (by omega)
theorem Ai {LK:List ai.D} {LN:List (List ag.D)} {s:ah.D} (ht:Sm (.sl ai) LK) (ha:Sm (.sl (.sl ag)) LN) (hs:Sm ah s) :
  ∃r,F.iz LK LN s=some r/\cond r.2 (some r.1) none=M.bF LK LN s:=by
 have sa:Sm (.sl ag) (nth (t:=.sl ag) LN s.2.1):=aO ha _
 have sb:Sm (.sl ag) (nth (t:=.sl ag) LN s.2.2.1):=aO ha _
 have la:=sa.1
 have lb:=sb.1
 have hL:s.2.2.2.2.2.1.length<=1048576:=hs.2.2.2.2.2.1.1
 unfold F.iz M.bF
 simp only[List.nil_append,gI _ ht.1,gI _ ha.1]
 cases M.bM s
 ·exact⟨([],false),rfl,rfl⟩
 simp only[Bool.not_true,cond_true,cond_false]
 cases decide (s.1=(1:Int))
 case true=>
  simp only[cond_true]
  cases M.inR s.2.2.2.1 0 ((LK.length:Int)-1)
  ·exact⟨([],false),rfl,rfl⟩
  ·exact⟨(_,true),rfl,rfl⟩
 simp only[cond_false]
 cases hA:M.inR s.2.1 0 ((LN.length:Int)-1)
 ·exact⟨([],false),rfl,rfl⟩
 cases hB:M.inR s.2.2.1 0 ((LN.length:Int)-1)
 ·exact⟨([],false),rfl,rfl⟩
 have b0:=M.fk hB
 have b1:=Int.lt_of_le_sub_one (M.nQ hB)
 simp only[Bool.not_true,cond_true,cond_false,Bool.and_true,show ((false:Bool)==false)=true from rfl]
 cases decide (s.1=(2:Int))
 case true=>
  simp only[cond_true]
  exact⟨_,aq sa,rfl⟩
 simp only[cond_false]
 cases decide (s.1=(3:Int))
 case true=>
  simp only[cond_true]
  rw[uT (fun n=>M.inR n 0 (((nth (t:=.sl ag) LN s.2.1:List ag.D).length:Int)-1)) (fun n=>@nth ag (nth (t:=.sl ag) LN s.2.1) n) (fun x hx v hv=>by
   unfold F.gW
   simp only[List.nil_append,gI _ la]
   rw[aq (by unfold lim;simp;omega)]
   cases M.inR x 0 (((nth (t:=.sl ag) LN s.2.1:List ag.D).length:Int)-1)<;>rfl)]
  cases s.2.2.2.2.2.1.all fun n=>M.inR n 0 (((nth (t:=.sl ag) LN s.2.1:List ag.D).length:Int)-1)
  ·exact⟨([],false),rfl,rfl⟩
  ·refine⟨_,rfl,?_⟩
   simp only[List.length_map,Bool.true_and]
 simp only[cond_false]
 cases decide (s.1=(4:Int))
 case true=>
  simp only[cond_true]
  rw[aq (by unfold lim;omega)]
  by_cases hl:((nth (t:=.sl ag) LN s.2.1++nth (t:=.sl ag) LN s.2.2.1:List ag.D).length:Int)<=4
  ·rw[decide_eq_true hl]
   simp only[cond_true,Bool.true_and,show ((true:Bool)==true)=true from rfl]
   exact⟨_,aq (M.zY (by omega)),rfl⟩
  ·rw[decide_eq_false hl]
   exact⟨(_,false),rfl,rfl⟩
 simp only[cond_false]
 cases decide (s.1=(5:Int))
 case true=>
  simp only[cond_true]
  unfold M.both
  by_cases hl:(nth (t:=.sl ag) LN s.2.1:List ag.D).length=(nth (t:=.sl ag) LN s.2.2.1:List ag.D).length
  ·rw[decide_eq_true hl,decide_eq_true (by omega:((nth (t:=.sl ag) LN s.2.1:List ag.D).length:Int)=((nth (t:=.sl ag) LN s.2.2.1:List ag.D).length:Int))]
   simp only[Bool.not_true,cond_true,cond_false]
   rw[oN b0 b1 lb (nth (t:=.sl ag) LN s.2.1:List ag.D).length 0 _ (by omega) (by omega) hl]
   cases M.kS (nth (t:=.sl ag) LN s.2.2.1) (nth (t:=.sl ag) LN s.2.1:List ag.D).length 0 (nth (t:=.sl ag) LN s.2.1) with
   | none=>exact⟨([],false),rfl,rfl⟩
   | some r=>exact⟨(r,true),rfl,rfl⟩
  ·rw[decide_eq_false hl,decide_eq_false (by omega:¬((nth (t:=.sl ag) LN s.2.1:List ag.D).length:Int)=((nth (t:=.sl ag) LN s.2.2.1:List ag.D).length:Int))]
   exact⟨([],false),rfl,rfl⟩
 simp only[cond_false]
 cases decide (s.1=(6:Int))
 ·exact⟨([],false),rfl,rfl⟩
 ·exact⟨(_,true),rfl,rfl⟩
theorem Ll {LK:List ai.D} {LN:List (List ag.D)} {s:ah.D} (ht:Sm (.sl ai) LK) (ha:Sm (.sl (.sl ag)) LN) (hs:Sm ah s) :
  cond (M.ga LK LN s).2 (some (M.ga LK LN s).1) none=M.bF LK LN s:=by
 obtain⟨r,h1,h2⟩:=Ai ht ha hs
 unfold M.ga
 rw[h1]
 exact h2
theorem ve {s:ah.D} {LK:List ai.D} {LN:List aH.D} (hs:Sm ah s) (ht:Sm (.sl ai) LK) (ha:Sm (.sl aH) LN) :
  ∃r,F.iC s LK LN=some r/\cond r.2 (some r.1) none=(M.bF LK (LN.map fun m:aH.D=>(m.1:List ag.D)) s).map fun c=>((c,M.aN (LN.map fun m:aH.D=>(m.2.1:Int)) s,()):aH.D):=by
 have ea:∀i,(nth (t:=.sl ag) (LN.map fun m:aH.D=>(m.1:List ag.D)) i:List ag.D)=(@nth aH LN i).1:=fun i=>DN (t:=aH) (u:=.sl ag) (fun m=>m.1) rfl LN i
 have em:∀i,nth (t:=.int .i64) (LN.map fun m:aH.D=>(m.2.1:Int)) i=(@nth aH LN i).2.1:=fun i=>DN (t:=aH) (u:=.int .i64) (fun m=>m.2.1) rfl LN i
 have sa:Sm (.sl ag) (@nth aH LN s.2.1).1:=(aO ha _).1
 have sb:Sm (.sl ag) (@nth aH LN s.2.2.1).1:=(aO ha _).1
 have la:=sa.1
 have lb:=sb.1
 have hL:s.2.2.2.2.2.1.length<=1048576:=hs.2.2.2.2.2.1.1
 unfold F.iC M.bF M.aN
 simp only[ea,em,List.length_map,gI _ ht.1,gI _ ha.1]
 cases M.bM s
 ·exact⟨(_,false),rfl,rfl⟩
 simp only[Bool.not_true,cond_true,cond_false,show ((false:Bool)==false)=true from rfl]
 cases hk:M.inR s.1 1 6
 ·have hk':∀k:Int,1<=k->k<=6->decide (s.1=k)=false:=by
   intro k k1 k2
   unfold M.inR at hk
   apply decide_eq_false
   intro e
   rw[e] at hk
   simp[k1,k2] at hk
  simp only[Bool.not_false,cond_true,cond_false,hk' 1 (by decide) (by decide),hk' 2 (by decide) (by decide),hk' 3 (by decide) (by decide),hk' 4 (by decide) (by decide),hk' 5 (by decide) (by decide),hk' 6 (by decide) (by decide)]
  refine⟨(_,false),rfl,?_⟩
  cases (M.inR s.2.1 0 ((LN.length:Int)-1)&&M.inR s.2.2.1 0 ((LN.length:Int)-1))<;>rfl
 simp only[Bool.not_true,cond_false]
 cases h1:decide (s.1=(1:Int))
 case true=>
  simp only[cond_true]
  cases M.inR s.2.2.2.1 0 ((LK.length:Int)-1)
  ·exact⟨(_,false),rfl,rfl⟩
  ·exact⟨(_,true),rfl,rfl⟩
 simp only[cond_false]
 cases hA:M.inR s.2.1 0 ((LN.length:Int)-1)
 ·exact⟨(_,false),rfl,rfl⟩
 cases hB:M.inR s.2.2.1 0 ((LN.length:Int)-1)
 ·exact⟨(_,false),rfl,rfl⟩
 simp only[Bool.not_true,cond_true,cond_false,Bool.and_true,show ((false:Bool)==false)=true from rfl]
 by_cases h2:s.1=(2:Int)
 ·simp only[h2,decide_true,cond_true,Int.reduceEq,decide_false,cond_false]
  refine⟨_,rfl,?_⟩
  cases decide (M.bR (@nth aH LN s.2.1).1 s.2.2.2.2.1=3)<;>rfl
 by_cases h3:s.1=(3:Int)
 ·simp only[h3,decide_true,cond_true,Int.reduceEq,decide_false,cond_false]
  rw[uT (fun n=>M.inR n 0 (((@nth aH LN s.2.1).1.length:Int)-1)) (fun n=>@nth ag (@nth aH LN s.2.1).1 n) (fun x hx v hv=>by
   unfold F.gS
   simp only[gI _ la]
   rw[aq (by unfold lim;simp;omega)]
   cases M.inR x 0 (((@nth aH LN s.2.1).1.length:Int)-1)<;>rfl)]
  cases s.2.2.2.2.2.1.all fun n=>M.inR n 0 (((@nth aH LN s.2.1).1.length:Int)-1)
  ·exact⟨(_,false),rfl,rfl⟩
  ·refine⟨_,rfl,?_⟩
   simp only[Bool.true_and]
   cases decide ((s.2.2.2.2.2.1.length:Int)<=4)<;>rfl
 by_cases h4:s.1=(4:Int)
 ·simp only[h4,decide_true,cond_true,Int.reduceEq,decide_false,cond_false,List.flatten_cons,List.flatten_nil,List.append_nil,bX]
  rw[aq (show Sm (.sl (.sl ag)) [(@nth aH LN s.2.1).1,(@nth aH LN s.2.2.1).1] from⟨by simp,fun x hx=>by
   rcases List.mem_cons.1 hx with rfl | hx
   ·exact sa
   ·cases List.mem_singleton.1 hx
    exact sb⟩)]
  by_cases hl:(((@nth aH LN s.2.1).1++(@nth aH LN s.2.2.1).1:List ag.D).length:Int)<=4
  ·rw[decide_eq_true hl]
   simp only[cond_true,Bool.true_and,show ((true:Bool)==true)=true from rfl]
   refine⟨_,aq (M.zY (by omega)),?_⟩
   cases decide (M.bR ((@nth aH LN s.2.1).1++(@nth aH LN s.2.2.1).1:List ag.D) s.2.2.2.2.1=3)<;>rfl
  ·rw[decide_eq_false hl]
   exact⟨(_,false),rfl,rfl⟩
 by_cases h5:s.1=(5:Int)
 ·simp only[h5,decide_true,cond_true,Int.reduceEq,decide_false,cond_false,bX]
  unfold M.both
  by_cases hl:(@nth aH LN s.2.1).1.length=(@nth aH LN s.2.2.1).1.length
  ·rw[decide_eq_true hl,decide_eq_true (by omega:((@nth aH LN s.2.1).1.length:Int)=((@nth aH LN s.2.2.1).1.length:Int))]
   simp only[Bool.not_true,cond_true,cond_false]
   rw[oW (by omega) (@nth aH LN s.2.1).1.length 0 _ (by omega) (by omega)]
   cases hr:M.kS (@nth aH LN s.2.2.1).1 (@nth aH LN s.2.1).1.length 0 (@nth aH LN s.2.1).1 with
   | none=>exact⟨(_,false),rfl,rfl⟩
   | some r=>
    refine⟨(_,true),rfl,?_⟩
    have:=M.lz hr
    rw[<-this,M.iS]
    rfl
  ·rw[decide_eq_false hl,decide_eq_false (by omega:¬((@nth aH LN s.2.1).1.length:Int)=((@nth aH LN s.2.2.1).1.length:Int))]
   exact⟨(_,false),rfl,rfl⟩
 have key:∀k:Int,M.inR k 1 6=true->¬k=1->¬k=2->¬k=3->¬k=4->¬k=5->k=6:=by
  intro k hk _ _ _ _ _
  unfold M.inR at hk
  simp at hk
  omega
 have h6:s.1=(6:Int):=key s.1 hk (of_decide_eq_false h1) h2 h3 h4 h5
 simp only[h6,decide_true,cond_true,Int.reduceEq,decide_false,cond_false]
 exact⟨(_,true),rfl,rfl⟩
theorem Ji {s:ah.D} {LK:List ai.D} {LN:List aH.D} (hs:Sm ah s) (ht:Sm (.sl ai) LK) (ha:Sm (.sl aH) LN) :
  cond (M.make s LK LN).2 (some (M.make s LK LN).1) none=(M.bF LK (LN.map fun m:aH.D=>(m.1:List ag.D)) s).map fun c=>((c,M.aN (LN.map fun m:aH.D=>(m.2.1:Int)) s,()):aH.D):=by
 obtain⟨r,h1,h2⟩:=ve hs ht ha
 unfold M.make
 rw[h1]
 exact h2
theorem tq {LK:List ai.D} {plan:List ah.D} (ht:Sm (.sl ai) LK) (hp:Sm (.sl ah) plan) :
  ∃r,F.nq LK plan=some r/\r.2=M.bU LK plan/\Sm (.sl aH) r.1/\(r.2=true->(r.1.map fun m:aH.D=>(m.1:List ag.D))=(M.dM LK plan).1):=by
 obtain⟨o,h1,h2⟩:=M.Di (f:=F.jb LK plan) (M.bg LK) (fun t:List aH.D=>((t.map fun m:aH.D=>(m.1:List ag.D),t.map fun m:aH.D=>(m.2.1:Int)):fC))
  (fun n t=>t.length=n/\∀m∈t,m.1.length<=1048576) plan 0 [] ⟨rfl,fun x h=>by cases h⟩ (fun x hx n t _ hn hI=>by
  obtain⟨hl,hm⟩:=hI
  have hpl:=hp.1
  have hsm:Sm (.sl aH) t:=⟨by omega,fun m h=>⟨M.zY (hm m h),trivial,trivial⟩⟩
  have hmk:=Ji (hp.2 x hx) ht hsm
  have hx':∀y∈(t.map fun m:aH.D=>(m.1:List ag.D)),y.length<=1048576:=by
   intro y hy
   obtain⟨m,h,rfl⟩:=List.mem_map.1 hy
   exact hm m h
  unfold F.jb M.bg
  rw[aq hsm,bX]
  cases hc:M.bF LK (t.map fun m:aH.D=>(m.1:List ag.D)) x with
  | none=>
   rw[hc] at hmk
   cases hb:(M.make x LK t).2 with
   | false=>exact⟨.inr (),rfl,rfl⟩
   | true=>rw[hb] at hmk;cases hmk
  | some c=>
   rw[hc] at hmk
   cases hb:(M.make x LK t).2 with
   | false=>rw[hb] at hmk;cases hmk
   | true=>
    rw[hb,cond_true] at hmk
    have e:(M.make x LK t).1=(c,M.aN (t.map fun m:aH.D=>(m.2.1:Int)) x,()):=Option.some.inj hmk
    rw[e]
    simp only[Bool.not_true,cond_true,show ((false:Bool)==false)=true from rfl]
    cases hd:decide ((300:Int)<M.aN (t.map fun m:aH.D=>(m.2.1:Int)) x) with
    | true=>exact⟨.inr (),rfl,rfl⟩
    | false=>
     simp only[cond_false]
     refine⟨_,aq (by unfold lim;simp;omega),?_,by simp[hl],fun m h=>?_⟩
     ·simp[hc,hd]
     ·rcases List.mem_append.1 h with h | h
      ·exact hm m h
      ·cases List.mem_singleton.1 h
       exact M.xH ht hx' hc)
 unfold F.nq M.bU M.dM M.iM
 have h0:Sm (.sl aH) ([]:List aH.D):=⟨Nat.zero_le _,fun _ h=>by cases h⟩
 have hpl:=hp.1
 cases M.bw LK
 ·exact⟨_,rfl,by simp,h0,fun h=>by cases h⟩
 cases M.inR (plan.length:Int) 1 6
 ·exact⟨_,rfl,by simp,h0,fun h=>by cases h⟩
 simp only[Bool.not_true,cond_true,cond_false,show ((false:Bool)==false)=true from rfl]
 rw[h1]
 match o with
 | .inl st=>
  simp only at h2
  have h3:=h2.1
  simp only[List.map_nil] at h3
  refine⟨_,rfl,?_,?_,fun _=>?_⟩
  ·rw[h3]
   rfl
  ·obtain⟨h4,h5⟩:=h2.2
   exact⟨show st.length<=1048576 by omega,fun m h=>⟨M.zY (h5 m h),trivial,trivial⟩⟩
  ·rw[h3]
 | .inr _=>
  simp only[List.map_nil] at h2
  refine⟨_,rfl,?_,h0,fun h=>by cases h⟩
  rw[h2]
  rfl
theorem HZ {LK:List ai.D} {plan:List ah.D} (ht:Sm (.sl ai) LK) (hp:Sm (.sl ah) plan):(M.makes LK plan).2=M.bU LK plan:=by
 obtain⟨r,h1,h2,_⟩:=tq ht hp
 unfold M.makes
 rw[h1]
 exact h2
theorem M.tQ {t:Ty} {xss:List (List t.D)} (h:Sm (.sl (.sl t)) xss) {f:List t.D->Int->Option (Sum Int Unit)} {f2:List t.D->List t.D->Option (Sum (List t.D) Unit)}
  (hf:∀z v,0<=v->v+(z.length:Int)<=1099511627776->f z v=some (.inl (v+(z.length:Int)))) (hf2:∀z v,v.length+z.length<=1099511627776->f2 z v=some (.inl (v++z))) :
  bH (aU f xss (0:Int)) (fun v:Int=>aa (0<=v) (aa (v<=1099511627776) (aG ([]:List t.D) (fun r:List t.D=>bH (aU f2 xss r) (fun v2:List t.D=>some v2) (fun _:Unit=>none))))) (fun _:Unit=>none)=some xss.flatten:=by
 have hlen:xss.flatten.length<=1099511627776:=by
  have h1:=M.zD (xss:=xss) (n:=1048576) (fun x hx=>(h.2 x hx).1)
  have h2:=h.1
  have:xss.length * 1048576<=1048576 * 1048576:=Nat.mul_le_mul_right _ h2
  omega
 have k1:∀(ys:List (List t.D)) (v:Int),0<=v->v+(ys.flatten.length:Int)<=1099511627776->aU f ys v=some (.inl (v+(ys.flatten.length:Int))):=by
  intro ys
  induction ys with
  | nil=>intro v _ _;show some (Sum.inl v)=some (Sum.inl (v+0));rw[Int.add_zero]
  | cons y ys ih=>
   intro v h0 hb
   rw[List.flatten_cons,List.length_append] at hb
   rw[ck,hf y v h0 (by omega),bE,ih _ (by omega) (by omega),List.flatten_cons,List.length_append]
   congr 2
   omega
 have k2:∀(ys:List (List t.D)) (v:List t.D),v.length+ys.flatten.length<=1099511627776->aU f2 ys v=some (.inl (v++ys.flatten)):=by
  intro ys
  induction ys with
  | nil=>intro v _;simp[aU]
  | cons y ys ih=>
   intro v hb
   rw[List.flatten_cons,List.length_append] at hb
   rw[ck,hf2 y v (by omega),bE,ih _ (by rw[List.length_append];omega),List.flatten_cons,List.append_assoc]
 rw[k1 xss 0 (by omega) (by omega),bE,aq (by omega),aq (by omega),bX,k2 xss [] (by simpa using hlen)]
 simp
end Go.AE
end
