/- What the functions compute is what is said. -/
import Derived.Test.YtmkgiaecgkicoaaGreatAeF
import Derived.Test.YtmkgiaecgkicoaaGreatAeMark
import Derived.Test.YtmkgiaecgkicoaaGreatAeEqI
import Derived.Test.YtmkgiaecgkicoaaGreatAeEqI
import Derived.Test.YtmkgiaecgkicoaaGreatAeEqI
import Derived.Test.YtmkgiaecgkicoaaGreatAeTB
namespace Go.AE
open Go Go.RowKit
set_option linter.unusedVariables false
set_option linter.unusedSimpArgs false
theorem F.vl (x:LC) (left:Int) (h_x:Ln (Ty.sl ai) x) (p0:0<=left) (p1:left<=1048576):F.mH x left=some (M.bE x.length left):=by
 unfold F.mH M.bE
 have h:=h_x.1
 rw[aJ (n:=left-(x.length:Int)) (by omega) (by omega)]
 by_cases h2:left-(x.length:Int)<0<;>simp[h2]
theorem F.yu (x:aa.D) (left:Int) (h_x:Ln aa x) (p0:0<=left) (p1:left<=1048576):F.pF x left=some (M.bM x left):=by
 unfold F.pF M.bM M.bE
 have h:BM x:=h_x.2.2.1
 unfold BM at h
 rw[aJ (n:=left-(x.2.2.1.size:Int)) (by omega) (by omega)]
 by_cases h2:left-(x.2.2.1.size:Int)<0<;>simp[h2]
theorem F.wF (x:LV) (left:Int) (h_x:Ln (Ty.sl aa) x) (p0:0<=left) (p1:left<=1048576):F.nH x left=some (M.szS M.bM x left):=by
 unfold F.nH
 exact M.zb M.dW h_x.1 p0 p1 (fun z l h0 h1=>by simp only[F.gP,af h0,af h1,aW])
theorem F.uw (x:LLV) (left:Int) (h_x:Ln (Ty.sl (Ty.sl aa)) x) (p0:0<=left) (p1:left<=1048576):F.mR x left=some (M.szS (M.szS M.bM) x left):=by
 unfold F.mR
 exact M.zb (M.lA M.dW) h_x.1 p0 p1 (fun z l h0 h1=>by simp only[F.gi,af h0,af h1,aW])
theorem F.yI (x:TTable.D) (left:Int) (h_x:Ln TTable x) (p0:0<=left) (p1:left<=1048576):F.oY x left=some (M.bH x left):=by
 unfold F.oY M.bH M.iP
 have le0:=M.iw (List.length x.1) left p0
 by_cases c0:M.bE (List.length x.1) left<0
 ·rw[decide_eq_true c0,if_pos c0]
  rfl
 rw[decide_eq_false c0,if_neg c0]
 simp only[cond_false]
 have g0:0<=M.bE (List.length x.1) left:=by omega
 repeat rw[af (by first | exact g0 | omega)]
 have le1:=(M.lA (M.lA M.dW)) x.2.1 (M.bE (List.length x.1) left) g0
 by_cases c1:(M.szS (M.szS M.bM)) x.2.1 (M.bE (List.length x.1) left)<0
 ·rw[decide_eq_true c1,if_pos c1]
  rfl
 rw[decide_eq_false c1,if_neg c1]
 try rfl
theorem F.we (x:LTb) (left:Int) (h_x:Ln (Ty.sl TTable) x) (p0:0<=left) (p1:left<=1048576):F.oA x left=some (M.szS M.bH x left):=by
 unfold F.oA
 exact M.zb M.tZ h_x.1 p0 p1 (fun z l h0 h1=>by simp only[F.gZ,af h0,af h1,aW])
theorem F.Al (x:(List Int)) (left:Int) (h_x:Ln (Ty.sl (Ty.int .i64)) x) (p0:0<=left) (p1:left<=1048576):F.rN x left=some (M.bE x.length left):=by
 unfold F.rN M.bE
 have h:=h_x.1
 rw[aJ (n:=left-(x.length:Int)) (by omega) (by omega)]
 by_cases h2:left-(x.length:Int)<0<;>simp[h2]
theorem F.zN (x:ax.D) (left:Int) (h_x:Ln ax x) (p0:0<=left) (p1:left<=1048576):F.qH x left=some (M.gy x left):=by
 unfold F.qH M.gy M.iP
 have le0:=M.dW x.2.2.1 left p0
 by_cases c0:M.bM x.2.2.1 left<0
 ·rw[decide_eq_true c0,if_pos c0]
  rfl
 rw[decide_eq_false c0,if_neg c0]
 try rfl
theorem F.yA (x:LPt) (left:Int) (h_x:Ln (Ty.sl ax) x) (p0:0<=left) (p1:left<=1048576):F.pI x left=some (M.szS M.gy x left):=by
 unfold F.pI
 exact M.zb M.sn h_x.1 p0 p1 (fun z l h0 h1=>by simp only[F.iG,af h0,af h1,aW])
theorem F.zf (x:TBond.D) (left:Int) (h_x:Ln TBond x) (p0:0<=left) (p1:left<=1048576):F.qN x left=some (M.dj x left):=by
 unfold F.qN M.dj M.iP
 have le0:=M.iw (List.length x.2.2.1) left p0
 by_cases c0:M.bE (List.length x.2.2.1) left<0
 ·rw[decide_eq_true c0,if_pos c0]
  rfl
 rw[decide_eq_false c0,if_neg c0]
 simp only[cond_false]
 have g0:0<=M.bE (List.length x.2.2.1) left:=by omega
 repeat rw[af (by first | exact g0 | omega)]
 have le1:=M.iw (List.length x.2.2.2.2.1) (M.bE (List.length x.2.2.1) left) g0
 by_cases c1:M.bE (List.length x.2.2.2.2.1) (M.bE (List.length x.2.2.1) left)<0
 ·rw[decide_eq_true c1,if_pos c1]
  rfl
 rw[decide_eq_false c1,if_neg c1]
 simp only[cond_false]
 have g1:0<=M.bE (List.length x.2.2.2.2.1) (M.bE (List.length x.2.2.1) left):=by omega
 repeat rw[af (by first | exact g1 | omega)]
 have le2:=(M.lA M.sn) x.2.2.2.2.2.2.1 (M.bE (List.length x.2.2.2.2.1) (M.bE (List.length x.2.2.1) left)) g1
 by_cases c2:(M.szS M.gy) x.2.2.2.2.2.2.1 (M.bE (List.length x.2.2.2.2.1) (M.bE (List.length x.2.2.1) left))<0
 ·rw[decide_eq_true c2,if_pos c2]
  rfl
 rw[decide_eq_false c2,if_neg c2]
 try rfl
theorem F.xZ (x:(List TBond.D)) (left:Int) (h_x:Ln (Ty.sl TBond) x) (p0:0<=left) (p1:left<=1048576):F.pq x left=some (M.szS M.dj x left):=by
 unfold F.pq
 exact M.zb M.wE h_x.1 p0 p1 (fun z l h0 h1=>by simp only[F.iI,af h0,af h1,aW])
theorem F.wG (x:ai.D)  : F.sV x=some x:=by
 rfl
theorem F.ve (x:LC) (h_x:Sm (Ty.sl ai) x):F.mK x=some x:=by
 unfold F.mK
 exact M.to_eq (t:=ai) (fun i v h0 h1 h2=>by simp only[F.gr,aY,af h2])
theorem F.xT (x:aa.D) (h_x:Sm aa x):F.uE x=some x:=by
 rfl
theorem F.wq (x:LV) (h_x:Sm (Ty.sl aa) x):F.nQ x=some x:=by
 unfold F.nQ
 exact M.to_eq (t:=aa) (fun i v h0 h1 h2=>by simp only[F.gR,aY,af h2])
theorem F.vo (x:LLV) (h_x:Sm (Ty.sl (Ty.sl aa)) x):F.mu x=some x:=by
 unfold F.mu
 exact M.to_eq (t:=(Ty.sl aa)) (fun i v h0 h1 h2=>by simp only[F.gp,aY,af h2])
theorem F.wP (x:LTb) (h_x:Sm (Ty.sl TTable) x):F.oa x=some x:=by
 unfold F.oa
 exact M.to_eq (t:=TTable) (fun i v h0 h1 h2=>by simp only[F.gS,aY,af h2])
theorem F.yZ (x:(List Int)) (h_x:Sm (Ty.sl (Ty.int .i64)) x):F.qW x=some x:=by
 unfold F.qW
 exact M.to_eq (t:=(Ty.int .i64)) (fun i v h0 h1 h2=>by simp only[F.jA,aY,af h2])
theorem F.Am (x:ax.D) (h_x:Sm ax x):F.xF x=some x:=by
 rfl
theorem F.yy (x:LPt) (h_x:Sm (Ty.sl ax) x):F.pX x=some x:=by
 unfold F.pX
 exact M.to_eq (t:=ax) (fun i v h0 h1 h2=>by simp only[F.iN,aY,af h2])
theorem F.xP (x:(List TBond.D)) (h_x:Sm (Ty.sl TBond) x):F.qt x=some x:=by
 unfold F.qt
 exact M.to_eq (t:=TBond) (fun i v h0 h1 h2=>by simp only[F.iL,aY,af h2])
theorem F.wI (x:ai.D) (y:ai.D) (p0:x=y):F.oc x y=some true:=by
 subst p0
 unfold F.oc
 simp[Ty.beq]
theorem F.uu (x:LC) (y:LC) (h_x:Sm (Ty.sl ai) x) (h_y:Sm (Ty.sl ai) y) (p0:x=y):F.mw x y=some true:=by
 subst p0
 unfold F.mw
 exact M.eq_eq (fun i h0 h1=>by simp only[F.gb,af h1,af True.intro,af trivial,decide_true,Bool.not_true,cond_false,M.di])
theorem F.xR (x:aa.D) (y:aa.D) (h_x:Sm aa x) (h_y:Sm aa y) (p0:x=y):F.qg x y=some true:=by
 subst p0
 unfold F.qg
 simp[Ty.beq,M.di,M.iX]
theorem F.vP (x:LV) (y:LV) (h_x:Sm (Ty.sl aa) x) (h_y:Sm (Ty.sl aa) y) (p0:x=y):F.od x y=some true:=by
 subst p0
 unfold F.od
 exact M.eq_eq (fun i h0 h1=>by simp only[F.gM,af h1,af True.intro,af trivial,decide_true,Bool.not_true,cond_false,M.di])
theorem F.vI (x:LLV) (y:LLV) (h_x:Sm (Ty.sl (Ty.sl aa)) x) (h_y:Sm (Ty.sl (Ty.sl aa)) y) (p0:x=y):F.mO x y=some true:=by
 subst p0
 unfold F.mO
 exact M.eq_eq (fun i h0 h1=>by simp only[F.gf,af h1,af True.intro,af trivial,decide_true,Bool.not_true,cond_false,M.di])
theorem F.ym (x:TTable.D) (y:TTable.D) (h_x:Sm TTable x) (h_y:Sm TTable y) (p0:x=y):F.qe x y=some true:=by
 subst p0
 unfold F.qe
 simp[Ty.beq,M.di,M.iX]
theorem F.vO (x:LTb) (y:LTb) (h_x:Sm (Ty.sl TTable) x) (h_y:Sm (Ty.sl TTable) y) (p0:x=y):F.nX x y=some true:=by
 subst p0
 unfold F.nX
 exact M.eq_eq (fun i h0 h1=>by simp only[F.gW,af h1,af True.intro,af trivial,decide_true,Bool.not_true,cond_false,M.di])
theorem F.Ac (x:(List Int)) (y:(List Int)) (h_x:Sm (Ty.sl (Ty.int .i64)) x) (h_y:Sm (Ty.sl (Ty.int .i64)) y) (p0:x=y):F.qR x y=some true:=by
 subst p0
 unfold F.qR
 exact M.eq_eq (fun i h0 h1=>by simp only[F.jC,af h1,af True.intro,af trivial,decide_true,Bool.not_true,cond_false,M.di])
theorem F.Af (x:ax.D) (y:ax.D) (h_x:Sm ax x) (h_y:Sm ax y) (p0:x=y):F.rC x y=some true:=by
 subst p0
 unfold F.rC
 simp[Ty.beq,M.di,M.iX]
theorem F.yx (x:LPt) (y:LPt) (h_x:Sm (Ty.sl ax) x) (h_y:Sm (Ty.sl ax) y) (p0:x=y):F.oU x y=some true:=by
 subst p0
 unfold F.oU
 exact M.eq_eq (fun i h0 h1=>by simp only[F.iH,af h1,af True.intro,af trivial,decide_true,Bool.not_true,cond_false,M.di])
theorem F.Au (x:TBond.D) (y:TBond.D) (h_x:Sm TBond x) (h_y:Sm TBond y) (p0:x=y):F.rL x y=some true:=by
 subst p0
 unfold F.rL
 simp[Ty.beq,M.di,M.iX]
theorem F.yo (x:(List TBond.D)) (y:(List TBond.D)) (h_x:Sm (Ty.sl TBond) x) (h_y:Sm (Ty.sl TBond) y) (p0:x=y):F.pG x y=some true:=by
 subst p0
 unfold F.pG
 exact M.eq_eq (fun i h0 h1=>by simp only[F.iE,af h1,af True.intro,af trivial,decide_true,Bool.not_true,cond_false,M.di])
theorem F.sP (x:LC) (k:Int) (h_x:Ln (Ty.sl ai) x) (p0:0<=k) (p1:k+(M.count (Ty.sl ai) x:Int)<=M.big):F.jV x k=some (M.mark (Ty.sl ai) x k,k+(M.count (Ty.sl ai) x:Int)):=by
 unfold F.jV
 refine M.pE (e:=ai) h_x p0 p1 (fun i v i0 i1 i2 k0 kb hs=>?_)
 obtain⟨k,a⟩:=v
 replace i2:i<(a.length:Int):=i2
 replace k0:0<=k:=k0
 have hc:M.count ai (nth (t:=ai) a i)=(1+(1+0)):=rfl
 replace kb:k+(M.count ai (nth (t:=ai) a i):Int)<=M.big:=kb
 rw[hc] at kb
 unfold M.big at kb
 have he:∀z:Ty.D ai,nth (t:=ai) (a.set i.toNat z) i=z:=fun z=>M.mZ i0 i2
 have w0:wrap64 (k+(1:Int))=k+(1:Int):=aJ (by omega) (by omega)
 have w1:wrap64 (k+(1:Int)+(1:Int))=k+(1:Int)+(1:Int):=aJ (by omega) (by omega)
 simp only[F.eV,aY,List.set_set,he,w0,w1]
 try simp only[aY,List.set_set,he,w0,w1]
 rw[hc]
 refine congrArg (fun q=>some (Sum.inl q)) (Prod.ext ?_ rfl)
 show k+(1:Int)+(1:Int)=_
 omega
theorem F.wW (k:Int) (p0:k<=M.big):F.nE k=some (M.eK k):=by
 unfold F.nE M.eK
 by_cases hk:k<=0
 ·rw[decide_eq_true hk,if_pos hk]
  rfl
 rw[decide_eq_false hk,if_neg hk,cond_false,M.Ef (fun v h63 hs=>by
  have hs':(strOf [(48+v.1.tmod 10) % 256]).size=1:=rfl
  unfold F.gV
  by_cases h0:0<v.1
  ·have e1:wrap64 ((48:Int)+v.1.tmod 10)=48+v.1.tmod 10:=by
    rw[Int.tmod_eq_emod_of_nonneg (by omega)]
    exact aJ (by omega) (by omega)
   have e2:wrap64 (v.1.tdiv 10)=v.1.tdiv 10:=by
    rw[Int.tdiv_eq_ediv_of_nonneg (by omega)]
    exact aJ (by omega) (by omega)
   rw[decide_eq_true h0,if_pos h0,e1,e2,af (by omega)]
   rfl
  ·rw[decide_eq_false h0,if_neg h0]
   rfl) 64 k _ (by unfold M.big at p0;omega) (by unfold M.big at p0;omega) (by decide)]
 show ag _ _=_
 rw[af]
 have:=M.sW k
 unfold M.eK at this
 rw[if_neg hk,ByteArray.size_append] at this
 have e1:(⟨#[109]⟩:ByteArray).size=1:=rfl
 omega
theorem F.tH (x:LV) (k:Int) (h_x:Ln (Ty.sl aa) x) (p0:0<=k) (p1:k+(M.count (Ty.sl aa) x:Int)<=M.big):F.kW x k=some (M.mark (Ty.sl aa) x k,k+(M.count (Ty.sl aa) x:Int)):=by
 unfold F.kW
 refine M.pE (e:=aa) h_x p0 p1 (fun i v i0 i1 i2 k0 kb hs=>?_)
 obtain⟨k,a⟩:=v
 replace i2:i<(a.length:Int):=i2
 replace k0:0<=k:=k0
 have hc:M.count aa (nth (t:=aa) a i)=(1+(1+(1+0))):=rfl
 replace kb:k+(M.count aa (nth (t:=aa) a i):Int)<=M.big:=kb
 rw[hc] at kb
 unfold M.big at kb
 have he:∀z:Ty.D aa,nth (t:=aa) (a.set i.toNat z) i=z:=fun z=>M.mZ i0 i2
 have w0:wrap64 (k+(1:Int))=k+(1:Int):=aJ (by omega) (by omega)
 have w1:wrap64 (k+(1:Int)+(1:Int))=k+(1:Int)+(1:Int):=aJ (by omega) (by omega)
 have w2:wrap64 (k+(1:Int)+(1:Int)+(1:Int))=k+(1:Int)+(1:Int)+(1:Int):=aJ (by omega) (by omega)
 simp only[F.fK,aY,List.set_set,he,w0,w1,w2]
 repeat rw[af (show k+(1:Int)+(1:Int)<=M.big by unfold M.big;omega)]
 try simp only[aY,List.set_set,he,w0,w1,w2]
 rw[hc]
 refine congrArg (fun q=>some (Sum.inl q)) (Prod.ext ?_ rfl)
 show k+(1:Int)+(1:Int)+(1:Int)=_
 omega
theorem F.sK (x:LLV) (k:Int) (h_x:Ln (Ty.sl (Ty.sl aa)) x) (p0:0<=k) (p1:k+(M.count (Ty.sl (Ty.sl aa)) x:Int)<=M.big):F.jS x k=some (M.mark (Ty.sl (Ty.sl aa)) x k,k+(M.count (Ty.sl (Ty.sl aa)) x:Int)):=by
 unfold F.jS
 refine M.pE (e:=(Ty.sl aa)) h_x p0 p1 (fun i v i0 i1 i2 k0 kb hs=>?_)
 obtain⟨k,a⟩:=v
 replace i2:i<(a.length:Int):=i2
 replace k0:0<=k:=k0
 have hc:M.count (Ty.sl aa) (nth (t:=(Ty.sl aa)) a i)=M.count (Ty.sl aa) (nth (t:=(Ty.sl aa)) a i):=rfl
 replace kb:k+(M.count (Ty.sl aa) (nth (t:=(Ty.sl aa)) a i):Int)<=M.big:=kb
 rw[hc] at kb
 unfold M.big at kb
 have he:∀z:Ty.D (Ty.sl aa),nth (t:=(Ty.sl aa)) (a.set i.toNat z) i=z:=fun z=>M.mZ i0 i2
 simp only[F.eX,aY,List.set_set,he]
 repeat rw[af (show Ln (Ty.sl aa) (nth (t:=(Ty.sl aa)) a i) from hs)]
 repeat rw[af (show (0:Int)<=k by omega)]
 repeat rw[af (show k+(M.count (Ty.sl aa) (nth (t:=(Ty.sl aa)) a i):Int)<=M.big by unfold M.big;omega)]
 all_goals rfl
theorem F.tS (x:LTb) (k:Int) (h_x:Ln (Ty.sl TTable) x) (p0:0<=k) (p1:k+(M.count (Ty.sl TTable) x:Int)<=M.big):F.kZ x k=some (M.mark (Ty.sl TTable) x k,k+(M.count (Ty.sl TTable) x:Int)):=by
 unfold F.kZ
 refine M.pE (e:=TTable) h_x p0 p1 (fun i v i0 i1 i2 k0 kb hs=>?_)
 obtain⟨k,a⟩:=v
 replace i2:i<(a.length:Int):=i2
 replace k0:0<=k:=k0
 have hc:M.count TTable (nth (t:=TTable) a i)=(M.count (Ty.sl ai) (nth (t:=TTable) a i).1+(M.count (Ty.sl (Ty.sl aa)) (nth (t:=TTable) a i).2.1+0)):=rfl
 replace kb:k+(M.count TTable (nth (t:=TTable) a i):Int)<=M.big:=kb
 rw[hc] at kb
 unfold M.big at kb
 have he:∀z:Ty.D TTable,nth (t:=TTable) (a.set i.toNat z) i=z:=fun z=>M.mZ i0 i2
 simp only[F.fF,aY,List.set_set,he]
 repeat rw[af (show Ln (Ty.sl ai) (nth (t:=TTable) a i).1 from hs.1)]
 repeat rw[af (show (0:Int)<=k by omega)]
 repeat rw[af (show k+(M.count (Ty.sl ai) (nth (t:=TTable) a i).1:Int)<=M.big by unfold M.big;omega)]
 repeat rw[af (show Ln (Ty.sl (Ty.sl aa)) (nth (t:=TTable) a i).2.1 from hs.2.1)]
 repeat rw[af (show (0:Int)<=k+(M.count (Ty.sl ai) (nth (t:=TTable) a i).1:Int) by omega)]
 repeat rw[af (show k+(M.count (Ty.sl ai) (nth (t:=TTable) a i).1:Int)+(M.count (Ty.sl (Ty.sl aa)) (nth (t:=TTable) a i).2.1:Int)<=M.big by unfold M.big;omega)]
 rw[hc]
 refine congrArg (fun q=>some (Sum.inl q)) (Prod.ext ?_ rfl)
 show k+(M.count (Ty.sl ai) (nth (t:=TTable) a i).1:Int)+(M.count (Ty.sl (Ty.sl aa)) (nth (t:=TTable) a i).2.1:Int)=_
 omega
theorem F.vN (x:(List Int)) (k:Int) (h_x:Ln (Ty.sl (Ty.int .i64)) x) (p0:0<=k) (p1:k+(M.count (Ty.sl (Ty.int .i64)) x:Int)<=M.big):F.nA x k=some (M.mark (Ty.sl (Ty.int .i64)) x k,k+(M.count (Ty.sl (Ty.int .i64)) x:Int)):=by
 unfold F.nA
 refine M.pE (e:=(Ty.int .i64)) h_x p0 p1 (fun i v i0 i1 i2 k0 kb hs=>?_)
 obtain⟨k,a⟩:=v
 replace i2:i<(a.length:Int):=i2
 replace k0:0<=k:=k0
 have hc:M.count (Ty.int .i64) (nth (t:=(Ty.int .i64)) a i)=1:=rfl
 replace kb:k+(M.count (Ty.int .i64) (nth (t:=(Ty.int .i64)) a i):Int)<=M.big:=kb
 rw[hc] at kb
 unfold M.big at kb
 have he:∀z:Ty.D (Ty.int .i64),nth (t:=(Ty.int .i64)) (a.set i.toNat z) i=z:=fun z=>M.mZ i0 i2
 have w0:wrap64 (k+(1:Int))=k+(1:Int):=aJ (by omega) (by omega)
 simp only[F.gY,aY,List.set_set,he,w0]
 try simp only[aY,List.set_set,he,w0]
 rw[hc]
 refine congrArg (fun q=>some (Sum.inl q)) (Prod.ext ?_ rfl)
 show k+(1:Int)=_
 omega
theorem F.uI (x:LPt) (k:Int) (h_x:Ln (Ty.sl ax) x) (p0:0<=k) (p1:k+(M.count (Ty.sl ax) x:Int)<=M.big):F.mm x k=some (M.mark (Ty.sl ax) x k,k+(M.count (Ty.sl ax) x:Int)):=by
 unfold F.mm
 refine M.pE (e:=ax) h_x p0 p1 (fun i v i0 i1 i2 k0 kb hs=>?_)
 obtain⟨k,a⟩:=v
 replace i2:i<(a.length:Int):=i2
 replace k0:0<=k:=k0
 have hc:M.count ax (nth (t:=ax) a i)=(1+(1+((1+(1+(1+0)))+0))):=rfl
 replace kb:k+(M.count ax (nth (t:=ax) a i):Int)<=M.big:=kb
 rw[hc] at kb
 unfold M.big at kb
 have he:∀z:Ty.D ax,nth (t:=ax) (a.set i.toNat z) i=z:=fun z=>M.mZ i0 i2
 have w0:wrap64 (k+(1:Int))=k+(1:Int):=aJ (by omega) (by omega)
 have w1:wrap64 (k+(1:Int)+(1:Int))=k+(1:Int)+(1:Int):=aJ (by omega) (by omega)
 have w2:wrap64 (k+(1:Int)+(1:Int)+(1:Int))=k+(1:Int)+(1:Int)+(1:Int):=aJ (by omega) (by omega)
 have w3:wrap64 (k+(1:Int)+(1:Int)+(1:Int)+(1:Int))=k+(1:Int)+(1:Int)+(1:Int)+(1:Int):=aJ (by omega) (by omega)
 have w4:wrap64 (k+(1:Int)+(1:Int)+(1:Int)+(1:Int)+(1:Int))=k+(1:Int)+(1:Int)+(1:Int)+(1:Int)+(1:Int):=aJ (by omega) (by omega)
 simp only[F.gm,aY,List.set_set,he,w0,w1,w2,w3,w4]
 repeat rw[af (show k+(1:Int)+(1:Int)+(1:Int)+(1:Int)<=M.big by unfold M.big;omega)]
 try simp only[aY,List.set_set,he,w0,w1,w2,w3,w4]
 rw[hc]
 refine congrArg (fun q=>some (Sum.inl q)) (Prod.ext ?_ rfl)
 show k+(1:Int)+(1:Int)+(1:Int)+(1:Int)+(1:Int)=_
 omega
theorem F.vr (x:(List TBond.D)) (k:Int) (h_x:Ln (Ty.sl TBond) x) (p0:0<=k) (p1:k+(M.count (Ty.sl TBond) x:Int)<=M.big):F.mG x k=some (M.mark (Ty.sl TBond) x k,k+(M.count (Ty.sl TBond) x:Int)):=by
 unfold F.mG
 refine M.pE (e:=TBond) h_x p0 p1 (fun i v i0 i1 i2 k0 kb hs=>?_)
 obtain⟨k,a⟩:=v
 replace i2:i<(a.length:Int):=i2
 replace k0:0<=k:=k0
 have hc:M.count TBond (nth (t:=TBond) a i)=(1+(1+(M.count (Ty.sl (Ty.int .i64)) (nth (t:=TBond) a i).2.2.1+(1+(M.count (Ty.sl (Ty.int .i64)) (nth (t:=TBond) a i).2.2.2.2.1+(1+(M.count (Ty.sl ax) (nth (t:=TBond) a i).2.2.2.2.2.2.1+0))))))):=rfl
 replace kb:k+(M.count TBond (nth (t:=TBond) a i):Int)<=M.big:=kb
 rw[hc] at kb
 unfold M.big at kb
 have he:∀z:Ty.D TBond,nth (t:=TBond) (a.set i.toNat z) i=z:=fun z=>M.mZ i0 i2
 have w0:wrap64 (k+(1:Int))=k+(1:Int):=aJ (by omega) (by omega)
 have w1:wrap64 (k+(1:Int)+(1:Int))=k+(1:Int)+(1:Int):=aJ (by omega) (by omega)
 have w3:wrap64 (k+(1:Int)+(1:Int)+(M.count (Ty.sl (Ty.int .i64)) (nth (t:=TBond) a i).2.2.1:Int)+(1:Int))=k+(1:Int)+(1:Int)+(M.count (Ty.sl (Ty.int .i64)) (nth (t:=TBond) a i).2.2.1:Int)+(1:Int):=aJ (by omega) (by omega)
 have w5:wrap64 (k+(1:Int)+(1:Int)+(M.count (Ty.sl (Ty.int .i64)) (nth (t:=TBond) a i).2.2.1:Int)+(1:Int)+(M.count (Ty.sl (Ty.int .i64)) (nth (t:=TBond) a i).2.2.2.2.1:Int)+(1:Int))=k+(1:Int)+(1:Int)+(M.count (Ty.sl (Ty.int .i64)) (nth (t:=TBond) a i).2.2.1:Int)+(1:Int)+(M.count (Ty.sl (Ty.int .i64)) (nth (t:=TBond) a i).2.2.2.2.1:Int)+(1:Int):=aJ (by omega) (by omega)
 simp only[F.gn,aY,List.set_set,he,w0,w1,w3,w5]
 repeat rw[af (show Ln (Ty.sl (Ty.int .i64)) (nth (t:=TBond) a i).2.2.1 from hs.2.2.1)]
 repeat rw[af (show (0:Int)<=k+(1:Int)+(1:Int) by omega)]
 repeat rw[af (show k+(1:Int)+(1:Int)+(M.count (Ty.sl (Ty.int .i64)) (nth (t:=TBond) a i).2.2.1:Int)<=M.big by unfold M.big;omega)]
 repeat rw[af (show Ln (Ty.sl (Ty.int .i64)) (nth (t:=TBond) a i).2.2.2.2.1 from hs.2.2.2.2.1)]
 repeat rw[af (show (0:Int)<=k+(1:Int)+(1:Int)+(M.count (Ty.sl (Ty.int .i64)) (nth (t:=TBond) a i).2.2.1:Int)+(1:Int) by omega)]
 repeat rw[af (show k+(1:Int)+(1:Int)+(M.count (Ty.sl (Ty.int .i64)) (nth (t:=TBond) a i).2.2.1:Int)+(1:Int)+(M.count (Ty.sl (Ty.int .i64)) (nth (t:=TBond) a i).2.2.2.2.1:Int)<=M.big by unfold M.big;omega)]
 repeat rw[af (show Ln (Ty.sl ax) (nth (t:=TBond) a i).2.2.2.2.2.2.1 from hs.2.2.2.2.2.2.1)]
 repeat rw[af (show (0:Int)<=k+(1:Int)+(1:Int)+(M.count (Ty.sl (Ty.int .i64)) (nth (t:=TBond) a i).2.2.1:Int)+(1:Int)+(M.count (Ty.sl (Ty.int .i64)) (nth (t:=TBond) a i).2.2.2.2.1:Int)+(1:Int) by omega)]
 repeat rw[af (show k+(1:Int)+(1:Int)+(M.count (Ty.sl (Ty.int .i64)) (nth (t:=TBond) a i).2.2.1:Int)+(1:Int)+(M.count (Ty.sl (Ty.int .i64)) (nth (t:=TBond) a i).2.2.2.2.1:Int)+(1:Int)+(M.count (Ty.sl ax) (nth (t:=TBond) a i).2.2.2.2.2.2.1:Int)<=M.big by unfold M.big;omega)]
 rw[hc]
 refine congrArg (fun q=>some (Sum.inl q)) (Prod.ext ?_ rfl)
 show k+(1:Int)+(1:Int)+(M.count (Ty.sl (Ty.int .i64)) (nth (t:=TBond) a i).2.2.1:Int)+(1:Int)+(M.count (Ty.sl (Ty.int .i64)) (nth (t:=TBond) a i).2.2.2.2.1:Int)+(1:Int)+(M.count (Ty.sl ax) (nth (t:=TBond) a i).2.2.2.2.2.2.1:Int)=_
 omega
theorem F.sJ (x:LC) (k:Int) (h_x:Ln (Ty.sl ai) x) (p0:0<=k) (p1:k+(M.count (Ty.sl ai) x:Int)<=M.big) (p2:M.mark (Ty.sl ai) x k=x):F.ke x k=some (k+(M.count (Ty.sl ai) x:Int)):=by
 unfold F.ke
 refine M.yL (e:=ai) p0 p1 p2 (fun z k k0 kb hm=>?_)
 have hc:M.count ai z=(1+(1+0)):=rfl
 rw[hc] at kb
 unfold M.big at kb
 have w0:wrap64 (k+(1:Int))=k+(1:Int):=aJ (by omega) (by omega)
 have f0:z.1=k:=(congrArg (fun q:Ty.D ai=>q.1) hm).symm
 have w1:wrap64 (k+(1:Int)+(1:Int))=k+(1:Int)+(1:Int):=aJ (by omega) (by omega)
 have f1:z.2.1=decide ((k+(1:Int)).tmod (3:Int)=(0:Int)):=(congrArg (fun q:Ty.D ai=>q.2.1) hm).symm
 simp only[F.eY,aY,w0,w1]
 rw[decide_eq_true f0,Bool.not_true,cond_false]
 rw[f1,show ∀b:Bool,Ty.beq Ty.bool b b=true from fun b=>by cases b<;>rfl,Bool.not_true,cond_false]
 rw[hc]
 refine congrArg (fun q=>some (Sum.inl q)) ?_
 omega
theorem F.tI (x:LV) (k:Int) (h_x:Ln (Ty.sl aa) x) (p0:0<=k) (p1:k+(M.count (Ty.sl aa) x:Int)<=M.big) (p2:M.mark (Ty.sl aa) x k=x):F.lB x k=some (k+(M.count (Ty.sl aa) x:Int)):=by
 unfold F.lB
 refine M.yL (e:=aa) p0 p1 p2 (fun z k k0 kb hm=>?_)
 have hc:M.count aa z=(1+(1+(1+0))):=rfl
 rw[hc] at kb
 unfold M.big at kb
 have w0:wrap64 (k+(1:Int))=k+(1:Int):=aJ (by omega) (by omega)
 have f0:z.1=k:=(congrArg (fun q:Ty.D aa=>q.1) hm).symm
 have w1:wrap64 (k+(1:Int)+(1:Int))=k+(1:Int)+(1:Int):=aJ (by omega) (by omega)
 have f1:z.2.1=k+(1:Int):=(congrArg (fun q:Ty.D aa=>q.2.1) hm).symm
 have w2:wrap64 (k+(1:Int)+(1:Int)+(1:Int))=k+(1:Int)+(1:Int)+(1:Int):=aJ (by omega) (by omega)
 have f2:z.2.2.1=M.eK (k+(1:Int)+(1:Int)):=(congrArg (fun q:Ty.D aa=>q.2.2.1) hm).symm
 simp only[F.fL,aY,w0,w1,w2]
 rw[decide_eq_true f0,Bool.not_true,cond_false]
 rw[decide_eq_true f1,Bool.not_true,cond_false]
 rw[af (show k+(1:Int)+(1:Int)<=M.big by unfold M.big;omega),decide_eq_true f2,Bool.not_true,cond_false]
 rw[hc]
 refine congrArg (fun q=>some (Sum.inl q)) ?_
 omega
theorem F.sI (x:LLV) (k:Int) (h_x:Ln (Ty.sl (Ty.sl aa)) x) (p0:0<=k) (p1:k+(M.count (Ty.sl (Ty.sl aa)) x:Int)<=M.big) (p2:M.mark (Ty.sl (Ty.sl aa)) x k=x):F.jQ x k=some (k+(M.count (Ty.sl (Ty.sl aa)) x:Int)):=by
 unfold F.jQ
 refine M.yL (e:=(Ty.sl aa)) p0 p1 p2 (fun z k k0 kb hm=>?_)
 have hc:M.count (Ty.sl aa) z=M.count (Ty.sl aa) z:=rfl
 rw[hc] at kb
 unfold M.big at kb
 have f0:M.mark (Ty.sl aa) z k=z:=hm
 simp only[F.eW,aY]
 rw[af (by omega),af (by unfold M.big;omega),af f0,decide_eq_false (by omega),cond_false]
theorem F.tU (x:LTb) (k:Int) (h_x:Ln (Ty.sl TTable) x) (p0:0<=k) (p1:k+(M.count (Ty.sl TTable) x:Int)<=M.big) (p2:M.mark (Ty.sl TTable) x k=x):F.kY x k=some (k+(M.count (Ty.sl TTable) x:Int)):=by
 unfold F.kY
 refine M.yL (e:=TTable) p0 p1 p2 (fun z k k0 kb hm=>?_)
 have hc:M.count TTable z=(M.count (Ty.sl ai) z.1+(M.count (Ty.sl (Ty.sl aa)) z.2.1+0)):=rfl
 rw[hc] at kb
 unfold M.big at kb
 have f0:M.mark (Ty.sl ai) z.1 k=z.1:=(congrArg (fun q:Ty.D TTable=>q.1) hm)
 have f1:M.mark (Ty.sl (Ty.sl aa)) z.2.1 (k+(M.count (Ty.sl ai) z.1:Int))=z.2.1:=(congrArg (fun q:Ty.D TTable=>q.2.1) hm)
 simp only[F.fG,aY]
 rw[af (by omega),af (by unfold M.big;omega),af f0,decide_eq_false (by omega),cond_false]
 rw[af (by omega),af (by unfold M.big;omega),af f1,decide_eq_false (by omega),cond_false]
 rw[hc]
 refine congrArg (fun q=>some (Sum.inl q)) ?_
 omega
theorem F.wj (x:TChange.D) (left:Int) (h_x:Ln TChange x) (p0:0<=left) (p1:left<=1048576):F.nB x left=some (M.ir x left):=by
 unfold F.nB M.ir M.iP
 have le0:=(M.lA M.dW) x.2.1 left p0
 by_cases c0:(M.szS M.bM) x.2.1 left<0
 ·rw[decide_eq_true c0,if_pos c0]
  rfl
 rw[decide_eq_false c0,if_neg c0]
 try rfl
theorem F.Cm (n:Int) (low:Int) (high:Int)  : F.vY n low high=some (M.inR n low high):=by
 unfold F.vY M.inR
 cases decide (low<=n)<;>rfl
theorem F.vu (columns:LC) (h_columns:Sm (Ty.sl ai) columns):F.mD columns=some (M.bC columns):=by
 unfold F.mD M.bC
 rw[fe M.dO () (fun x _=>by simp only[F.gu,fV,aW]<;>rfl),show decide ((columns.length:Int)<=4)=decide (columns.length<=4) from decide_eq_decide.2 (by omega)]
 cases columns.all M.dO<;>simp
theorem F.zL (s:ByteArray) (h_s:Sm Ty.str s):F.rQ s=some (M.text s):=by
 unfold F.rQ M.text M.lower
 have key:∀c:Int,(cond ((decide (c<97))==false) (cond (decide (122<c)) (some (Sum.inr ())) (some (Sum.inl ()))) (some (Sum.inr ())):Option (Sum Unit Unit))=some (cond (M.inR c 97 122) (.inl ()) (.inr ())):=by
  intro c
  unfold M.inR
  by_cases h2:c<97
  ·simp[h2,show ¬ 97<=c by omega]
  ·by_cases h3:122<c
   ·simp[h2,h3,show 97<=c by omega,show ¬c<=122 by omega]
   ·simp[h2,h3,show 97<=c by omega,show c<=122 by omega]
 rw[fe (fun i=>M.inR (nth (t:=.int .u8) (bI s) i) 97 122) () (fun i hi=>by
  obtain⟨h0,h1⟩:=cR.1 hi
  simp only[F.jo,Ch h0 h1]
  exact key _)]
 rw[<-lD,FN (t:=.int .u8) (bI s) (fun n=>M.inR n 97 122),show decide (((bI s).length:Int)<=6)=decide ((bI s).length<=6) from decide_eq_decide.2 (by omega)]
 cases (bI s).all fun n=>M.inR n 97 122<;>simp
theorem F.xQ (v:aa.D) (h_v:Sm aa v):F.pW v=some (M.aO v):=by
 unfold F.pW M.aO
 simp only[ff]
 simp only[aW]
theorem F.Bi (row:LV) (h_row:Sm (Ty.sl aa) row):F.tC row=some (M.oS row):=by
 unfold F.tC M.oS
 rw[fe M.aO () (fun x _=>by simp only[F.kj,fV,aW]<;>rfl),show decide ((row.length:Int)<=4)=decide (row.length<=4) from decide_eq_decide.2 (by omega)]
 cases row.all M.aO<;>simp
theorem F.yB (columns:LC) (row:LV) (h_columns:Sm (Ty.sl ai) columns) (h_row:Sm (Ty.sl aa) row):F.oW columns row=some (M.bG columns row):=by
 unfold F.oW M.bG
 cases M.bC columns
 ·rfl
 cases M.oS row
 ·rfl
 by_cases hl:row.length=columns.length
 ·rw[fe (M.tJ columns row) () (fun i hi=>by
   obtain⟨h0,h1⟩:=cR.1 hi
   have h2:i<(columns.length:Int):=by omega
   simp only[F.iK,af h2]
   unfold M.tJ
   cases decide ((nth (t:=aa) row i).1=(nth (t:=ai) columns i).1)<;>cases decide ((nth (t:=aa) row i).1=(0:Int))<;>cases (nth (t:=ai) columns i).2.1<;>rfl)]
  simp only[hl,Bool.not_true,decide_true,Bool.true_and,cond_true,cond_false]
  cases (aH 0 (columns.length:Int)).all (M.tJ columns row)<;>rfl
 ·have h3:¬(row.length:Int)=(columns.length:Int):=by omega
  simp[hl,h3]
theorem F.zY (columns:LC) (rows:LLV) (h_columns:Sm (Ty.sl ai) columns) (h_rows:Sm (Ty.sl (Ty.sl aa)) rows):F.rE columns rows=some (M.fX columns rows):=by
 unfold F.rE M.fX
 rw[fe (M.bG columns) () (fun x _=>by simp only[F.ji,fV,aW])]
 cases rows.all (M.bG columns)<;>simp
theorem F.wV (tables:LTb) (h_tables:Sm (Ty.sl TTable) tables):F.oz tables=some (M.aA tables):=by
 unfold F.oz M.aA
 rw[fe M.cN () (fun x _=>by
  simp only[F.gX]
  unfold M.cN
  by_cases h:x.2.1.length<=6
  ·have h2:¬(6:Int)<(x.2.1.length:Int):=by omega
   simp only[h2,h,decide_true,decide_false,Bool.true_and]
   cases M.fX x.1 x.2.1<;>rfl
  ·have h2:(6:Int)<(x.2.1.length:Int):=by omega
   simp[h2,h]),show decide ((tables.length:Int)<=3)=decide (tables.length<=3) from decide_eq_decide.2 (by omega)]
 cases tables.all M.cN<;>simp
theorem F.tN (columns:LC) (list:(List Int)) (h_columns:Sm (Ty.sl ai) columns) (h_list:Sm (Ty.sl (Ty.int .i64)) list):F.lE columns list=some (M.bT columns list):=by
 unfold F.lE M.bT
 rw[fe (fun n=>M.inR n 0 ((columns.length:Int)-1)) () (fun x _=>by simp only[F.fN,fV,aW,lW _ h_columns.1])]
 cases list.all fun n=>M.inR n 0 ((columns.length:Int)-1)<;>simp
theorem F.zR (columns:LC) (kinds:(List Int)) (p:ax.D) (h_columns:Sm (Ty.sl ai) columns) (h_kinds:Sm (Ty.sl (Ty.int .i64)) kinds) (h_p:Sm ax p) (p0:kinds.length<=1000):F.kM columns kinds p=some (M.wY columns kinds p):=by
 obtain⟨o,s,e,_⟩:=vf (columns:=columns) p p0 h_columns.1
 unfold M.wY
 rw[e]
 rfl
theorem F.wz (columns:LC) (e:LPt) (h_columns:Sm (Ty.sl ai) columns) (h_e:Sm (Ty.sl ax) e):F.nY columns e=some (M.dg columns e):=by
 unfold F.nY M.dg
 cases M.bC columns
 ·rfl
 by_cases hl:e.length<=12
 ·rw[decide_eq_false (show ¬(12:Int)<(e.length:Int) by omega),decide_eq_true hl]
  obtain⟨o,s,h1,h2⟩:=AB (columns:=columns) (E:=e) (by omega) h_columns.1 e.length 0 [] (by omega) (by omega) (by simp;omega)
  rw[show (0:Int)=((0:Nat):Int) from rfl,h1]
  rw[List.drop_zero] at h2
  unfold nU at h2
  cases hk:M.js columns e [] with
  | none=>
   rw[hk] at h2
   simp only at h2
   subst h2
   rfl
  | some s'=>
   rw[hk] at h2
   obtain⟨rfl,rfl⟩:=h2
   match s with
   | []=>rfl
   | [a]=>exact af (by simp)
   | a::b::l=>
    have:¬((a::b::l).length:Int)=1:=by simp;omega
    simp only[Option.bind_some,this,decide_false]
    rfl
 ·rw[decide_eq_true (show (12:Int)<(e.length:Int) by omega),decide_eq_false hl]
  rfl
theorem F.zJ (tables:LTb) (b:TBond.D) (h_tables:Sm (Ty.sl TTable) tables) (h_b:Sm TBond b):F.qJ tables b=some (M.aA tables&&M.aN tables b):=by
 unfold F.qJ M.aN
 rw[lW _ h_tables.1]
 cases M.aA tables
 ·rfl
 cases hin:M.inR b.2.1 0 ((tables.length:Int)-1)
 ·rfl
 simp only[ff]
 simp only[DB,Dy,HE,Fx]
 by_cases e1:b.1=(1:Int)
 ·simp only[e1,decide_true,cond_true,Bool.not_true,Bool.true_and,show ((false:Bool)==false)=true from rfl,cond_false]
 by_cases e3:b.1=(3:Int)
 ·simp only[e3,decide_true,decide_false,cond_true,cond_false,Int.reduceEq,Bool.not_true,Bool.true_and,show ((false:Bool)==false)=true from rfl]
 by_cases e2:b.1=(2:Int)
 ·simp only[e2,decide_true,decide_false,cond_true,cond_false,Int.reduceEq,Bool.not_true,Bool.true_and,show ((false:Bool)==false)=true from rfl]
  cases hof:M.inR b.2.2.2.1 0 ((tables.length:Int)-1)
  ·rfl
  cases hl1:M.bT (nth (t:=TTable) tables b.2.1).1 b.2.2.1
  ·rfl
  cases hl2:M.bT (nth (t:=TTable) tables b.2.2.2.1).1 b.2.2.2.2.1
  ·rfl
  by_cases hle:b.2.2.1.length=b.2.2.2.2.1.length
  ·cases he:decide (b.2.2.2.2.2.2.1.length=0)
   ·simp[hle]
   simp only[hle,decide_true,Bool.not_true,Bool.not_false,Bool.true_and,cond_true,cond_false]
   rw[<-hle]
   rw[fe (fun i=>decide ((nth (t:=ai) (nth (t:=TTable) tables b.2.1).1 (nth (t:=.int .i64) b.2.2.1 i)).1=(nth (t:=ai) (nth (t:=TTable) tables b.2.2.2.1).1 (nth (t:=.int .i64) b.2.2.2.2.1 i)).1)) () (fun i hi=>by
    obtain⟨i0,i1⟩:=cR.1 hi
    have a1:=oI hl1 (BS (t:=.int .i64) hi)
    have i2:i<(b.2.2.2.2.1.length:Int):=by omega
    have a2:=oI hl2 (dD (t:=.int .i64) i0 i2)
    have a3:=wC hof
    simp only[F.jj]
    rw[af a1.1,af a1.2,af a3.1,af (Int.lt_of_le_sub_one a3.2),af i2,af a2.1,af a2.2]
    rw[fV,aW])]
   simp only[Bool.not_true,Bool.true_and,show ((false:Bool)==false)=true from rfl,cond_true,cond_false]
   cases (aH 0 (b.2.2.1.length:Int)).all fun i=>decide ((nth (t:=ai) (nth (t:=TTable) tables b.2.1).1 (nth (t:=.int .i64) b.2.2.1 i)).1=(nth (t:=ai) (nth (t:=TTable) tables b.2.2.2.1).1 (nth (t:=.int .i64) b.2.2.2.2.1 i)).1)<;>rfl
  ·simp[hle,Ne.symm hle]
 ·simp[e1,e2,e3]
theorem F.xY (truth:Int)  : F.qn truth=some (M.valueOf truth):=by
 unfold F.qn M.valueOf M.inR
 by_cases h0:truth=0
 ·subst h0;rfl
 ·by_cases h1:truth=1
  ·subst h1;rfl
  ·have h2:¬(0<=truth/\truth<=1):=by omega
   simp only[h0,h1,decide_false]
   by_cases h3:0<=truth
   ·have h4:¬truth<=1:=by omega
    simp[h3,h4]
   ·simp[h3]
theorem F.AJ (a:aa.D) (b:aa.D) (h_a:Sm aa a) (h_b:Sm aa b):F.tV a b=some (M.sum a b):=by
 unfold F.tV M.sum
 have e:(0:Int)-9999=-9999:=rfl
 cases decide (a.1=(0:Int))<;>cases decide (b.1=(0:Int))<;>cases M.inR (wrap64 (a.2.1+b.2.1)) (-9999) 9999<;>rfl
theorem F.zH (b:Bool)  : F.qG b=some (M.bool b):=by
 unfold F.qG M.bool
 rw[aW]
theorem F.zB (a:Int) (b:Int)  : F.rD a b=some (M.less a b):=by
 unfold F.rD M.less
 rw[aW]
theorem F.Bd (a:ByteArray) (b:ByteArray) (h_a:Sm Ty.str a) (h_b:Sm Ty.str b):F.tG a b=some (M.uN a b):=by
 unfold F.tG M.uN
 simp only[aW]
theorem F.tX (a:aa.D) (b:aa.D) (h_a:Sm aa a) (h_b:Sm aa b):F.kS a b=some (M.dK a b):=by
 unfold F.kS M.dK
 cases M.aO a
 ·rfl
 cases M.aO b
 ·rfl
 unfold M.order M.less M.uZ
 by_cases h1:a.1=b.1
 ·by_cases h2:a.2.1=b.2.1
  ·simp[h1,h2,M.orI]
   generalize M.uN a.2.2.1 b.2.2.1=c
   by_cases hc:c=0<;>simp[hc]
  ·rcases Int.lt_or_gt_of_ne h2 with h | h
   ·have h3:¬b.2.1<a.2.1:=Int.lt_asymm h
    simp[h1,h2,h,h3,M.orI]
    rfl
   ·have h3:¬a.2.1<b.2.1:=Int.lt_asymm h
    simp[h1,h2,h,h3,M.orI]
    rfl
 ·rcases Int.lt_or_gt_of_ne h1 with h | h
  ·have h3:¬b.1<a.1:=Int.lt_asymm h
   simp[h1,h,h3,M.orI]
   rfl
  ·have h3:¬a.1<b.1:=Int.lt_asymm h
   simp[h1,h,h3,M.orI]
   rfl
theorem F.ya (kind:Int) (a:aa.D) (b:aa.D) (h_a:Sm aa a) (h_b:Sm aa b):F.ql kind a b=some (M.compare kind a b):=by
 unfold F.ql M.compare M.dK M.Av
 cases M.inR kind 1 4
 ·rfl
 cases M.aO a
 ·rfl
 cases M.aO b
 ·rfl
 cases decide (a.1=(0:Int))<;>cases decide (b.1=(0:Int))<;>cases decide (a.1=b.1)<;>cases decide (kind=1)<;>cases decide (kind=2)<;>cases decide (kind=3)<;>rfl
theorem F.yc (n:Int)  : F.vz n=some (M.inR n 0 2):=by
 rfl
theorem F.zv (n:Int) (p0:M.inR n 0 2=true):F.ri n=some (M.sure n):=by
 have h3:n=0\/n=1\/n=2:=by
  unfold M.inR at p0
  simp at p0
  omega
 rcases h3 with rfl | rfl | rfl<;>(unfold F.ri;(repeat rw[af (by decide)]);rfl)
theorem F.AH (a:Int) (b:Int)  : F.tR a b=some (M.rj a b):=by
 unfold F.tR M.rj M.fold
 cases ha:M.inR a 0 2
 ·rfl
 cases hb:M.inR b 0 2
 ·rfl
 have h3:∀n,M.inR n 0 2=true->n=0\/n=1\/n=2:=by
  intro n hn
  unfold M.inR at hn
  simp at hn
  omega
 rcases h3 a ha with rfl | rfl | rfl<;>rcases h3 b hb with rfl | rfl | rfl<;>(repeat rw[af (by rfl)])<;>rfl
theorem F.yC (v:aa.D) (h_v:Sm aa v):F.pM v=some (M.bU v):=by
 unfold F.pM M.bU
 cases hv:M.aO v
 ·rfl
 simp only[Bool.not_true,cond_true,cond_false]
 unfold M.aO at hv
 by_cases h0:v.1=(0:Int)
 ·simp[h0]
 ·by_cases h1:v.1=(1:Int)
  ·simp[h1]
  ·by_cases h2:v.1=(2:Int)
   ·simp[h2]
   ·by_cases h3:v.1=(3:Int)
    ·simp[h3]
    ·simp[h0,h1,h2,h3] at hv
theorem F.Cz (a:Int) (b:Int)  : F.vS a b=some (M.zE a b):=by
 unfold F.vS M.zE M.fold
 cases ha:M.inR a 0 2
 ·rfl
 cases hb:M.inR b 0 2
 ·rfl
 have h3:∀n,M.inR n 0 2=true->n=0\/n=1\/n=2:=by
  intro n hn
  unfold M.inR at hn
  simp at hn
  omega
 rcases h3 a ha with rfl | rfl | rfl<;>rcases h3 b hb with rfl | rfl | rfl<;>(repeat rw[af (by rfl)])<;>rfl
theorem F.AQ (a:Int)  : F.tD a=some (M.rK a):=by
 unfold F.tD M.rK
 cases ha:M.inR a 0 2
 ·unfold M.inR at ha
  simp at ha
  have h0:¬a=0:=by omega
  have h1:¬a=1:=by omega
  have h2:¬a=2:=by omega
  simp[h0,h1,h2]
 ·have h3:a=0\/a=1\/a=2:=by
   unfold M.inR at ha
   simp at ha
   omega
  rcases h3 with rfl | rfl | rfl<;>(repeat rw[af (by rfl)])<;>rfl
theorem F.Cx (row:LV) (values:LV) (p:ax.D) (h_row:Sm (Ty.sl aa) row) (h_values:Sm (Ty.sl aa) values) (h_p:Sm ax p) (p0:values.length<=1000) (p1:M.takes p<=(values.length:Int)) (p2:1<=p.1/\p.1<=8) (p3:M.nr p row.length):F.rY row values p=some (M.eM row values p):=by
 exact EH p values (show Sm ax p from h_p) h_values p0 p1 p2 p3
theorem F.yz (row:LV) (e:LPt) (h_row:Sm (Ty.sl aa) row) (h_e:Sm (Ty.sl ax) e) (p0:M.jB row.length e):F.pJ row e=some (M.ep row e):=by
 unfold F.pJ M.ep
 obtain⟨h1,h2⟩:=Ax (f:=F.ew row e) h_row (fun p st hp hs hl h1 hk hc=>Bh p st hs hl h1 hk hc) e [] h_e.2 (wD aa) (by simp;have:=p0.1;omega) p0.2
 rw[h1,bL,af (by omega)]
theorem F.yH (row:LV) (list:(List Int)) (h_row:Sm (Ty.sl aa) row) (h_list:Sm (Ty.sl (Ty.int .i64)) list) (p0:M.eJ row list):F.qh row list=some (M.taken row list):=by
 unfold F.qh
 rw[vB (fun i=>nth (t:=aa) row i) (fun x hx s hs=>by
  have hl:=h_list.1
  obtain⟨h0,h1⟩:=p0 x hx
  simp only[F.iJ]
  rw[af h0,af h1,af (by unfold lim;simp;omega)])]
 rfl
theorem F.yE (values:LV) (h_values:Sm (Ty.sl aa) values):F.pe values=some (M.kB values):=by
 unfold F.pe M.kB
 rw[GS (fun v:aa.D=>decide (v.1=(0:Int))) () (fun x _=>by simp only[F.iD,aW])]
 cases values.any fun v:aa.D=>decide (v.1=(0:Int))<;>rfl
theorem F.zx (a:LV) (b:LV) (h_a:Sm (Ty.sl aa) a) (h_b:Sm (Ty.sl aa) b):F.xJ a b=some (decide (a=b)):=by
 exact DK (t:=aa) (fun i h0 h1 h2=>by simp only[F.jy,af h2,fV,aW,EX (t:=aa) rfl])
theorem F.uY (tables:LTb) (b:TBond.D) (h_tables:Sm (Ty.sl TTable) tables) (h_b:Sm TBond b) (p0:(M.aA tables&&M.aN tables b)=true):F.mT tables b=some (M.broken tables b):=by
 obtain⟨ht,hb⟩:=Bool.and_eq_true_iff.1 p0
 obtain⟨⟨b0,b1⟩,hk⟩:=qc hb
 have htm:=dD (t:=TTable) b0 b1
 unfold F.mT M.broken
 repeat rw[af (by first | exact b0 | exact b1)]
 rw[BP (M.breaks tables b) (fun i hi=>by
  have hrm:=BS (t:=.sl aa) hi
  obtain⟨n0,n1⟩:=cR.1 hi
  have hrow:=yR ht htm hrm
  have hlen:(nth (t:=TTable) tables b.2.1).2.1.length<=1048576:=(ay h_tables b.2.1).2.1.1
  simp only[F.gq]
  unfold M.breaks M.dZ
  rcases hk with⟨e1,hl⟩ | ⟨e3,he⟩ | ⟨e2,hl,ho,hl2⟩
  ·have hir:=rz ht htm hrm hl
   simp only[e1,decide_true,decide_false,cond_true,cond_false,Int.reduceEq,aY]
   rw[af hir]
   cases hn:M.kB (M.taken (nth (t:=.sl aa) (nth (t:=TTable) tables b.2.1).2.1 i) b.2.2.1)
   ·rw[FH i (fun j=>decide (M.taken (nth (t:=.sl aa) (nth (t:=TTable) tables b.2.1).2.1 j) b.2.2.1=M.taken (nth (t:=.sl aa) (nth (t:=TTable) tables b.2.1).2.1 i) b.2.2.1)) (by omega) (fun j j0=>by
     unfold F.eG
     rw[hn]
     by_cases hj:j<i
     ·have hjm:=dD (t:=.sl aa) (xs:=(nth (t:=TTable) tables b.2.1).2.1) j0 (by omega)
      rw[decide_eq_true hj,if_pos hj]
      simp only[Bool.not_false,cond_true,show ((true:Bool)==true)=true from rfl,aY]
      rw[af j0,af (show j<((nth (t:=TTable) tables b.2.1).2.1.length:Int) by omega),af (rz ht htm hjm hl)]
      generalize decide (M.taken (nth (t:=.sl aa) (nth (t:=TTable) tables b.2.1).2.1 j) b.2.2.1=M.taken (nth (t:=.sl aa) (nth (t:=TTable) tables b.2.1).2.1 i) b.2.2.1)=c
      cases c<;>rfl
     ·rw[decide_eq_false hj,if_neg hj]
      rfl) i.toNat 0 (by omega) (by omega)]
    rw[Hs (t:=.sl aa) (nth (t:=TTable) tables b.2.1).2.1 (fun r=>decide (M.taken r b.2.2.1=M.taken (nth (t:=.sl aa) (nth (t:=TTable) tables b.2.1).2.1 i) b.2.2.1)) n0 (by omega)]
    generalize ((nth (t:=TTable) tables b.2.1).2.1.take i.toNat).any (fun r=>decide (M.taken r b.2.2.1=M.taken (nth (t:=.sl aa) (nth (t:=TTable) tables b.2.1).2.1 i) b.2.2.1))=c
    cases c<;>rfl
   ·rw[bP]
    unfold F.eG
    rw[hn]
    cases decide ((0:Int)<i)<;>rfl
  ·have hs:=Br (columns:=(nth (t:=TTable) tables b.2.1).1) (e:=b.2.2.2.2.2.2.1) (by rw[he];decide)
   rw[<-hrow] at hs
   simp only[e3,decide_true,decide_false,cond_true,cond_false,Int.reduceEq,aY]
   rw[af hs,aW]
  ·have hir:=rz ht htm hrm hl
   have hom:=dD (t:=TTable) ho.1 ho.2
   have hlen2:(nth (t:=TTable) tables b.2.2.2.1).2.1.length<=1048576:=(ay h_tables b.2.2.2.1).2.1.1
   simp only[e2,decide_true,decide_false,cond_true,cond_false,Int.reduceEq,aY]
   rw[af hir]
   rw[De ((nth (t:=TTable) tables b.2.2.2.1).2.1.length:Int) (fun j=>decide (M.taken (nth (t:=.sl aa) (nth (t:=TTable) tables b.2.2.2.1).2.1 j) b.2.2.2.2.1=M.taken (nth (t:=.sl aa) (nth (t:=TTable) tables b.2.1).2.1 i) b.2.2.1)) (by omega) (fun f j j0=>by
    unfold F.gd
    simp only
    rw[af ho.1,af ho.2]
    by_cases hj:j<((nth (t:=TTable) tables b.2.2.2.1).2.1.length:Int)
    ·have hjm:=dD (t:=.sl aa) (xs:=(nth (t:=TTable) tables b.2.2.2.1).2.1) j0 hj
     rw[decide_eq_true hj,if_pos hj]
     cases f with
     | true=>rfl
     | false=>
      simp only[Bool.not_false,cond_true,cond_false,show ((true:Bool)==true)=true from rfl,aY]
      rw[af j0]
      repeat rw[af (by first | exact hj | exact rz ht hom hjm hl2)]
    ·rw[decide_eq_false hj,if_neg hj]
     rfl) _ _ 0 rfl (by omega)]
   rw[BN (t:=.sl aa) (nth (t:=TTable) tables b.2.2.2.1).2.1 (fun r=>decide (M.taken r b.2.2.2.2.1=M.taken (nth (t:=.sl aa) (nth (t:=TTable) tables b.2.1).2.1 i) b.2.2.1))]
   generalize (nth (t:=TTable) tables b.2.2.2.1).2.1.any (fun r=>decide (M.taken r b.2.2.2.2.1=M.taken (nth (t:=.sl aa) (nth (t:=TTable) tables b.2.1).2.1 i) b.2.2.1))=c
   generalize M.kB (M.taken (nth (t:=.sl aa) (nth (t:=TTable) tables b.2.1).2.1 i) b.2.2.1)=d
   cases c<;>cases d<;>rfl)]
 unfold M.dZ
 cases (aH 0 ((nth (t:=TTable) tables b.2.1).2.1.length:Int)).find? (M.breaks tables b)<;>rfl
theorem F.tT (tables:LTb) (b:TBond.D) (h_tables:Sm (Ty.sl TTable) tables) (h_b:Sm TBond b):F.kR tables b=some (M.eS tables b):=by
 unfold F.kR M.eS
 cases h:(M.aA tables&&M.aN tables b)<;>rfl
theorem F.uB (tables:LTb) (bonds:(List TBond.D)) (h_tables:Sm (Ty.sl TTable) tables) (h_bonds:Sm (Ty.sl TBond) bonds):F.mN tables bonds=some (M.cU tables bonds):=by
 unfold F.mN M.cU
 rw[fe (fun b=>decide (M.eS tables b=-1)) () (fun x _=>by simp only[F.gv,fV,aW]),show decide ((bonds.length:Int)<=4)=decide (bonds.length<=4) from decide_eq_decide.2 (by omega)]
 cases bonds.all fun b=>decide (M.eS tables b=-1)<;>simp
theorem F.AR (row:LV) (h_row:Sm (Ty.sl aa) row):F.zV row=some row:=by
 rfl
theorem F.vF (tables:LTb) (h_tables:Sm (Ty.sl TTable) tables):F.mB tables=some tables:=by
 unfold F.mB
 rw[M.yF (t:=TTable) tables (fun i s i0 i1 hs=>by
  have hl:=h_tables.1
  have hr:(nth (t:=TTable) tables i).2.1.length<=1048576:=(ay h_tables i).2.1.1
  unfold F.ga
  rw[M.Ea (t:=.sl aa) (nth (t:=TTable) tables i).2.1 (fun j w j0 j1 hw=>by
   unfold F.ez
   simp only[aY]
   rw[af i0,af i1,decide_eq_true j1,cond_true,af j0,af j1,af (by unfold lim;simp;omega),aJ (n:=j+1) (by omega) (by omega)]) (fun j w j0 j1=>by
   unfold F.ez
   simp only
   rw[af i0,af i1,decide_eq_false (Int.not_lt.2 j1),cond_false])]
  show ag _ _=_
  rw[af (by unfold lim;simp;omega)]
  rfl)]
 rfl
theorem F.yw (rows:LLV) (row:LV) (h_rows:Sm (Ty.sl (Ty.sl aa)) rows) (h_row:Sm (Ty.sl aa) row):F.qb rows row=some (M.cE rows row:Int):=by
 unfold F.qb M.cE
 have hl:=h_rows.1
 have key:∀(l:List (List aa.D)) (v:Int),0<=v->v+(l.length:Int)<=1048576->aK (F.fR rows row) l v=some (.inl (v+(l.countP (fun r=>decide (r=row)):Int))):=by
  intro l
  induction l with
  | nil=>intro v _ _;show some (Sum.inl v)=some (Sum.inl (v+0));rw[Int.add_zero]
  | cons x l ih=>
   intro v h0 hb
   simp only[List.length_cons] at hb
   rw[cq,List.countP_cons,show F.fR rows row x v=cond (decide (x=row)) (some (.inl (wrap64 (v+(1:Int))))) (some (.inl v)) from rfl]
   cases decide (x=row) with
   | true=>
    rw[cond_true,aJ (n:=v+(1:Int)) (by omega) (by omega),bL,ih _ (by omega) (by omega)]
    congr 2
    simp
    omega
   | false=>
    rw[cond_false,bL,ih _ h0 (by omega)]
    congr 2
 rw[key rows 0 (by omega) (by omega),bL,Int.zero_add]
theorem F.wZ (tables:LTb) (c:TChange.D) (h_tables:Sm (Ty.sl TTable) tables) (h_c:Sm TChange c):F.nD tables c=some (M.aV tables c):=by
 unfold F.nD M.aV
 have:=h_tables.1
 rw[aJ (n:=(tables.length:Int)-(1:Int)) (by omega) (by omega),M.Ir]
 cases M.aA tables<;>cases M.inR c.1 0 ((tables.length:Int)-1)<;>cases M.bG (nth (t:=TTable) tables c.1).1 c.2.1<;>cases c.2.2.1<;>cases decide (((nth (t:=TTable) tables c.1).2.1.length:Int)<(6:Int))<;>rfl
theorem F.wu (a:LLV) (b:LLV) (h_a:Sm (Ty.sl (Ty.sl aa)) a) (h_b:Sm (Ty.sl (Ty.sl aa)) b):F.nF a b=some (M.mS a b):=by
 unfold F.nF M.mS
 rw[M.Gx (b:=b) h_a (fun z s hl h1 h2=>by
  have:=h_a.1
  unfold F.hG M.eI
  rw[af h2]
  cases decide ((M.cE s.2 z:Int)<(M.cE b z:Int)) with
  | true=>
   rw[cond_true,cond_true,af (by simp only[List.length_cons,List.length_nil,lim];omega)]
  | false=>
   rw[cond_false,cond_false]
   try rw[aY]
   rw[af (by simp only[List.length_cons,List.length_nil,lim];omega)])]
 rfl
theorem F.sE (tables:LTb) (c:TChange.D) (h_tables:Sm (Ty.sl TTable) tables) (h_c:Sm TChange c):F.jT tables c=some (cond (M.aV tables c) (M.bt tables c) [],M.aV tables c):=by
 unfold F.jT
 cases h:M.aV tables c with
 | false=>rfl
 | true=>
  obtain⟨h1,⟨h2,h3⟩,h4,h5,h6⟩:=M.gO h
  have sr:Sm (.sl (.sl aa)) (nth (t:=TTable) tables c.1).2.1:=(ay (t:=TTable) h_tables c.1).2.1
  have hl:=(M.sw h1 h2 h3).1
  unfold M.rowsOf at hl
  simp only[aY,Bool.not_true,cond_false,cond_true]
  unfold M.bt M.jd
  cases hc:c.2.2.1 with
  | true=>
   simp only[cond_true]
   rw[af h2,af h3,af (by simp only[List.length_cons,List.length_nil,lim];omega),af (by rw[List.length_set];exact h3),M.Ik h2 h3]
  | false=>
   have h7:=h6 hc
   unfold M.rowsOf at h7
   simp only[cond_false]
   rw[af h2,af h3,af sr,M.GQ _ _ h7]
theorem F.qT (tables:LTb) (bonds:(List TBond.D)) (c:TChange.D) (h_tables:Sm (Ty.sl TTable) tables) (h_bonds:Sm (Ty.sl TBond) bonds) (h_c:Sm TChange c):F.jk tables bonds c=some (M.bR tables bonds c):=by
 unfold F.jk M.bR
 have hbl:=h_bonds.1
 obtain⟨e0,_⟩:=vX (f:=F.dy tables bonds c (cond (M.aV tables c) (M.bt tables c) [])) (fun v b=>v&&(M.aA tables&&M.aN tables b)) (fun _=>True) (xs:=bonds) (s:=M.aV tables c) trivial (fun b _ v _=>by
  refine⟨?_,trivial⟩
  unfold F.dy
  cases v<;>rfl)
 rw[M.CG (fun b=>M.aA tables&&M.aN tables b)] at e0
 simp only[aY]
 rw[e0,bL]
 cases hc:M.aV tables c with
 | false=>rfl
 | true=>
 have ht:=(M.gO hc).1
 rw[ht]
 simp only[Bool.true_and]
 cases ho:List.all bonds (M.aN tables) with
 | false=>
  rw[Bool.and_false]
  rfl
 | true=>
 rw[Bool.and_true]
 by_cases hl:bonds.length<=4
 case neg=>
  rw[decide_eq_true (show (4:Int)<(bonds.length:Int) by omega),decide_eq_false hl]
  rfl
 rw[decide_eq_false (show ¬(4:Int)<(bonds.length:Int) by omega),decide_eq_true hl]
 have hB:=M.xp hc ho
 have sA:=M.zU h_tables h_c hc
 have hw0:=M.xG (bonds:=bonds) (f:=F.dz tables bonds c) (fun A=>rfl) (fun A hA hs=>by
  have hp0:=M.Ei (bonds:=bonds) (A:=A) (f:=F.cu tables bonds c) hl (fun k k0 k1=>by
   have hb:nth (t:=TBond) bonds k∈bonds:=dD (t:=TBond) k0 k1
   generalize hbe:nth (t:=TBond) bonds k=b at hb ⊢
   unfold F.cu
   simp only
   rw[hbe,decide_eq_true k1,af k0,af k1,af hs,af (show (M.aA A&&M.aN A b)=true by rw[hA.1,hA.2 b hb];rfl),aJ (n:=k+1) (by omega) (by omega)]
   simp only[Bool.not_false,cond_true,show ((true:Bool)==true)=true from rfl]
   cases hf:b.2.2.2.2.2.1 with
   | false=>
    have:M.loose A b=false:=by unfold M.loose;rw[hf];rfl
    rw[this]
    rfl
   | true=>
    by_cases hk:(0:Int)<=M.broken A b
    ·have hp:M.loose A b=true:=by unfold M.loose;rw[hf,decide_eq_true hk];rfl
     obtain⟨h0,h1⟩:=M.oF hA hb
     obtain⟨l0,l1,l2,_⟩:=M.kH hp
     have hrl:=(M.sw hA.1 h0 h1).1
     have sr:Sm (.sl (.sl aa)) (nth (t:=TTable) A b.2.1).2.1:=(ay (t:=TTable) hs b.2.1).2.1
     unfold M.dZ at l2
     unfold M.rowsOf at hrl
     have hw:wrap64 (M.broken A b+1)=M.broken A b+1:=aJ (by omega) (by omega)
     rw[hp,decide_eq_true hk]
     simp only[cond_true,show ((true:Bool)==true)=true from rfl]
     rw[af h0,af h1,af hk,af (by omega),Dg,hw,zo _ (by omega) (by omega),show (M.broken A b+1).toNat=(M.broken A b).toNat+1 by omega]
     rw[af (by simp only[List.length_nil,List.length_take,lim];omega),af (by omega),af (by omega),af (by simp only[List.nil_append,List.length_take,List.length_drop,lim];omega)]
     rfl
    ·have hp:M.loose A b=false:=by unfold M.loose;rw[hf,decide_eq_false hk];rfl
     rw[hp,decide_eq_false hk]
     rfl) (fun k B=>by
   unfold F.cu
   simp only
   cases decide (k<(bonds.length:Int))<;>rfl) (fun k hk=>by
   unfold F.cu
   simp only
   rw[decide_eq_false hk]
   rfl) bonds.length 0 (by simp) (Int.le_refl _)
  unfold F.dz
  rw[show ((0:Int).toNat)=0 from rfl,List.drop_zero] at hp0
  simp only[cond_true]
  rw[hp0]
  cases bonds.find? (M.loose A)<;>rfl) 19 hB sA (Nat.lt_succ_of_le (M.size_le hB.1))
 have sF:=M.si (bonds:=bonds) 19 sA
 simp only[cond_true,cond_false,Bool.not_true,show ((false:Bool)==false)=true from rfl,Bool.and_self,Bool.true_and]
 rw[hw0,Option.bind_some,af sF]
 cases M.cU (M.follow bonds 19 (M.bt tables c)) bonds<;>rfl
theorem F.yp (n:Int) (low:Int) (high:Int)  : F.qo n low high=some (M.inR n low high):=by
 unfold F.qo M.inR
 cases decide (low<=n)<;>rfl
theorem F.sD (c:ai.D)  : F.oM c=some (!M.dO c):=by
 rfl
theorem F.kG (xs:LC) (h_xs:Sm (Ty.sl ai) xs):F.gE xs=some (M.idx (t:=ai) (fun e=>!M.dO e) xs):=by
 exact cI (t:=ai) (p:=(fun e=>!M.dO e)) (fun i h0 h1=>by simp only[F.cD,aW])
theorem F.jt (xs:LC) (h_xs:Sm (Ty.sl ai) xs):F.dw xs=some (List.any xs (fun e=>!M.dO e)):=by
 unfold F.dw
 exact cv (t:=ai)
theorem F.vq (columns:LC) (h_columns:Sm (Ty.sl ai) columns):F.mJ columns=some (M.bC columns):=by
 unfold F.mJ M.bC
 rw[ff,show decide ((columns.length:Int)<=4)=decide (columns.length<=4) from decide_eq_decide.2 (by omega)]
 rw[List.all_eq_not_any_not]
theorem F.qC (v:aa.D) (h_v:Sm aa v):F.mq v=some (decide (v.1=0)):=by
 rfl
theorem F.yq (s:ByteArray) (h_s:Sm Ty.str s):F.pS s=some (M.lower (bI s)):=by
 unfold F.pS M.lower
 rw[fe (fun n=>M.inR n 97 122) () (fun x hx=>by
  obtain⟨h0,h1⟩:=Hg hx
  simp only[F.iF,fV,aW,aJ (n:=x) (by omega) (by omega)])]
 cases (bI s).all fun n=>M.inR n 97 122<;>rfl
theorem F.vR (v:aa.D) (h_v:Sm aa v):F.oe v=some (M.aO v):=by
 unfold F.oe M.aO M.text
 simp only[ff]
 rw[show decide ((v.2.2.1.size:Int)<=6)=decide (v.2.2.1.size<=6) from decide_eq_decide.2 (by omega)]
 simp only[Ty.beq]
 cases h0:decide (v.1=(0:Int))
 ·generalize decide (v.1=(1:Int))=b1
  generalize decide (v.1=(2:Int))=b2
  generalize decide (v.1=(3:Int))=b3
  generalize decide (v.2.1=(0:Int))=c0
  generalize decide (v.2.2.1.size<=6)=c6
  generalize M.inR v.2.1 (-9999) 9999=c1
  generalize M.inR v.2.1 0 1=c3
  generalize decide (v.2.2.1=M.none_)=e0
  cases b1<;>cases b2<;>cases b3<;>cases c0<;>cases c6<;>cases c1<;>cases c3<;>cases e0<;>rfl
 ·simp only[cond_true,Bool.true_and,Bool.and_true]
theorem F.yh (v:aa.D) (h_v:Sm aa v):F.vG v=some (!M.aO v):=by
 rfl
theorem F.jF (xs:LV) (h_xs:Sm (Ty.sl aa) xs):F.fT xs=some (M.idx (t:=aa) (fun e=>decide (e.1=0)) xs):=by
 exact cI (t:=aa) (p:=(fun e=>decide (e.1=0))) (fun i h0 h1=>by simp only[F.ck,aW])
theorem F.mX (xs:LV) (h_xs:Sm (Ty.sl aa) xs):F.jv xs=some (M.idx (t:=aa) (fun e=>!M.aO e) xs):=by
 exact cI (t:=aa) (p:=(fun e=>!M.aO e)) (fun i h0 h1=>by simp only[F.cX,aW])
theorem F.iT (xs:LV) (h_xs:Sm (Ty.sl aa) xs):F.cW xs=some (List.any xs (fun e=>decide (e.1=0))):=by
 unfold F.cW
 exact cv (t:=aa)
theorem F.lg (xs:LV) (h_xs:Sm (Ty.sl aa) xs):F.eg xs=some (List.any xs (fun e=>!M.aO e)):=by
 unfold F.eg
 exact cv (t:=aa)
theorem F.AP (row:LV) (h_row:Sm (Ty.sl aa) row):F.tM row=some (M.oS row):=by
 unfold F.tM M.oS
 rw[ff,show decide ((row.length:Int)<=4)=decide (row.length<=4) from decide_eq_decide.2 (by omega)]
 rw[List.all_eq_not_any_not]
theorem F.yj (columns:LC) (row:LV) (h_columns:Sm (Ty.sl ai) columns) (h_row:Sm (Ty.sl aa) row):F.qm columns row=some (M.bG columns row):=by
 unfold F.qm M.bG
 cases M.bC columns
 ·rfl
 cases M.oS row
 ·rfl
 by_cases hl:row.length=columns.length
 ·rw[fe (M.tJ columns row) () (fun i hi=>by
   obtain⟨h0,h1⟩:=cR.1 hi
   have h2:i<(columns.length:Int):=by omega
   simp only[F.iC,af h2]
   unfold M.tJ
   cases decide ((nth (t:=aa) row i).1=(nth (t:=ai) columns i).1)<;>cases decide ((nth (t:=aa) row i).1=(0:Int))<;>cases (nth (t:=ai) columns i).2.1<;>rfl)]
  simp only[hl,Bool.not_true,decide_true,Bool.true_and,cond_true,cond_false]
  cases (aH 0 (columns.length:Int)).all (M.tJ columns row)<;>rfl
 ·have h3:¬(row.length:Int)=(columns.length:Int):=by omega
  simp[hl,h3]
theorem F.xd (r:LV) (columns:LC) (h_r:Sm (Ty.sl aa) r) (h_columns:Sm (Ty.sl ai) columns):F.tc r columns=some (!M.bG columns r):=by
 rfl
theorem F.ye (xs:LV) (ys:LV) (h_xs:Sm (Ty.sl aa) xs) (h_ys:Sm (Ty.sl aa) ys):F.uT xs ys=some (decide (xs=ys)):=by
 exact DK (t:=aa) (fun i h0 h1 h2=>by simp only[F.iM,af h2,fV,aW,EX (t:=aa) rfl])
theorem F.yD (r:LV) (row:LV) (h_r:Sm (Ty.sl aa) r) (h_row:Sm (Ty.sl aa) row):F.ug r row=some (decide (r=row)):=by
 rfl
theorem F.yG (xs:LV) (h_xs:Sm (Ty.sl aa) xs):F.uG xs=some xs:=by
 exact M.Bv (t:=aa)
theorem F.AY (row:LV) (list:(List Int)) (h_row:Sm (Ty.sl aa) row) (h_list:Sm (Ty.sl (Ty.int .i64)) list) (p0:M.eJ row list):F.tP row list=some (M.taken row list):=by
 unfold F.tP
 rw[vB (fun i=>nth (t:=aa) row i) (fun x hx s hs=>by
  have hl:=h_list.1
  obtain⟨h0,h1⟩:=p0 x hx
  simp only[F.ko]
  rw[af h0,af h1,af (by unfold lim;simp;omega)])]
 show ag (Sm (.sl aa) (M.taken row list)) (bD (M.taken row list) fun r:List aa.D=>some (aB r (some ((0:Int),(r.length:Int)))))=_
 rw[af (M.fS h_row h_list)]
 simp only[aY,M.qa]
theorem F.oB (r:LV) (list:(List Int)) (key:LV) (h_r:Sm (Ty.sl aa) r) (h_list:Sm (Ty.sl (Ty.int .i64)) list) (h_key:Sm (Ty.sl aa) key) (p0:M.eJ r list):F.kF r list key=some (decide (M.taken r list=key)):=by
 rfl
theorem F.mY (xs:LLV) (k0:LV) (h_xs:Sm (Ty.sl (Ty.sl aa)) xs) (h_k0:Sm (Ty.sl aa) k0):F.jq xs k0=some (M.idx (t:=(Ty.sl aa)) (fun e=>decide (e=k0)) xs):=by
 exact cI (t:=(Ty.sl aa)) (p:=(fun e=>decide (e=k0))) (fun i h0 h1=>by simp only[F.cY,aW])
theorem F.mQ (xs:LLV) (k0:LC) (h_xs:Sm (Ty.sl (Ty.sl aa)) xs) (h_k0:Sm (Ty.sl ai) k0):F.iW xs k0=some (M.idx (t:=(Ty.sl aa)) (fun e=>!M.bG k0 e) xs):=by
 exact cI (t:=(Ty.sl aa)) (p:=(fun e=>!M.bG k0 e)) (fun i h0 h1=>by simp only[F.cQ,aW])
theorem F.jh (xs:LLV) (k0:(List Int)) (k1:LV) (h_xs:Sm (Ty.sl (Ty.sl aa)) xs) (h_k0:Sm (Ty.sl (Ty.int .i64)) k0) (h_k1:Sm (Ty.sl aa) k1) (p0:∀e∈xs,M.eJ e k0):F.fy xs k0 k1=some (M.idx (t:=(Ty.sl aa)) (fun e=>decide (M.taken e k0=k1)) xs):=by
 exact cI (t:=(Ty.sl aa)) (p:=(fun e=>decide (M.taken e k0=k1))) (fun i h0 h1=>by simp only[F.bV,af (p0 (nth (t:=(Ty.sl aa)) xs i) (dD (t:=(Ty.sl aa)) h0 h1)),aW])
theorem F.kJ (xs:LLV) (k0:LC) (h_xs:Sm (Ty.sl (Ty.sl aa)) xs) (h_k0:Sm (Ty.sl ai) k0):F.dV xs k0=some (List.any xs (fun e=>!M.bG k0 e)):=by
 unfold F.dV
 exact cv (t:=(Ty.sl aa))
theorem F.hU (xs:LLV) (k0:(List Int)) (k1:LV) (h_xs:Sm (Ty.sl (Ty.sl aa)) xs) (h_k0:Sm (Ty.sl (Ty.int .i64)) k0) (h_k1:Sm (Ty.sl aa) k1) (p0:∀e∈xs,M.eJ e k0):F.cO xs k0 k1=some (List.any xs (fun e=>decide (M.taken e k0=k1))):=by
 unfold F.cO
 exact cv (t:=(Ty.sl aa))
theorem F.Ab (columns:LC) (rows:LLV) (h_columns:Sm (Ty.sl ai) columns) (h_rows:Sm (Ty.sl (Ty.sl aa)) rows):F.rO columns rows=some (M.fX columns rows):=by
 unfold F.rO M.fX
 rw[ff,List.all_eq_not_any_not]
theorem F.tY (t:TTable.D) (h_t:Sm TTable t):F.lq t=some (!M.cN t):=by
 unfold F.lq M.cN
 cases hc:M.bC t.1
 ·have:M.fX t.1 t.2.1=false:=by unfold M.fX;rw[hc];rfl
  rw[this]
  simp
 by_cases h:t.2.1.length<=6
 ·have h2:¬(6:Int)<(t.2.1.length:Int):=by omega
  simp[h2,h]
 ·have h2:(6:Int)<(t.2.1.length:Int):=by omega
  simp[h2,h]
theorem F.lH (xs:LTb) (h_xs:Sm (Ty.sl TTable) xs):F.hO xs=some (M.idx (t:=TTable) (fun e=>!M.cN e) xs):=by
 exact cI (t:=TTable) (p:=(fun e=>!M.cN e)) (fun i h0 h1=>by simp only[F.cH,aW])
theorem F.jE (xs:LTb) (h_xs:Sm (Ty.sl TTable) xs):F.dJ xs=some (List.any xs (fun e=>!M.cN e)):=by
 unfold F.dJ
 exact cv (t:=TTable)
theorem F.xb (tables:LTb) (h_tables:Sm (Ty.sl TTable) tables):F.ov tables=some (M.aA tables):=by
 unfold F.ov M.aA
 rw[ff,show decide ((tables.length:Int)<=3)=decide (tables.length<=3) from decide_eq_decide.2 (by omega)]
 rw[List.all_eq_not_any_not]
theorem F.AI (rows:LLV) (row:LV) (h_rows:Sm (Ty.sl (Ty.sl aa)) rows) (h_row:Sm (Ty.sl aa) row):F.Ag rows row=some (M.rowAt rows row):=by
 rfl
theorem F.wU (tables:LTb) (c:TChange.D) (h_tables:Sm (Ty.sl TTable) tables) (h_c:Sm TChange c):F.ny tables c=some (M.aV tables c):=by
 unfold F.ny M.aV
 have:=h_tables.1
 rw[aJ (n:=(tables.length:Int)-(1:Int)) (by omega) (by omega)]
 cases M.aA tables<;>cases M.inR c.1 0 ((tables.length:Int)-1)<;>cases M.bG (nth (t:=TTable) tables c.1).1 c.2.1<;>cases c.2.2.1<;>cases decide (((nth (t:=TTable) tables c.1).2.1.length:Int)<(6:Int))<;>rfl
theorem F.wJ (rows:LLV) (h_rows:Sm (Ty.sl (Ty.sl aa)) rows):F.om rows=some rows:=by
 unfold F.om
 rw[vB (fun r=>r) (fun x hx s hs=>by
  have hl:=h_rows.1
  simp only[F.gQ,aY,M.qa]
  rw[af (by unfold lim;simp;omega)]),M.CO,bL,M.zM]
theorem F.xg (xs:LC) (h_xs:Sm (Ty.sl ai) xs):F.ta xs=some xs:=by
 exact M.Bv (t:=ai)
theorem F.uc (tables:LTb) (h_tables:Sm (Ty.sl TTable) tables):F.lC tables=some tables:=by
 unfold F.lC
 rw[vB (fun r=>r) (fun x hx s hs=>by
  have hl:=h_tables.1
  simp only[F.fO,aY,M.qa]
  rw[af (by unfold lim;simp;omega)]),M.CO,bL,M.zM]
theorem F.sM (tables:LTb) (c:TChange.D) (h_tables:Sm (Ty.sl TTable) tables) (h_c:Sm TChange c) (p0:M.aV tables c):F.jU tables c=some (M.bt tables c):=by
 unfold F.jU
 have hp:M.aV tables c=true:=p0
 unfold M.aV at hp
 obtain⟨_,hp⟩:=Bool.and_eq_true_iff.1 hp
 obtain⟨hi,hp⟩:=Bool.and_eq_true_iff.1 hp
 obtain⟨i0,i1⟩:=M.HQ.1 hi
 obtain⟨_,hp⟩:=Bool.and_eq_true_iff.1 hp
 have sr:Sm (.sl (.sl aa)) (nth (t:=TTable) tables c.1).2.1:=(ay h_tables c.1).2.1
 have sv:Sm (.sl aa) c.2.1:=h_c.2.1
 simp only[aY,M.qa]
 rw[af i0,af i1]
 unfold M.bt M.jd
 have i1':c.1<(tables.length:Int):=by omega
 have hl:=sr.1
 cases hc:c.2.2.1 with
 | true=>
  have s1:Sm (.sl (.sl aa)) ((nth (t:=TTable) tables c.1).2.1++[c.2.1]):=by
   rw[hc,cond_true] at hp
   have:=of_decide_eq_true hp
   refine⟨by rw[List.length_append];simp only[List.length_cons,List.length_nil];omega,fun x hx=>(List.mem_append.1 hx).elim (sr.2 x) fun hx=>by rw[List.mem_singleton.1 hx];exact sv⟩
  simp only[cond_true]
  rw[af (by simp only[List.length_cons,List.length_nil,lim];omega),M.Ik i0 i1',M.Jp i0 i1',M.sk i0 i1',af s1]
 | false=>
  rw[hc,cond_false] at hp
  have r0:=of_decide_eq_true hp
  have r1:M.rowAt (nth (t:=TTable) tables c.1).2.1 c.2.1<((nth (t:=TTable) tables c.1).2.1.length:Int):=by
   rcases IQ (t:=.sl aa) (p:=fun e=>decide (e=c.2.1)) (xs:=(nth (t:=TTable) tables c.1).2.1) with h | h
   ·exact h
   ·unfold M.rowAt at r0
    rw[h] at r0
    exact absurd (show (0:Int)<=-1 from r0) (by decide)
  generalize hr:M.rowAt (nth (t:=TTable) tables c.1).2.1 c.2.1=k at *
  have hw:wrap64 (k+(1:Int))=k+1:=aJ (by omega) (by omega)
  have s1:Sm (.sl (.sl aa)) ((nth (t:=TTable) tables c.1).2.1.take k.toNat++(nth (t:=TTable) tables c.1).2.1.drop (k.toNat+1)):=by
   refine⟨by simp;omega,fun x hx=>(List.mem_append.1 hx).elim (fun h=>sr.2 x (List.mem_of_mem_take h)) fun h=>sr.2 x (List.mem_of_mem_drop h)⟩
  simp only[cond_false]
  rw[hw,show (k+1).toNat=k.toNat+1 by omega,af sr,af r0,af (by omega),af (by omega),M.Ik i0 i1',M.Jp i0 i1',M.sk i0 i1',af s1]
theorem F.sO (tables:LTb) (c:TChange.D) (h_tables:Sm (Ty.sl TTable) tables) (h_c:Sm TChange c):F.jL tables c=some (cond (M.aV tables c) (M.bt tables c) [],M.aV tables c):=by
 unfold F.jL
 cases h:M.aV tables c with
 | false=>rfl
 | true=>rw[af rfl];rfl
theorem F.tw (p:ax.D) (h_p:Sm ax p):F.lp p=some (M.takes p):=by
 unfold F.lp M.takes
 generalize decide (p.1=(3:Int))=c3
 generalize decide (p.1=(4:Int))=c4
 generalize decide (p.1=(5:Int))=c5
 generalize decide (p.1=(6:Int))=c6
 generalize decide (p.1=(7:Int))=c7
 generalize decide (p.1=(8:Int))=c8
 cases c3<;>cases c4<;>cases c5<;>cases c6<;>cases c7<;>cases c8<;>rfl
theorem F.yg (truth:Int)  : F.pN truth=some (M.valueOf truth):=by
 unfold F.pN M.valueOf
 cases M.inR truth 0 1<;>rfl
theorem F.AZ (vals:(List Int)) (h_vals:Sm (Ty.sl (Ty.int .i64)) vals):F.uf vals=some (M.orI vals):=by
 unfold F.uf
 suffices h:∀(A B:List Int),aT (aK (F.iq A) B ()) (fun v0:Unit=>some (0:Int)) (fun q0:Int=>some q0)=some (M.orI B) from h vals vals
 intro A B
 induction B with
 | nil=>rfl
 | cons x l ih=>
  rw[cq]
  simp only[F.iq,M.orI]
  by_cases hx:x=0
  ·simp only[hx,decide_true,Bool.not_true,cond_false,cond_true,bL]
   exact ih
  ·simp[hx]
theorem F.vM (x:Int)  : F.cmp_isNaN_int x=some false:=by
 unfold F.cmp_isNaN_int
 simp
theorem F.ua (x:Int) (y:Int)  : F.ld x y=some (M.uZ x y):=by
 unfold F.ld M.uZ
 simp only[cond_false,aW]
theorem F.sL (x:ByteArray) (h_x:Sm Ty.str x):F.cmp_isNaN_string x=some false:=by
 unfold F.cmp_isNaN_string
 simp
theorem F.qB (x:ByteArray) (y:ByteArray) (h_x:Sm Ty.str x) (h_y:Sm Ty.str y):F.iQ x y=some (M.uN x y):=by
 unfold F.iQ M.uN
 simp only[cond_false,aW]
theorem F.sH (v:aa.D) (w:aa.D) (h_v:Sm aa v) (h_w:Sm aa w):F.jO v w=some (M.order v w):=by
 unfold F.jO
 rw[af ⟨by simp,fun _ _=>trivial⟩]
 rfl
theorem F.yd (b:Bool)  : F.pO b=some (M.bool b):=by
 unfold F.pO M.bool
 rw[aW]
theorem F.xW (kind:Int) (a:aa.D) (b:aa.D) (h_a:Sm aa a) (h_b:Sm aa b):F.qs kind a b=some (M.compare kind a b):=by
 unfold F.qs M.compare M.Av
 cases hk:M.inR kind 1 4
 ·rfl
 cases M.aO a
 ·rfl
 cases M.aO b
 ·rfl
 have h4:decide (kind=1)=false->decide (kind=2)=false->decide (kind=3)=false->decide (kind=4)=true:=by
  unfold M.inR at hk
  simp at hk ⊢
  omega
 cases decide (a.1=(0:Int))<;>cases decide (b.1=(0:Int))<;>cases decide (a.1=b.1)<;>cases h1:decide (kind=1)<;>cases h2:decide (kind=2)<;>cases h3:decide (kind=3)<;>(try rw[h4 h1 h2 h3])<;>cases decide (M.order a b=0)<;>cases decide (M.order a b<0)<;>rfl
theorem F.xO (n:Int)  : F.vg n=some (M.inR n 0 2):=by
 rfl
theorem F.BU (a:Int) (b:Int) (alone:Int) (p0:0<=alone/\alone<=1):F.wo a b alone=some (M.fold a b alone):=by
 unfold F.wo M.fold
 rw[aJ (n:=1-alone) (by omega) (by omega)]
 cases M.inR a 0 2
 ·rfl
 cases M.inR b 0 2
 ·rfl
 cases decide (a=alone)<;>cases decide (b=alone)<;>cases decide (a=2)<;>cases decide (b=2)<;>rfl
theorem F.AF (a:Int) (b:Int)  : F.tQ a b=some (M.rj a b):=by
 unfold F.tQ M.rj
 rw[af (by decide)]
theorem F.yb (v:aa.D) (h_v:Sm aa v):F.qf v=some (M.bU v):=by
 unfold F.qf M.bU
 cases M.aO v<;>simp only[Bool.not_true,Bool.not_false,cond_true,cond_false,aW]
theorem F.Co (a:Int) (b:Int)  : F.wK a b=some (M.zE a b):=by
 unfold F.wK M.zE
 rw[af (by decide)]
theorem F.AD (a:Int)  : F.tu a=some (M.rK a):=by
 unfold F.tu M.rK
 simp only[aW]
theorem F.tE (p:ax.D) (row:LV) (inp:LV) (h_p:Sm ax p) (h_row:Sm (Ty.sl aa) row) (h_inp:Sm (Ty.sl aa) inp) (p0:(inp.length:Int)=M.takes p) (p1:M.nr p row.length) (p2:1<=p.1/\p.1<=8):F.kX p row inp=some (M.gU p row inp):=by
 unfold F.kX M.gU
 have hz:(((0:Int),(0:Int),(⟨#[]⟩:ByteArray),()):aa.D)=M.zeroV:=rfl
 by_cases e1:p.1=(1:Int)
 ·simp only[e1,decide_true,cond_true]
 by_cases e2:p.1=(2:Int)
 ·obtain⟨c0,c1⟩:=p1 e2
  simp only[e2,decide_true,cond_true,Int.reduceEq,decide_false,cond_false]
  rw[af c0,af c1]
 by_cases e3:p.1=(3:Int)
 ·rw[fz (.inl e3)] at p0
  simp only[e3,decide_true,cond_true,Int.reduceEq,decide_false,cond_false]
  repeat rw[af (by omega)]
  generalize nth (t:=aa) inp 0=a
  generalize nth (t:=aa) inp 1=b
  unfold M.sum
  have hv:M.aO ((1:Int),wrap64 (a.2.1+b.2.1),(⟨#[]⟩:ByteArray),())=M.inR (wrap64 (a.2.1+b.2.1)) (-9999) 9999:=by unfold M.aO;simp
  rw[hv]
  cases decide (a.1=(0:Int))<;>cases decide (b.1=(0:Int))<;>cases M.inR (wrap64 (a.2.1+b.2.1)) (-9999) 9999<;>rfl
 by_cases e4:p.1=(4:Int)
 ·rw[fz (.inr (.inl e4))] at p0
  simp only[e4,decide_true,cond_true,Int.reduceEq,decide_false,cond_false,aY]
  repeat rw[af (by omega)]
 by_cases e5:p.1=(5:Int)
 ·rw[fz (.inr (.inr (.inl e5)))] at p0
  simp only[e5,decide_true,cond_true,Int.reduceEq,decide_false,cond_false,aY]
  repeat rw[af (by omega)]
 by_cases e6:p.1=(6:Int)
 ·rw[fz (.inr (.inr (.inr e6)))] at p0
  simp only[e6,decide_true,cond_true,Int.reduceEq,decide_false,cond_false,aY]
  repeat rw[af (by omega)]
 by_cases e7:p.1=(7:Int)
 ·rw[lX (.inl e7)] at p0
  simp only[e7,decide_true,cond_true,Int.reduceEq,decide_false,cond_false,aY]
  repeat rw[af (by omega)]
 ·simp only[e1,e2,e3,e4,e5,e6,e7,decide_false,cond_false,aY]
  have e8:p.1=(8:Int):=by
   rcases FB p2 with h | h | h | h | h | h | h | h<;>first | exact h | exact absurd h (by assumption)
  rw[lX (.inr e8)] at p0
  rw[af (by omega)]
theorem F.vC (row:LV) (e:LPt) (h_row:Sm (Ty.sl aa) row) (h_e:Sm (Ty.sl ax) e) (p0:M.jB row.length e):F.mz row e=some (M.ep row e):=by
 unfold F.mz M.ep
 obtain⟨h1,h2⟩:=Ax (f:=F.dG row e) h_row (fun p st hp hs hl h1 hk hc=>Bb p st hp hs hl h1 hk hc) e [] h_e.2 (wD aa) (by simp;have:=p0.1;omega) p0.2
 rw[h1,bL,af (by omega)]
theorem F.qA (list:(List Int)) (key:LV) (h_list:Sm (Ty.sl (Ty.int .i64)) list) (h_key:Sm (Ty.sl aa) key):F.mC list key=some (list,key):=by
 rfl
theorem F.sG (b:TBond.D) (tables:LTb) (n:Int) (h_b:Sm TBond b) (h_tables:Sm (Ty.sl TTable) tables) (p0:(M.aA tables&&M.aN tables b)=true) (p1:0<=n/\n<((M.dZ tables b).length:Int)):F.jZ b tables n=some (M.breaks tables b n):=by
 obtain⟨ht,hb⟩:=Bool.and_eq_true_iff.1 p0
 obtain⟨⟨b0,b1⟩,hk⟩:=qc hb
 obtain⟨n0,n1⟩:=p1
 have htm:=dD (t:=TTable) b0 b1
 have hrm:=dD (t:=.sl aa) n0 n1
 have hrow:=yR ht htm hrm
 unfold M.dZ at n1 hrm hrow
 unfold F.jZ M.breaks
 unfold M.dZ
 rcases hk with⟨e1,hl⟩ | ⟨e3,he⟩ | ⟨e2,hl,ho,hl2⟩
 ·have hir:=rz ht htm hrm hl
  simp only[e1,decide_true,decide_false,cond_true,cond_false,Int.reduceEq,aY,Dg]
  repeat rw[af (by first | exact b0 | exact b1 | exact n0 | exact n1 | exact hir | exact Int.le_of_lt n1)]
  rw[af (fun r hr=>rz ht htm (List.mem_of_mem_take hr) hl),aW]
  rfl
 ·have hs:=Br (columns:=(nth (t:=TTable) tables b.2.1).1) (e:=b.2.2.2.2.2.2.1) (by rw[he];decide)
  rw[<-hrow] at hs
  simp only[e3,decide_true,decide_false,cond_true,cond_false,Int.reduceEq,aY]
  repeat rw[af (by first | exact b0 | exact b1 | exact n0 | exact n1 | exact hs)]
 ·have hir:=rz ht htm hrm hl
  have hom:=dD (t:=TTable) ho.1 ho.2
  simp only[e2,decide_true,decide_false,cond_true,cond_false,Int.reduceEq,aY]
  repeat rw[af (by first | exact b0 | exact b1 | exact n0 | exact n1 | exact hir | exact ho.1 | exact ho.2)]
  rw[af (fun r hr=>rz ht hom hr hl2),aW]
  rfl
theorem F.sC (b:TBond.D) (tables:LTb) (h_b:Sm TBond b) (h_tables:Sm (Ty.sl TTable) tables) (p0:(M.aA tables&&M.aN tables b)=true):F.jK b tables=some (M.broken tables b):=by
 obtain⟨ht,hb⟩:=Bool.and_eq_true_iff.1 p0
 obtain⟨⟨b0,b1⟩,_⟩:=qc hb
 unfold F.jK M.broken
 rw[af b0,af b1]
 rw[BP (M.breaks tables b) (fun i hi=>by
  simp only[F.eT]
  rw[af p0,af (p:=0<=i/\i<((M.dZ tables b).length:Int)) (cR.1 hi),aW])]
 unfold M.dZ
 cases (aH 0 ((nth (t:=TTable) tables b.2.1).2.1.length:Int)).find? (M.breaks tables b)<;>rfl
theorem F.qi (b:TBond.D) (out:LTb) (h_b:Sm TBond b) (h_out:Sm (Ty.sl TTable) out) (p0:(M.aA out&&M.aN out b)=true):F.ia b out=some (M.loose out b):=by
 unfold F.ia M.loose
 cases b.2.2.2.2.2.1<;>rfl
theorem F.zC (b:TBond.D) (tables:LTb) (h_b:Sm TBond b) (h_tables:Sm (Ty.sl TTable) tables) (p0:(M.aA tables&&M.aN tables b)=true):F.xA b tables=some (decide (0<=M.broken tables b)):=by
 rfl
theorem F.tW (p:ax.D) (columns:LC) (h_p:Sm ax p) (h_columns:Sm (Ty.sl ai) columns):F.lf p columns=some (M.lI p columns):=by
 unfold F.lf M.lI M.noV
 rw[lW _ h_columns.1]
 simp only[ff,show Ty.beq aa p.2.2.1 ((0:Int),(0:Int),(⟨#[]⟩:ByteArray),())=Ty.beq aa p.2.2.1 M.zeroV from rfl]
 generalize Ty.beq aa p.2.2.1 M.zeroV=nv
 by_cases e1:p.1=(1:Int)
 ·simp only[e1,decide_true,cond_true]
 by_cases e2:p.1=(2:Int)
 ·simp only[e2,decide_true,cond_true,Int.reduceEq,decide_false,cond_false]
 by_cases e4:p.1=(4:Int)
 ·simp only[e4,decide_true,cond_true,Int.reduceEq,decide_false,cond_false]
 by_cases e3:p.1=(3:Int)
 ·simp only[e3,decide_true,cond_true,Int.reduceEq,decide_false,cond_false]
  rfl
 by_cases e5:p.1=(5:Int)
 ·simp only[e5,decide_true,cond_true,Int.reduceEq,decide_false,cond_false]
  rfl
 by_cases e6:p.1=(6:Int)
 ·simp only[e6,decide_true,cond_true,Int.reduceEq,decide_false,cond_false]
  rfl
 by_cases e7:p.1=(7:Int)
 ·simp only[e7,decide_true,cond_true,Int.reduceEq,decide_false,cond_false]
  rfl
 by_cases e8:p.1=(8:Int)
 ·simp only[e8,decide_true,cond_true,Int.reduceEq,decide_false,cond_false]
  rfl
 simp only[e1,e2,e3,e4,e5,e6,e7,e8,decide_false,cond_false,EW e3 e4 e5 e6 e7 e8]
theorem F.qz (k:Int) (kind:Int)  : F.mV k kind=some (!decide (k=kind)):=by
 rfl
theorem F.vK (n:Int) (t:TTable.D) (h_t:Sm TTable t):F.nL n t=some (!M.inR n 0 (t.1.length-1)):=by
 unfold F.nL
 rw[lW _ h_t.1.1]
theorem F.mM (xs:(List Int)) (k0:TTable.D) (h_xs:Sm (Ty.sl (Ty.int .i64)) xs) (h_k0:Sm TTable k0):F.iY xs k0=some (M.idx (t:=(Ty.int .i64)) (fun e=>!M.inR e 0 (k0.1.length-1)) xs):=by
 exact cI (t:=(Ty.int .i64)) (p:=(fun e=>!M.inR e 0 (k0.1.length-1))) (fun i h0 h1=>by simp only[F.cT,aW])
theorem F.jD (xs:(List Int)) (k0:Int) (h_xs:Sm (Ty.sl (Ty.int .i64)) xs):F.fU xs k0=some (M.idx (t:=(Ty.int .i64)) (fun e=>!decide (e=k0)) xs):=by
 exact cI (t:=(Ty.int .i64)) (p:=(fun e=>!decide (e=k0))) (fun i h0 h1=>by simp only[F.cm,aW])
theorem F.kL (xs:(List Int)) (k0:TTable.D) (h_xs:Sm (Ty.sl (Ty.int .i64)) xs) (h_k0:Sm TTable k0):F.dX xs k0=some (List.any xs (fun e=>!M.inR e 0 (k0.1.length-1))):=by
 unfold F.dX
 exact cv (t:=(Ty.int .i64))
theorem F.iO (xs:(List Int)) (k0:Int) (h_xs:Sm (Ty.sl (Ty.int .i64)) xs):F.cV xs k0=some (List.any xs (fun e=>!decide (e=k0))):=by
 unfold F.cV
 exact cv (t:=(Ty.int .i64))
theorem F.sN (kind:Int) (ins:(List Int)) (h_ins:Sm (Ty.sl (Ty.int .i64)) ins):F.ki kind ins=some (List.all ins (fun k=>decide (k=kind))):=by
 unfold F.ki
 rw[List.all_eq_not_any_not]
theorem F.uy (p:ax.D) (columns:LC) (inp:(List Int)) (h_p:Sm ax p) (h_columns:Sm (Ty.sl ai) columns) (h_inp:Sm (Ty.sl (Ty.int .i64)) inp) (p0:M.lI p columns=true) (p1:(inp.length:Int)=M.takes p):F.mL p columns inp=some (M.cF p columns inp):=by
 unfold F.mL M.cF
 obtain⟨_,hc⟩:=An p0
 by_cases e1:p.1=(1:Int)
 ·simp only[e1,decide_true,cond_true]
 by_cases e2:p.1=(2:Int)
 ·obtain⟨c0,c1⟩:=hc e2
  simp only[e2,decide_true,cond_true,Int.reduceEq,decide_false,cond_false]
  rw[af c0,af c1]
 by_cases e4:p.1=(4:Int)
 ·rw[fz (.inr (.inl e4))] at p1
  simp only[e4,decide_true,cond_true,Int.reduceEq,decide_false,cond_false]
  repeat rw[af (by omega)]
 cases decide (p.1=(3:Int))<;>cases decide (p.1=(8:Int))<;>simp[e1,e2,e4]
theorem F.xe (columns:LC) (e:LPt) (h_columns:Sm (Ty.sl ai) columns) (h_e:Sm (Ty.sl ax) e):F.nO columns e=some (M.dg columns e):=by
 unfold F.nO M.dg
 cases M.bC columns
 ·rfl
 by_cases hl:e.length<=12
 ·rw[decide_eq_false (show ¬(12:Int)<(e.length:Int) by omega),decide_eq_true hl]
  rw[sZ e [] (by simp;omega)]
  cases M.js columns e [] with
  | none=>rfl
  | some s=>
   match s with
   | []=>rfl
   | [a]=>exact af (by simp)
   | a::b::l=>
    have:¬((a::b::l).length:Int)=1:=by simp;omega
    simp only[this,decide_false]
    rfl
 ·rw[decide_eq_true (show (12:Int)<(e.length:Int) by omega),decide_eq_false hl]
  rfl
theorem F.yU (t:TTable.D) (list:(List Int)) (h_t:Sm TTable t) (h_list:Sm (Ty.sl (Ty.int .i64)) list):F.qD t list=some (M.bT t.1 list):=by
 unfold F.qD M.bT
 rw[ff,List.all_eq_not_any_not]
theorem F.Aj (tables:LTb) (b:TBond.D) (h_tables:Sm (Ty.sl TTable) tables) (h_b:Sm TBond b):F.qO tables b=some (M.aN tables b):=by
 unfold F.qO M.aN
 rw[lW _ h_tables.1]
 cases hin:M.inR b.2.1 0 ((tables.length:Int)-1)
 ·rfl
 simp only[ff]
 simp only[DB,Dy,HE,Fx]
 by_cases e1:b.1=(1:Int)
 ·simp only[e1,decide_true,cond_true,Bool.not_true,Bool.true_and,show ((false:Bool)==false)=true from rfl,cond_false]
  cases decide (b.2.2.2.1=(0:Int))<;>cases decide (b.2.2.2.2.1.length=0)<;>cases M.bT (nth (t:=TTable) tables b.2.1).1 b.2.2.1<;>cases b.2.2.2.2.2.1<;>cases decide (b.2.2.2.2.2.2.1.length=0)<;>rfl
 by_cases e3:b.1=(3:Int)
 ·simp only[e3,decide_true,decide_false,cond_true,cond_false,Int.reduceEq,Bool.not_true,Bool.true_and,show ((false:Bool)==false)=true from rfl]
  cases decide (b.2.2.2.1=(0:Int))<;>cases decide (b.2.2.2.2.1.length=0)<;>cases decide (M.dg (nth (t:=TTable) tables b.2.1).1 b.2.2.2.2.2.2.1=3)<;>cases b.2.2.2.2.2.1<;>cases decide (b.2.2.1.length=0)<;>rfl
 by_cases e2:b.1=(2:Int)
 ·have hc:∀(x y:Bool) (z:Option Bool),cond (x==true) (cond (y==true) z z) z=z:=fun x y z=>by cases x<;>cases y<;>rfl
  simp only[e2,decide_true,decide_false,cond_true,cond_false,Int.reduceEq,Bool.not_true,Bool.true_and,show ((false:Bool)==false)=true from rfl]
  rw[hc]
  cases hof:M.inR b.2.2.2.1 0 ((tables.length:Int)-1)
  ·rfl
  cases hl1:M.bT (nth (t:=TTable) tables b.2.1).1 b.2.2.1
  ·simp
  cases hl2:M.bT (nth (t:=TTable) tables b.2.2.2.1).1 b.2.2.2.2.1
  ·simp
  by_cases hle:b.2.2.1.length=b.2.2.2.2.1.length
  ·cases he:decide (b.2.2.2.2.2.2.1.length=0)
   ·simp[hle]
   simp only[hle,decide_true,Bool.not_true,Bool.not_false,Bool.true_and,cond_true,cond_false]
   rw[<-hle]
   rw[fe (fun i=>decide ((nth (t:=ai) (nth (t:=TTable) tables b.2.1).1 (nth (t:=.int .i64) b.2.2.1 i)).1=(nth (t:=ai) (nth (t:=TTable) tables b.2.2.2.1).1 (nth (t:=.int .i64) b.2.2.2.2.1 i)).1)) () (fun i hi=>by
    obtain⟨i0,i1⟩:=cR.1 hi
    have a1:=oI hl1 (BS (t:=.int .i64) hi)
    have i2:i<(b.2.2.2.2.1.length:Int):=by omega
    have a2:=oI hl2 (dD (t:=.int .i64) i0 i2)
    have a3:=wC hof
    simp only[F.fk]
    rw[af a1.1,af a1.2,af a3.1,af (Int.lt_of_le_sub_one a3.2),af i2,af a2.1,af a2.2]
    rw[fV,aW])]
   simp only[Bool.not_true,Bool.true_and,show ((false:Bool)==false)=true from rfl,cond_true,cond_false]
   cases (aH 0 (b.2.2.1.length:Int)).all fun i=>decide ((nth (t:=ai) (nth (t:=TTable) tables b.2.1).1 (nth (t:=.int .i64) b.2.2.1 i)).1=(nth (t:=ai) (nth (t:=TTable) tables b.2.2.2.1).1 (nth (t:=.int .i64) b.2.2.2.2.1 i)).1)<;>rfl
  ·simp[hle,Ne.symm hle]
 ·have hc:∀(x y:Bool) (z:Option Bool),cond (x==true) (cond (y==true) z z) z=z:=fun x y z=>by cases x<;>cases y<;>rfl
  simp only[e1,e2,e3,decide_false,cond_false]
  rw[hc]
  rfl
theorem F.vp (b:TBond.D) (tables:LTb) (h_b:Sm TBond b) (h_tables:Sm (Ty.sl TTable) tables):F.rI b tables=some (!M.aN tables b):=by
 rfl
theorem F.jm (xs:(List TBond.D)) (k0:LTb) (h_xs:Sm (Ty.sl TBond) xs) (h_k0:Sm (Ty.sl TTable) k0) (p0:∀e∈xs,(M.aA k0&&M.aN k0 e)=true):F.fD xs k0=some (M.idx (t:=TBond) (fun e=>M.loose k0 e) xs):=by
 exact cI (t:=TBond) (p:=(fun e=>M.loose k0 e)) (fun i h0 h1=>by simp only[F.bY,af (p0 (nth (t:=TBond) xs i) (dD (t:=TBond) h0 h1)),aW])
theorem F.nJ (xs:(List TBond.D)) (k0:LTb) (h_xs:Sm (Ty.sl TBond) xs) (h_k0:Sm (Ty.sl TTable) k0) (p0:∀e∈xs,(M.aA k0&&M.aN k0 e)=true):F.jJ xs k0=some (M.idx (t:=TBond) (fun e=>decide (0<=M.broken k0 e)) xs):=by
 exact cI (t:=TBond) (p:=(fun e=>decide (0<=M.broken k0 e))) (fun i h0 h1=>by simp only[F.dn,af (p0 (nth (t:=TBond) xs i) (dD (t:=TBond) h0 h1)),aW])
theorem F.lS (xs:(List TBond.D)) (k0:LTb) (h_xs:Sm (Ty.sl TBond) xs) (h_k0:Sm (Ty.sl TTable) k0):F.ij xs k0=some (M.idx (t:=TBond) (fun e=>!M.aN k0 e) xs):=by
 exact cI (t:=TBond) (p:=(fun e=>!M.aN k0 e)) (fun i h0 h1=>by simp only[F.cM,aW])
theorem F.lO (xs:(List TBond.D)) (k0:LTb) (h_xs:Sm (Ty.sl TBond) xs) (h_k0:Sm (Ty.sl TTable) k0) (p0:∀e∈xs,(M.aA k0&&M.aN k0 e)=true):F.eP xs k0=some (List.any xs (fun e=>decide (0<=M.broken k0 e))):=by
 unfold F.eP
 exact cv (t:=TBond)
theorem F.jY (xs:(List TBond.D)) (k0:LTb) (h_xs:Sm (Ty.sl TBond) xs) (h_k0:Sm (Ty.sl TTable) k0):F.dQ xs k0=some (List.any xs (fun e=>!M.aN k0 e)):=by
 unfold F.dQ
 exact cv (t:=TBond)
theorem F.CF (tables:LTb) (bonds:(List TBond.D)) (h_tables:Sm (Ty.sl TTable) tables) (h_bonds:Sm (Ty.sl TBond) bonds) (p0:∀e∈bonds,(M.aA tables&&M.aN tables e)=true):F.BG tables bonds=some (!List.any bonds (fun e=>decide (0<=M.broken tables e))):=by
 rfl
theorem F.xS (tables:LTb) (bonds:(List TBond.D)) (h_tables:Sm (Ty.sl TTable) tables) (h_bonds:Sm (Ty.sl TBond) bonds):F.pL tables bonds=some (M.aA tables&&List.all bonds (M.aN tables)):=by
 unfold F.pL
 rw[ff,List.all_eq_not_any_not]
theorem F.rF (tables:LTb) (bonds:(List TBond.D)) (c:TChange.D) (h_tables:Sm (Ty.sl TTable) tables) (h_bonds:Sm (Ty.sl TBond) bonds) (h_c:Sm TChange c):F.ju tables bonds c=some (M.bR tables bonds c):=by
 unfold F.ju M.bR
 cases hc:M.aV tables c with
 | false=>rfl
 | true=>
 by_cases hl:bonds.length<=4
 case neg=>
  rw[decide_eq_true (show (4:Int)<(bonds.length:Int) by omega),decide_eq_false hl]
  rfl
 rw[decide_eq_false (show ¬(4:Int)<(bonds.length:Int) by omega),decide_eq_true hl,(M.gO hc).1]
 cases ho:List.all bonds (M.aN tables) with
 | false=>rfl
 | true=>
 have hB:=M.xp hc ho
 have sA:=M.zU h_tables h_c hc
 have hw0:=M.uq (bonds:=bonds) (f:=F.dA tables bonds c) (fun A hA hs=>by
  have hi:=M.Ds (t:=TBond) (M.loose A) bonds
  have hall:∀e∈bonds,(M.aA A&&M.aN A e)=true:=fun e he=>by rw[hA.1,hA.2 e he];rfl
  unfold F.dA
  rw[af hs,af hall]
  cases hf:bonds.find? (M.loose A) with
  | none=>
   rw[hf] at hi
   simp only at hi
   rw[show (M.idx (t:=TBond) (fun e=>M.loose A e) bonds)=-1 from hi]
   rfl
  | some b=>
   rw[hf] at hi
   simp only at hi
   obtain⟨i0,i1,i2⟩:=hi
   have hb:=List.mem_of_find?_eq_some hf
   have hp:=List.find?_some hf
   obtain⟨h0,h1⟩:=M.oF hA hb
   obtain⟨l0,l1,l2,_⟩:=M.kH hp
   have hrl:=(M.sw hA.1 h0 h1).1
   have sr:Sm (.sl (.sl aa)) (nth (t:=TTable) A b.2.1).2.1:=(ay (t:=TTable) hs b.2.1).2.1
   unfold M.dZ at l2
   unfold M.rowsOf at hrl
   have hw:wrap64 (M.broken A b+1)=M.broken A b+1:=aJ (by omega) (by omega)
   rw[decide_eq_false (show ¬(M.idx (t:=TBond) (fun e=>M.loose A e) bonds)<(0:Int) from Int.not_lt.2 i0),cond_false,af i0,af i1,show (nth (t:=TBond) bonds (M.idx (t:=TBond) (fun e=>M.loose A e) bonds))=b from i2]
   have hk:0<=M.broken A b:=l1
   rw[af (hall b hb),af h0,af h1,af hk,hw,af (by omega),af (by omega),show (M.broken A b+1).toNat=(M.broken A b).toNat+1 by omega,af (M.zQ sr _)]
   simp only[aY,M.qa]
   rw[af (by rw[List.length_set];exact h1),M.Ik h0 h1]
   rfl) 19 hB sA (Nat.lt_succ_of_le (M.size_le hB.1))
 obtain⟨_,r2,_,_⟩:=M.xC 19 hB (Nat.lt_succ_of_le (M.size_le hB.1))
 have sF:=M.si (bonds:=bonds) 19 sA
 simp only[aY,cond_true,cond_false,Bool.not_true,show ((false:Bool)==false)=true from rfl,Bool.and_self,Bool.true_and]
 rw[hw0,Option.bind_some,af sF,af (fun e he=>by rw[r2.1,r2.2 e he];rfl),M.HS hl r2.1 r2.2]
 cases List.any bonds (fun e=>decide (0<=M.broken (M.follow bonds 19 (M.bt tables c)) e))<;>rfl
theorem F.wL (x:TChange.D) (y:TChange.D) (h_x:Sm TChange x) (h_y:Sm TChange y) (p0:x=y):F.nK x y=some true:=by
 subst p0
 unfold F.nK
 simp[Ty.beq,M.di,M.iX]
theorem F.lT (aTables:LTb) (aBonds:(List TBond.D)) (aC:TChange.D) (h_aTables:Ln (Ty.sl TTable) aTables) (h_aBonds:Ln (Ty.sl TBond) aBonds) (h_aC:Ln TChange aC):F.eR aTables aBonds aC=some true:=by
 unfold F.eR
 rw[af (by decide),af (by decide)]
 by_cases h0:M.szS M.bH aTables 1048576<0
 ·rw[decide_eq_true h0]
  rfl
 rw[decide_eq_false h0,cond_false]
 have l0:=(M.lA M.tZ) aTables 1048576 (by decide)
 have u0:M.szS M.bH aTables 1048576<=1048576:=by omega
 have g0:0<=M.szS M.bH aTables 1048576:=by omega
 have s0:=(M.mg M.tZ M.AL) aTables 1048576 (by decide) (by decide) g0
 rw[af g0,af u0]
 by_cases h1:M.szS M.dj aBonds (M.szS M.bH aTables 1048576)<0
 ·rw[decide_eq_true h1]
  rfl
 rw[decide_eq_false h1,cond_false]
 have l1:=(M.lA M.wE) aBonds (M.szS M.bH aTables 1048576) g0
 have u1:M.szS M.dj aBonds (M.szS M.bH aTables 1048576)<=1048576:=by omega
 have g1:0<=M.szS M.dj aBonds (M.szS M.bH aTables 1048576):=by omega
 have s1:=(M.mg M.wE M.Cg) aBonds (M.szS M.bH aTables 1048576) g0 u0 g1
 rw[af g1,af u1]
 by_cases h2:M.ir aC (M.szS M.dj aBonds (M.szS M.bH aTables 1048576))<0
 ·rw[decide_eq_true h2]
  rfl
 rw[decide_eq_false h2,cond_false]
 have l2:=M.Dn aC (M.szS M.dj aBonds (M.szS M.bH aTables 1048576)) g1
 have u2:M.ir aC (M.szS M.dj aBonds (M.szS M.bH aTables 1048576))<=1048576:=by omega
 have g2:0<=M.ir aC (M.szS M.dj aBonds (M.szS M.bH aTables 1048576)):=by omega
 have s2:=M.zn aC (M.szS M.dj aBonds (M.szS M.bH aTables 1048576)) g1 u1 g2
 have sr:=M.xU (bonds:=aBonds) s0 s2
 generalize hr:(M.bR aTables aBonds aC)=RB at sr ⊢
 obtain⟨R,rb⟩:=RB
 replace sr:Sm (Ty.sl TTable) R:=sr
 have hbb:∀a:Bool,Ty.beq Ty.bool a a=true:=fun a=>by cases a<;>rfl
 have c0:M.count (Ty.sl TTable) aTables<=3458766712843796480:=Nat.le_trans (M.count_le s0) (by decide)
 have c1:M.count (Ty.sl TBond) aBonds<=7696585588736:=Nat.le_trans (M.count_le s1) (by decide)
 have c2:M.count (Ty.sl aa) aC.2.1<=3145730:=Nat.le_trans (M.count_le s2.2.1) (by decide)
 have cr:M.count (Ty.sl TTable) R<=3458766712843796480:=Nat.le_trans (M.count_le sr) (by decide)
 simp only[aY,M.qa,M.Gn,M.tj,hr,hbb,show ((false:Bool)==false)=true from rfl]
 simp only[decide_true,Bool.not_true,cond_false,M.di,M.iX,cond_true,show ((false:Bool)==false)=true from rfl]
 repeat rw[af (by first | exact s2.2.1 | exact M.BE s2.2.1 | exact s0 | exact s1 | exact s2 | exact sr | rfl | decide | exact M.BE s0 | exact M.BE s1 | exact M.BE s2 | exact M.BE sr | exact M.Ip (by decide) _ (M.BE sr) | exact M.FO _ _ _ | omega | (unfold M.big;omega))]
 rw[decide_eq_false (show ¬(1:Int)+(M.count (Ty.sl TTable) aTables:Int)+(M.count (Ty.sl TBond) aBonds:Int)+(M.count (Ty.sl aa) aC.2.1:Int)<0 by omega),show ((false:Bool)==false)=true from rfl,cond_true]
 rw[decide_eq_false (show ¬(1:Int)+(M.count (Ty.sl TTable) R:Int)<0 by omega),cond_false]
end Go.AE
