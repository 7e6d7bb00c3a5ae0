/- What the functions compute is what is said. -/
import Derived.Test.YtmkgiaecgkicoaaGreatAeF
import Derived.Test.YtmkgiaecgkicoaaGreatAeMark
import Derived.Test.YtmkgiaecgkicoaaGreatAeEqI
import Derived.Test.YtmkgiaecgkicoaaGreatAeEqI
import Derived.Test.YtmkgiaecgkicoaaGreatAeEqI
import Derived.Test.YtmkgiaecgkicoaaGreatAeEqI
namespace Go.AE
open Go Go.RowKit
set_option linter.unusedVariables false
set_option linter.unusedSimpArgs false
theorem F.ve (x:LC) (left:Int) (h_x:Ln (Ty.sl ai) x) (p0:0<=left) (p1:left<=1048576):F.mb x left=some (M.bE x.length left):=by
 unfold F.mb M.bE
 have h:=h_x.1
 rw[aK (n:=left-(x.length:Int)) (by omega) (by omega)]
 by_cases h2:left-(x.length:Int)<0<;>simp[h2]
theorem F.xO (x:aa.D) (left:Int) (h_x:Ln aa x) (p0:0<=left) (p1:left<=1048576):F.pK x left=some (M.bL x left):=by
 unfold F.pK M.bL M.bE
 have h:Bi x:=h_x.2.2.1
 unfold Bi at h
 rw[aK (n:=left-(x.2.2.1.size:Int)) (by omega) (by omega)]
 by_cases h2:left-(x.2.2.1.size:Int)<0<;>simp[h2]
theorem F.wB (x:LV) (left:Int) (h_x:Ln (Ty.sl aa) x) (p0:0<=left) (p1:left<=1048576):F.nY x left=some (M.szS M.bL x left):=by
 unfold F.nY
 exact M.vW M.dU h_x.1 p0 p1 (fun z l h0 h1=>by simp only[F.gJ,af h0,af h1,aV])
theorem F.uD (x:LLV) (left:Int) (h_x:Ln (Ty.sl (Ty.sl aa)) x) (p0:0<=left) (p1:left<=1048576):F.mE x left=some (M.szS (M.szS M.bL) x left):=by
 unfold F.mE
 exact M.vW (M.jU M.dU) h_x.1 p0 p1 (fun z l h0 h1=>by simp only[F.fV,af h0,af h1,aV])
theorem F.xX (x:TTable.D) (left:Int) (h_x:Ln TTable x) (p0:0<=left) (p1:left<=1048576):F.qg x left=some (M.bG x left):=by
 unfold F.qg M.bG M.iM
 have le0:=M.iq (List.length x.1) left p0
 by_cases c0:M.bE (List.length x.1) left<0
 ·rw[decide_eq_true c0,if_pos c0]
  rfl
 rw[decide_eq_false c0,if_neg c0]
 simp only[cond_false]
 have g0:0<=M.bE (List.length x.1) left:=by omega
 repeat rw[af (by first | exact g0 | omega)]
 have le1:=(M.jU (M.jU M.dU)) x.2.1 (M.bE (List.length x.1) left) g0
 by_cases c1:(M.szS (M.szS M.bL)) x.2.1 (M.bE (List.length x.1) left)<0
 ·rw[decide_eq_true c1,if_pos c1]
  rfl
 rw[decide_eq_false c1,if_neg c1]
 try rfl
theorem F.wS (x:LTb) (left:Int) (h_x:Ln (Ty.sl TTable) x) (p0:0<=left) (p1:left<=1048576):F.nO x left=some (M.szS M.bG x left):=by
 unfold F.nO
 exact M.vW M.tf h_x.1 p0 p1 (fun z l h0 h1=>by simp only[F.gO,af h0,af h1,aV])
theorem F.zm (x:(List Int)) (left:Int) (h_x:Ln (Ty.sl (Ty.int .i64)) x) (p0:0<=left) (p1:left<=1048576):F.qQ x left=some (M.bE x.length left):=by
 unfold F.qQ M.bE
 have h:=h_x.1
 rw[aK (n:=left-(x.length:Int)) (by omega) (by omega)]
 by_cases h2:left-(x.length:Int)<0<;>simp[h2]
theorem F.zx (x:ax.D) (left:Int) (h_x:Ln ax x) (p0:0<=left) (p1:left<=1048576):F.qA x left=some (M.gB x left):=by
 unfold F.qA M.gB M.iM
 have le0:=M.dU x.2.2.1 left p0
 by_cases c0:M.bL x.2.2.1 left<0
 ·rw[decide_eq_true c0,if_pos c0]
  rfl
 rw[decide_eq_false c0,if_neg c0]
 try rfl
theorem F.yy (x:LPt) (left:Int) (h_x:Ln (Ty.sl ax) x) (p0:0<=left) (p1:left<=1048576):F.pU x left=some (M.szS M.gB x left):=by
 unfold F.pU
 exact M.vW M.rS h_x.1 p0 p1 (fun z l h0 h1=>by simp only[F.iE,af h0,af h1,aV])
theorem F.zR (x:TBond.D) (left:Int) (h_x:Ln TBond x) (p0:0<=left) (p1:left<=1048576):F.ru x left=some (M.dc x left):=by
 unfold F.ru M.dc M.iM
 have le0:=M.iq (List.length x.2.2.1) left p0
 by_cases c0:M.bE (List.length x.2.2.1) left<0
 ·rw[decide_eq_true c0,if_pos c0]
  rfl
 rw[decide_eq_false c0,if_neg c0]
 simp only[cond_false]
 have g0:0<=M.bE (List.length x.2.2.1) left:=by omega
 repeat rw[af (by first | exact g0 | omega)]
 have le1:=M.iq (List.length x.2.2.2.2.1) (M.bE (List.length x.2.2.1) left) g0
 by_cases c1:M.bE (List.length x.2.2.2.2.1) (M.bE (List.length x.2.2.1) left)<0
 ·rw[decide_eq_true c1,if_pos c1]
  rfl
 rw[decide_eq_false c1,if_neg c1]
 simp only[cond_false]
 have g1:0<=M.bE (List.length x.2.2.2.2.1) (M.bE (List.length x.2.2.1) left):=by omega
 repeat rw[af (by first | exact g1 | omega)]
 have le2:=(M.jU M.rS) x.2.2.2.2.2.2.1 (M.bE (List.length x.2.2.2.2.1) (M.bE (List.length x.2.2.1) left)) g1
 by_cases c2:(M.szS M.gB) x.2.2.2.2.2.2.1 (M.bE (List.length x.2.2.2.2.1) (M.bE (List.length x.2.2.1) left))<0
 ·rw[decide_eq_true c2,if_pos c2]
  rfl
 rw[decide_eq_false c2,if_neg c2]
 try rfl
theorem F.xI (x:(List TBond.D)) (left:Int) (h_x:Ln (Ty.sl TBond) x) (p0:0<=left) (p1:left<=1048576):F.pH x left=some (M.szS M.dc x left):=by
 unfold F.pH
 exact M.vW M.vL h_x.1 p0 p1 (fun z l h0 h1=>by simp only[F.iy,af h0,af h1,aV])
theorem F.wL (x:TChange.D) (left:Int) (h_x:Ln TChange x) (p0:0<=left) (p1:left<=1048576):F.om x left=some (M.dF x left):=by
 unfold F.om M.dF M.iM
 have le0:=(M.jU M.dU) x.2.1 left p0
 by_cases c0:(M.szS M.bL) x.2.1 left<0
 ·rw[decide_eq_true c0,if_pos c0]
  rfl
 rw[decide_eq_false c0,if_neg c0]
 try rfl
theorem F.uF (x:(List TChange.D)) (left:Int) (h_x:Ln (Ty.sl TChange) x) (p0:0<=left) (p1:left<=1048576):F.mV x left=some (M.szS M.dF x left):=by
 unfold F.mV
 exact M.vW M.rF h_x.1 p0 p1 (fun z l h0 h1=>by simp only[F.gq,af h0,af h1,aV])
theorem F.BU (n:Int) (low:Int) (high:Int)  : F.vV n low high=some (M.inR n low high):=by
 unfold F.vV M.inR
 cases decide (low<=n)<;>rfl
theorem F.vH (columns:LC) (h_columns:Sm (Ty.sl ai) columns):F.mP columns=some (M.bD columns):=by
 unfold F.mP M.bD
 rw[fm M.dH () (fun x _=>by simp only[F.fZ,fR,aV]<;>rfl),show decide ((columns.length:Int)<=4)=decide (columns.length<=4) from decide_eq_decide.2 (by omega)]
 cases columns.all M.dH<;>simp
theorem F.zD (s:ByteArray) (h_s:Sm Ty.str s):F.rj s=some (M.text s):=by
 unfold F.rj M.text M.lower
 have key:∀c:Int,(cond ((decide (c<97))==false) (cond (decide (122<c)) (some (Sum.inr ())) (some (Sum.inl ()))) (some (Sum.inr ())):Option (Sum Unit Unit))=some (cond (M.inR c 97 122) (.inl ()) (.inr ())):=by
  intro c
  unfold M.inR
  by_cases h2:c<97
  ·simp[h2,show ¬ 97<=c by omega]
  ·by_cases h3:122<c
   ·simp[h2,h3,show 97<=c by omega,show ¬c<=122 by omega]
   ·simp[h2,h3,show 97<=c by omega,show c<=122 by omega]
 rw[fm (fun i=>M.inR (nth (t:=.int .u8) (bJ s) i) 97 122) () (fun i hi=>by
  obtain⟨h0,h1⟩:=cY.1 hi
  simp only[F.jk,BM h0 h1]
  exact key _)]
 rw[<-kL,Fv (t:=.int .u8) (bJ s) (fun n=>M.inR n 97 122),show decide (((bJ s).length:Int)<=6)=decide ((bJ s).length<=6) from decide_eq_decide.2 (by omega)]
 cases (bJ s).all fun n=>M.inR n 97 122<;>simp
theorem F.yb (v:aa.D) (h_v:Sm aa v):F.pV v=some (M.aO v):=by
 unfold F.pV M.aO
 simp only[eY]
 simp only[aV]
theorem F.Az (row:LV) (h_row:Sm (Ty.sl aa) row):F.tE row=some (M.oD row):=by
 unfold F.tE M.oD
 rw[fm M.aO () (fun x _=>by simp only[F.ki,fR,aV]<;>rfl),show decide ((row.length:Int)<=4)=decide (row.length<=4) from decide_eq_decide.2 (by omega)]
 cases row.all M.aO<;>simp
theorem F.xG (columns:LC) (row:LV) (h_columns:Sm (Ty.sl ai) columns) (h_row:Sm (Ty.sl aa) row):F.qp columns row=some (M.bH columns row):=by
 unfold F.qp M.bH
 cases M.bD columns
 ·rfl
 cases M.oD row
 ·rfl
 by_cases hl:row.length=columns.length
 ·rw[fm (M.tK columns row) () (fun i hi=>by
   obtain⟨h0,h1⟩:=cY.1 hi
   have h2:i<(columns.length:Int):=by omega
   simp only[F.iz,af h2]
   unfold M.tK
   cases decide ((nth (t:=aa) row i).1=(nth (t:=ai) columns i).1)<;>cases decide ((nth (t:=aa) row i).1=(0:Int))<;>cases (nth (t:=ai) columns i).2.1<;>rfl)]
  simp only[hl,Bool.not_true,decide_true,Bool.true_and,cond_true,cond_false]
  cases (aH 0 (columns.length:Int)).all (M.tK columns row)<;>rfl
 ·have h3:¬(row.length:Int)=(columns.length:Int):=by omega
  simp[hl,h3]
theorem F.yR (columns:LC) (rows:LLV) (h_columns:Sm (Ty.sl ai) columns) (h_rows:Sm (Ty.sl (Ty.sl aa)) rows):F.qX columns rows=some (M.fT columns rows):=by
 unfold F.qX M.fT
 rw[fm (M.bH columns) () (fun x _=>by simp only[F.jl,fR,aV])]
 cases rows.all (M.bH columns)<;>simp
theorem F.wj (tables:LTb) (h_tables:Sm (Ty.sl TTable) tables):F.oA tables=some (M.aA tables):=by
 unfold F.oA M.aA
 rw[fm M.cU () (fun x _=>by
  simp only[F.gK]
  unfold M.cU
  by_cases h:x.2.1.length<=6
  ·have h2:¬(6:Int)<(x.2.1.length:Int):=by omega
   simp only[h2,h,decide_true,decide_false,Bool.true_and]
   cases M.fT x.1 x.2.1<;>rfl
  ·have h2:(6:Int)<(x.2.1.length:Int):=by omega
   simp[h2,h]),show decide ((tables.length:Int)<=3)=decide (tables.length<=3) from decide_eq_decide.2 (by omega)]
 cases tables.all M.cU<;>simp
theorem F.tF (columns:LC) (list:(List Int)) (h_columns:Sm (Ty.sl ai) columns) (h_list:Sm (Ty.sl (Ty.int .i64)) list):F.lf columns list=some (M.bR columns list):=by
 unfold F.lf M.bR
 rw[fm (fun n=>M.inR n 0 ((columns.length:Int)-1)) () (fun x _=>by simp only[F.fL,fR,aV,lV _ h_columns.1])]
 cases list.all fun n=>M.inR n 0 ((columns.length:Int)-1)<;>simp
theorem F.zH (columns:LC) (kinds:(List Int)) (p:ax.D) (h_columns:Sm (Ty.sl ai) columns) (h_kinds:Sm (Ty.sl (Ty.int .i64)) kinds) (h_p:Sm ax p) (p0:kinds.length<=1000):F.kA columns kinds p=some (M.wq columns kinds p):=by
 obtain⟨o,s,e,_⟩:=uE (columns:=columns) p p0 h_columns.1
 unfold M.wq
 rw[e]
 rfl
theorem F.wN (columns:LC) (e:LPt) (h_columns:Sm (Ty.sl ai) columns) (h_e:Sm (Ty.sl ax) e):F.nW columns e=some (M.cV columns e):=by
 unfold F.nW M.cV
 cases M.bD columns
 ·rfl
 by_cases hl:e.length<=12
 ·rw[decide_eq_false (show ¬(12:Int)<(e.length:Int) by omega),decide_eq_true hl]
  obtain⟨o,s,h1,h2⟩:=Ba (columns:=columns) (E:=e) (by omega) h_columns.1 e.length 0 [] (by omega) (by omega) (by simp;omega)
  rw[show (0:Int)=((0:Nat):Int) from rfl,h1]
  rw[List.drop_zero] at h2
  unfold ot at h2
  cases hk:M.jj columns e [] with
  | none=>
   rw[hk] at h2
   simp only at h2
   subst h2
   rfl
  | some s'=>
   rw[hk] at h2
   obtain⟨rfl,rfl⟩:=h2
   match s with
   | []=>rfl
   | [a]=>exact af (by simp)
   | a::b::l=>
    have:¬((a::b::l).length:Int)=1:=by simp;omega
    simp only[Option.bind_some,this,decide_false]
    rfl
 ·rw[decide_eq_true (show (12:Int)<(e.length:Int) by omega),decide_eq_false hl]
  rfl
theorem F.zy (tables:LTb) (b:TBond.D) (h_tables:Sm (Ty.sl TTable) tables) (h_b:Sm TBond b):F.qE tables b=some (M.aA tables&&M.aX tables b):=by
 unfold F.qE M.aX
 rw[lV _ h_tables.1]
 cases M.aA tables
 ·rfl
 cases hin:M.inR b.2.1 0 ((tables.length:Int)-1)
 ·rfl
 simp only[eY]
 simp only[Dz,zN,Gh,EC]
 by_cases e1:b.1=(1:Int)
 ·simp only[e1,decide_true,cond_true,Bool.not_true,Bool.true_and,show ((false:Bool)==false)=true from rfl,cond_false]
 by_cases e3:b.1=(3:Int)
 ·simp only[e3,decide_true,decide_false,cond_true,cond_false,Int.reduceEq,Bool.not_true,Bool.true_and,show ((false:Bool)==false)=true from rfl]
 by_cases e2:b.1=(2:Int)
 ·simp only[e2,decide_true,decide_false,cond_true,cond_false,Int.reduceEq,Bool.not_true,Bool.true_and,show ((false:Bool)==false)=true from rfl]
  cases hof:M.inR b.2.2.2.1 0 ((tables.length:Int)-1)
  ·rfl
  cases hl1:M.bR (nth (t:=TTable) tables b.2.1).1 b.2.2.1
  ·rfl
  cases hl2:M.bR (nth (t:=TTable) tables b.2.2.2.1).1 b.2.2.2.2.1
  ·rfl
  by_cases hle:b.2.2.1.length=b.2.2.2.2.1.length
  ·cases he:decide (b.2.2.2.2.2.2.1.length=0)
   ·simp[hle]
   simp only[hle,decide_true,Bool.not_true,Bool.not_false,Bool.true_and,cond_true,cond_false]
   rw[<-hle]
   rw[fm (fun i=>decide ((nth (t:=ai) (nth (t:=TTable) tables b.2.1).1 (nth (t:=.int .i64) b.2.2.1 i)).1=(nth (t:=ai) (nth (t:=TTable) tables b.2.2.2.1).1 (nth (t:=.int .i64) b.2.2.2.2.1 i)).1)) () (fun i hi=>by
    obtain⟨i0,i1⟩:=cY.1 hi
    have a1:=oJ hl1 (BN (t:=.int .i64) hi)
    have i2:i<(b.2.2.2.2.1.length:Int):=by omega
    have a2:=oJ hl2 (dS (t:=.int .i64) i0 i2)
    have a3:=vU hof
    simp only[F.js]
    rw[af a1.1,af a1.2,af a3.1,af (Int.lt_of_le_sub_one a3.2),af i2,af a2.1,af a2.2]
    rw[fR,aV])]
   simp only[Bool.not_true,Bool.true_and,show ((false:Bool)==false)=true from rfl,cond_true,cond_false]
   cases (aH 0 (b.2.2.1.length:Int)).all fun i=>decide ((nth (t:=ai) (nth (t:=TTable) tables b.2.1).1 (nth (t:=.int .i64) b.2.2.1 i)).1=(nth (t:=ai) (nth (t:=TTable) tables b.2.2.2.1).1 (nth (t:=.int .i64) b.2.2.2.2.1 i)).1)<;>rfl
  ·simp[hle,Ne.symm hle]
 ·simp[e1,e2,e3]
theorem F.xR (truth:Int)  : F.pN truth=some (M.valueOf truth):=by
 unfold F.pN M.valueOf M.inR
 by_cases h0:truth=0
 ·subst h0;rfl
 ·by_cases h1:truth=1
  ·subst h1;rfl
  ·have h2:¬(0<=truth/\truth<=1):=by omega
   simp only[h0,h1,decide_false]
   by_cases h3:0<=truth
   ·have h4:¬truth<=1:=by omega
    simp[h3,h4]
   ·simp[h3]
theorem F.Av (a:aa.D) (b:aa.D) (h_a:Sm aa a) (h_b:Sm aa b):F.sW a b=some (M.sum a b):=by
 unfold F.sW M.sum
 have e:(0:Int)-9999=-9999:=rfl
 cases decide (a.1=(0:Int))<;>cases decide (b.1=(0:Int))<;>cases M.inR (wrap64 (a.2.1+b.2.1)) (-9999) 9999<;>rfl
theorem F.yY (b:Bool)  : F.rD b=some (M.bool b):=by
 unfold F.rD M.bool
 rw[aV]
theorem F.zY (a:Int) (b:Int)  : F.qT a b=some (M.less a b):=by
 unfold F.qT M.less
 rw[aV]
theorem F.AM (a:ByteArray) (b:ByteArray) (h_a:Sm Ty.str a) (h_b:Sm Ty.str b):F.tW a b=some (M.vG a b):=by
 unfold F.tW M.vG
 simp only[aV]
theorem F.tj (a:aa.D) (b:aa.D) (h_a:Sm aa a) (h_b:Sm aa b):F.ld a b=some (M.dD a b):=by
 unfold F.ld M.dD
 cases M.aO a
 ·rfl
 cases M.aO b
 ·rfl
 unfold M.order M.less M.vE
 by_cases h1:a.1=b.1
 ·by_cases h2:a.2.1=b.2.1
  ·simp[h1,h2,M.orI]
   generalize M.vG a.2.2.1 b.2.2.1=c
   by_cases hc:c=0<;>simp[hc]
  ·rcases Int.lt_or_gt_of_ne h2 with h | h
   ·have h3:¬b.2.1<a.2.1:=Int.lt_asymm h
    simp[h1,h2,h,h3,M.orI]
    rfl
   ·have h3:¬a.2.1<b.2.1:=Int.lt_asymm h
    simp[h1,h2,h,h3,M.orI]
    rfl
 ·rcases Int.lt_or_gt_of_ne h1 with h | h
  ·have h3:¬b.1<a.1:=Int.lt_asymm h
   simp[h1,h,h3,M.orI]
   rfl
  ·have h3:¬a.1<b.1:=Int.lt_asymm h
   simp[h1,h,h3,M.orI]
   rfl
theorem F.xD (kind:Int) (a:aa.D) (b:aa.D) (h_a:Sm aa a) (h_b:Sm aa b):F.qi kind a b=some (M.compare kind a b):=by
 unfold F.qi M.compare M.dD M.Aa
 cases M.inR kind 1 4
 ·rfl
 cases M.aO a
 ·rfl
 cases M.aO b
 ·rfl
 cases decide (a.1=(0:Int))<;>cases decide (b.1=(0:Int))<;>cases decide (a.1=b.1)<;>cases decide (kind=1)<;>cases decide (kind=2)<;>cases decide (kind=3)<;>rfl
theorem F.xZ (n:Int)  : F.uR n=some (M.inR n 0 2):=by
 rfl
theorem F.zV (n:Int) (p0:M.inR n 0 2=true):F.qI n=some (M.sure n):=by
 have h3:n=0\/n=1\/n=2:=by
  unfold M.inR at p0
  simp at p0
  omega
 rcases h3 with rfl | rfl | rfl<;>(unfold F.qI;(repeat rw[af (by decide)]);rfl)
theorem F.AZ (a:Int) (b:Int)  : F.sZ a b=some (M.qP a b):=by
 unfold F.sZ M.qP M.fold
 cases ha:M.inR a 0 2
 ·rfl
 cases hb:M.inR b 0 2
 ·rfl
 have h3:∀n,M.inR n 0 2=true->n=0\/n=1\/n=2:=by
  intro n hn
  unfold M.inR at hn
  simp at hn
  omega
 rcases h3 a ha with rfl | rfl | rfl<;>rcases h3 b hb with rfl | rfl | rfl<;>(repeat rw[af (by rfl)])<;>rfl
theorem F.yg (v:aa.D) (h_v:Sm aa v):F.qf v=some (M.bQ v):=by
 unfold F.qf M.bQ
 cases hv:M.aO v
 ·rfl
 simp only[Bool.not_true,cond_true,cond_false]
 unfold M.aO at hv
 by_cases h0:v.1=(0:Int)
 ·simp[h0]
 ·by_cases h1:v.1=(1:Int)
  ·simp[h1]
  ·by_cases h2:v.1=(2:Int)
   ·simp[h2]
   ·by_cases h3:v.1=(3:Int)
    ·simp[h3]
    ·simp[h0,h1,h2,h3] at hv
theorem F.BW (a:Int) (b:Int)  : F.vJ a b=some (M.ze a b):=by
 unfold F.vJ M.ze M.fold
 cases ha:M.inR a 0 2
 ·rfl
 cases hb:M.inR b 0 2
 ·rfl
 have h3:∀n,M.inR n 0 2=true->n=0\/n=1\/n=2:=by
  intro n hn
  unfold M.inR at hn
  simp at hn
  omega
 rcases h3 a ha with rfl | rfl | rfl<;>rcases h3 b hb with rfl | rfl | rfl<;>(repeat rw[af (by rfl)])<;>rfl
theorem F.AF (a:Int)  : F.tV a=some (M.rG a):=by
 unfold F.tV M.rG
 cases ha:M.inR a 0 2
 ·unfold M.inR at ha
  simp at ha
  have h0:¬a=0:=by omega
  have h1:¬a=1:=by omega
  have h2:¬a=2:=by omega
  simp[h0,h1,h2]
 ·have h3:a=0\/a=1\/a=2:=by
   unfold M.inR at ha
   simp at ha
   omega
  rcases h3 with rfl | rfl | rfl<;>(repeat rw[af (by rfl)])<;>rfl
theorem F.Co (row:LV) (values:LV) (p:ax.D) (h_row:Sm (Ty.sl aa) row) (h_values:Sm (Ty.sl aa) values) (h_p:Sm ax p) (p0:values.length<=1000) (p1:M.takes p<=(values.length:Int)) (p2:1<=p.1/\p.1<=8) (p3:M.ni p row.length):F.rU row values p=some (M.eG row values p):=by
 exact Ee p values (show Sm ax p from h_p) h_values p0 p1 p2 p3
theorem F.yd (row:LV) (e:LPt) (h_row:Sm (Ty.sl aa) row) (h_e:Sm (Ty.sl ax) e) (p0:M.jh row.length e):F.qk row e=some (M.eg row e):=by
 unfold F.qk M.eg
 obtain⟨h1,h2⟩:=zA (f:=F.ee row e) h_row (fun p st hp hs hl h1 hk hc=>Ay p st hs hl h1 hk hc) e [] h_e.2 (Ao aa) (by simp;have:=p0.1;omega) p0.2
 rw[h1,bP,af (by omega)]
theorem F.yw (row:LV) (list:(List Int)) (h_row:Sm (Ty.sl aa) row) (h_list:Sm (Ty.sl (Ty.int .i64)) list) (p0:M.eI row list):F.pP row list=some (M.taken row list):=by
 unfold F.pP
 rw[ud (fun i=>nth (t:=aa) row i) (fun x hx s hs=>by
  have hl:=h_list.1
  obtain⟨h0,h1⟩:=p0 x hx
  simp only[F.iD]
  rw[af h0,af h1,af (by unfold lim;simp;omega)])]
 rfl
theorem F.xK (values:LV) (h_values:Sm (Ty.sl aa) values):F.qc values=some (M.jZ values):=by
 unfold F.qc M.jZ
 rw[Hi (fun v:aa.D=>decide (v.1=(0:Int))) () (fun x _=>by simp only[F.iA,aV])]
 cases values.any fun v:aa.D=>decide (v.1=(0:Int))<;>rfl
theorem F.yL (a:LV) (b:LV) (h_a:Sm (Ty.sl aa) a) (h_b:Sm (Ty.sl aa) b):F.xe a b=some (decide (a=b)):=by
 exact CQ (t:=aa) (fun i h0 h1 h2=>by simp only[F.jf,af h2,fR,aV,EP (t:=aa) rfl])
theorem F.uI (tables:LTb) (b:TBond.D) (h_tables:Sm (Ty.sl TTable) tables) (h_b:Sm TBond b) (p0:(M.aA tables&&M.aX tables b)=true):F.mC tables b=some (M.broken tables b):=by
 obtain⟨ht,hb⟩:=Bool.and_eq_true_iff.1 p0
 obtain⟨⟨b0,b1⟩,hk⟩:=tZ hb
 have htm:=dS (t:=TTable) b0 b1
 unfold F.mC M.broken
 repeat rw[af (by first | exact b0 | exact b1)]
 rw[Bp (M.breaks tables b) (fun i hi=>by
  have hrm:=BN (t:=.sl aa) hi
  obtain⟨n0,n1⟩:=cY.1 hi
  have hrow:=yF ht htm hrm
  have hlen:(nth (t:=TTable) tables b.2.1).2.1.length<=1048576:=(ay h_tables b.2.1).2.1.1
  simp only[F.gj]
  unfold M.breaks M.gu
  rcases hk with⟨e1,hl⟩ | ⟨e3,he⟩ | ⟨e2,hl,ho,hl2⟩
  ·have hir:=qW ht htm hrm hl
   simp only[e1,decide_true,decide_false,cond_true,cond_false,Int.reduceEq,aU]
   rw[af hir]
   cases hn:M.jZ (M.taken (nth (t:=.sl aa) (nth (t:=TTable) tables b.2.1).2.1 i) b.2.2.1)
   ·rw[Fs i (fun j=>decide (M.taken (nth (t:=.sl aa) (nth (t:=TTable) tables b.2.1).2.1 j) b.2.2.1=M.taken (nth (t:=.sl aa) (nth (t:=TTable) tables b.2.1).2.1 i) b.2.2.1)) (by omega) (fun j j0=>by
     unfold F.eC
     rw[hn]
     by_cases hj:j<i
     ·have hjm:=dS (t:=.sl aa) (xs:=(nth (t:=TTable) tables b.2.1).2.1) j0 (by omega)
      rw[decide_eq_true hj,if_pos hj]
      simp only[Bool.not_false,cond_true,show ((true:Bool)==true)=true from rfl,aU]
      rw[af j0,af (show j<((nth (t:=TTable) tables b.2.1).2.1.length:Int) by omega),af (qW ht htm hjm hl)]
      generalize decide (M.taken (nth (t:=.sl aa) (nth (t:=TTable) tables b.2.1).2.1 j) b.2.2.1=M.taken (nth (t:=.sl aa) (nth (t:=TTable) tables b.2.1).2.1 i) b.2.2.1)=c
      cases c<;>rfl
     ·rw[decide_eq_false hj,if_neg hj]
      rfl) i.toNat 0 (by omega) (by omega)]
    rw[GL (t:=.sl aa) (nth (t:=TTable) tables b.2.1).2.1 (fun r=>decide (M.taken r b.2.2.1=M.taken (nth (t:=.sl aa) (nth (t:=TTable) tables b.2.1).2.1 i) b.2.2.1)) n0 (by omega)]
    generalize ((nth (t:=TTable) tables b.2.1).2.1.take i.toNat).any (fun r=>decide (M.taken r b.2.2.1=M.taken (nth (t:=.sl aa) (nth (t:=TTable) tables b.2.1).2.1 i) b.2.2.1))=c
    cases c<;>rfl
   ·rw[cP]
    unfold F.eC
    rw[hn]
    cases decide ((0:Int)<i)<;>rfl
  ·have hs:=Bn (columns:=(nth (t:=TTable) tables b.2.1).1) (e:=b.2.2.2.2.2.2.1) (by rw[he];decide)
   rw[<-hrow] at hs
   simp only[e3,decide_true,decide_false,cond_true,cond_false,Int.reduceEq,aU]
   rw[af hs,aV]
  ·have hir:=qW ht htm hrm hl
   have hom:=dS (t:=TTable) ho.1 ho.2
   have hlen2:(nth (t:=TTable) tables b.2.2.2.1).2.1.length<=1048576:=(ay h_tables b.2.2.2.1).2.1.1
   simp only[e2,decide_true,decide_false,cond_true,cond_false,Int.reduceEq,aU]
   rw[af hir]
   rw[Di ((nth (t:=TTable) tables b.2.2.2.1).2.1.length:Int) (fun j=>decide (M.taken (nth (t:=.sl aa) (nth (t:=TTable) tables b.2.2.2.1).2.1 j) b.2.2.2.2.1=M.taken (nth (t:=.sl aa) (nth (t:=TTable) tables b.2.1).2.1 i) b.2.2.1)) (by omega) (fun f j j0=>by
    unfold F.gp
    simp only
    rw[af ho.1,af ho.2]
    by_cases hj:j<((nth (t:=TTable) tables b.2.2.2.1).2.1.length:Int)
    ·have hjm:=dS (t:=.sl aa) (xs:=(nth (t:=TTable) tables b.2.2.2.1).2.1) j0 hj
     rw[decide_eq_true hj,if_pos hj]
     cases f with
     | true=>rfl
     | false=>
      simp only[Bool.not_false,cond_true,cond_false,show ((true:Bool)==true)=true from rfl,aU]
      rw[af j0]
      repeat rw[af (by first | exact hj | exact qW ht hom hjm hl2)]
    ·rw[decide_eq_false hj,if_neg hj]
     rfl) _ _ 0 rfl (by omega)]
   rw[Bt (t:=.sl aa) (nth (t:=TTable) tables b.2.2.2.1).2.1 (fun r=>decide (M.taken r b.2.2.2.2.1=M.taken (nth (t:=.sl aa) (nth (t:=TTable) tables b.2.1).2.1 i) b.2.2.1))]
   generalize (nth (t:=TTable) tables b.2.2.2.1).2.1.any (fun r=>decide (M.taken r b.2.2.2.2.1=M.taken (nth (t:=.sl aa) (nth (t:=TTable) tables b.2.1).2.1 i) b.2.2.1))=c
   generalize M.jZ (M.taken (nth (t:=.sl aa) (nth (t:=TTable) tables b.2.1).2.1 i) b.2.2.1)=d
   cases c<;>cases d<;>rfl)]
 unfold M.gu
 cases (aH 0 ((nth (t:=TTable) tables b.2.1).2.1.length:Int)).find? (M.breaks tables b)<;>rfl
theorem F.tu (tables:LTb) (b:TBond.D) (h_tables:Sm (Ty.sl TTable) tables) (h_b:Sm TBond b):F.kW tables b=some (M.de tables b):=by
 unfold F.kW M.de
 cases h:(M.aA tables&&M.aX tables b)<;>rfl
theorem F.uL (tables:LTb) (bonds:(List TBond.D)) (h_tables:Sm (Ty.sl TTable) tables) (h_bonds:Sm (Ty.sl TBond) bonds):F.mh tables bonds=some (M.bA tables bonds):=by
 unfold F.mh M.bA
 rw[fm (fun b=>decide (M.de tables b=-1)) () (fun x _=>by simp only[F.gi,fR,aV]),show decide ((bonds.length:Int)<=4)=decide (bonds.length<=4) from decide_eq_decide.2 (by omega)]
 cases bonds.all fun b=>decide (M.de tables b=-1)<;>simp
theorem F.AW (row:LV) (h_row:Sm (Ty.sl aa) row):F.zj row=some row:=by
 rfl
theorem F.uT (tables:LTb) (h_tables:Sm (Ty.sl TTable) tables):F.mg tables=some tables:=by
 unfold F.mg
 rw[M.yj (t:=TTable) tables (fun i s i0 i1 hs=>by
  have hl:=h_tables.1
  have hr:(nth (t:=TTable) tables i).2.1.length<=1048576:=(ay h_tables i).2.1.1
  unfold F.gd
  rw[M.Ea (t:=.sl aa) (nth (t:=TTable) tables i).2.1 (fun j w j0 j1 hw=>by
   unfold F.ew
   simp only[aU]
   rw[af i0,af i1,decide_eq_true j1,cond_true,af j0,af j1,af (by unfold lim;simp;omega),aK (n:=j+1) (by omega) (by omega)]) (fun j w j0 j1=>by
   unfold F.ew
   simp only
   rw[af i0,af i1,decide_eq_false (Int.not_lt.2 j1),cond_false])]
  show ag _ _=_
  rw[af (by unfold lim;simp;omega)]
  rfl)]
 rfl
theorem F.yx (rows:LLV) (row:LV) (h_rows:Sm (Ty.sl (Ty.sl aa)) rows) (h_row:Sm (Ty.sl aa) row):F.pE rows row=some (M.cz rows row:Int):=by
 unfold F.pE M.cz
 have hl:=h_rows.1
 have key:∀(l:List (List aa.D)) (v:Int),0<=v->v+(l.length:Int)<=1048576->aJ (F.fP rows row) l v=some (.inl (v+(l.countP (fun r=>decide (r=row)):Int))):=by
  intro l
  induction l with
  | nil=>intro v _ _;show some (Sum.inl v)=some (Sum.inl (v+0));rw[Int.add_zero]
  | cons x l ih=>
   intro v h0 hb
   simp only[List.length_cons] at hb
   rw[bZ,List.countP_cons,show F.fP rows row x v=cond (decide (x=row)) (some (.inl (wrap64 (v+(1:Int))))) (some (.inl v)) from rfl]
   cases decide (x=row) with
   | true=>
    rw[cond_true,aK (n:=v+(1:Int)) (by omega) (by omega),bP,ih _ (by omega) (by omega)]
    congr 2
    simp
    omega
   | false=>
    rw[cond_false,bP,ih _ h0 (by omega)]
    congr 2
 rw[key rows 0 (by omega) (by omega),bP,Int.zero_add]
theorem F.wH (tables:LTb) (c:TChange.D) (h_tables:Sm (Ty.sl TTable) tables) (h_c:Sm TChange c):F.nK tables c=some (M.bf tables c):=by
 unfold F.nK M.bf
 have:=h_tables.1
 rw[aK (n:=(tables.length:Int)-(1:Int)) (by omega) (by omega),M.HZ]
 cases M.aA tables<;>cases M.inR c.1 0 ((tables.length:Int)-1)<;>cases M.bH (nth (t:=TTable) tables c.1).1 c.2.1<;>cases c.2.2.1<;>cases decide (((nth (t:=TTable) tables c.1).2.1.length:Int)<(6:Int))<;>rfl
theorem F.vN (a:LLV) (b:LLV) (h_a:Sm (Ty.sl (Ty.sl aa)) a) (h_b:Sm (Ty.sl (Ty.sl aa)) b):F.oa a b=some (M.mH a b):=by
 unfold F.oa M.mH
 rw[M.FT (b:=b) h_a (fun z s hl h1 h2=>by
  have:=h_a.1
  unfold F.gX M.eH
  rw[af h2]
  cases decide ((M.cz s.2 z:Int)<(M.cz b z:Int)) with
  | true=>
   rw[cond_true,cond_true,af (by simp only[List.length_cons,List.length_nil,lim];omega)]
  | false=>
   rw[cond_false,cond_false]
   try rw[aU]
   rw[af (by simp only[List.length_cons,List.length_nil,lim];omega)])]
 rfl
theorem F.su (tables:LTb) (c:TChange.D) (h_tables:Sm (Ty.sl TTable) tables) (h_c:Sm TChange c):F.jI tables c=some (cond (M.bf tables c) (M.bu tables c) [],M.bf tables c):=by
 unfold F.jI
 cases h:M.bf tables c with
 | false=>rfl
 | true=>
  obtain⟨h1,⟨h2,h3⟩,h4,h5,h6⟩:=M.lM h
  have sr:Sm (.sl (.sl aa)) (nth (t:=TTable) tables c.1).2.1:=(ay (t:=TTable) h_tables c.1).2.1
  have hl:=(M.Fg h1 h2 h3).1
  unfold M.rowsOf at hl
  simp only[aU,Bool.not_true,cond_false,cond_true]
  unfold M.bu M.iS
  cases hc:c.2.2.1 with
  | true=>
   simp only[cond_true]
   rw[af h2,af h3,af (by simp only[List.length_cons,List.length_nil,lim];omega),af (by rw[List.length_set];exact h3),M.Iy h2 h3]
  | false=>
   have h7:=h6 hc
   unfold M.rowsOf at h7
   simp only[cond_false]
   rw[af h2,af h3,af sr,M.Hr _ _ h7]
theorem F.tr (tables:LTb) (bonds:(List TBond.D)) (changes:(List TChange.D)) (h_tables:Sm (Ty.sl TTable) tables) (h_bonds:Sm (Ty.sl TBond) bonds) (h_changes:Sm (Ty.sl TChange) changes):F.kP tables bonds changes=some (M.cE tables bonds changes):=by
 unfold F.kP M.cE
 cases h1:M.aA tables with
 | false=>rfl
 | true=>
 cases h2:M.bA tables bonds with
 | false=>rfl
 | true=>
 by_cases h3:changes.length<=8
 case neg=>
  rw[decide_eq_true (show (8:Int)<(changes.length:Int) by omega),decide_eq_false h3]
  rfl
 rw[decide_eq_false (show ¬(8:Int)<(changes.length:Int) by omega),decide_eq_true h3]
 obtain⟨hl,hb⟩:=M.zw h2
 simp only[aU]
 obtain⟨e,_⟩:=si (f:=F.dR tables bonds changes) (M.dO bonds) (fun now=>Sm (.sl TTable) now/\M.BQ now tables) (xs:=changes) ⟨h_tables,rfl,fun _ _=>rfl⟩ (fun c hc now hI=>by
  have sc:=h_changes.2 c hc
  refine⟨?_,M.Cs hI.1 sc,M.tO (M.Bh c) hI.2⟩
  unfold F.dR M.dO
  rw[af hI.1]
  simp only[aU]
  cases hk:M.bf now c with
  | false=>rfl
  | true=>
   have sa:=M.zo hI.1 sc hk
   simp only[cond_true,Bool.true_and,show ((true:Bool)==true)=true from rfl]
   rw[af sa]
   cases M.bA (M.bu now c) bonds<;>rfl)
 rw[show ((!true:Bool)==false)=true from rfl]
 simp only[cond_true,cond_false]
 rw[e]
 rfl
theorem F.wm (x:ai.D)  : F.sM x=some x:=by
 rfl
theorem F.vo (x:LC) (h_x:Sm (Ty.sl ai) x):F.mU x=some x:=by
 unfold F.mU
 exact M.to_eq (t:=ai) (fun i v h0 h1 h2=>by simp only[F.gm,aU,af h2])
theorem F.xE (x:aa.D) (h_x:Sm aa x):F.vf x=some x:=by
 rfl
theorem F.wu (x:LV) (h_x:Sm (Ty.sl aa) x):F.nB x=some x:=by
 unfold F.nB
 exact M.to_eq (t:=aa) (fun i v h0 h1 h2=>by simp only[F.gU,aU,af h2])
theorem F.vw (x:LLV) (h_x:Sm (Ty.sl (Ty.sl aa)) x):F.mc x=some x:=by
 unfold F.mc
 exact M.to_eq (t:=(Ty.sl aa)) (fun i v h0 h1 h2=>by simp only[F.gn,aU,af h2])
theorem F.vY (x:LTb) (h_x:Sm (Ty.sl TTable) x):F.nH x=some x:=by
 unfold F.nH
 exact M.to_eq (t:=TTable) (fun i v h0 h1 h2=>by simp only[F.gV,aU,af h2])
theorem F.zf (x:(List Int)) (h_x:Sm (Ty.sl (Ty.int .i64)) x):F.rq x=some x:=by
 unfold F.rq
 exact M.to_eq (t:=(Ty.int .i64)) (fun i v h0 h1 h2=>by simp only[F.je,aU,af h2])
theorem F.zB (x:ax.D) (h_x:Sm ax x):F.xw x=some x:=by
 rfl
theorem F.xM (x:LPt) (h_x:Sm (Ty.sl ax) x):F.pe x=some x:=by
 unfold F.pe
 exact M.to_eq (t:=ax) (fun i v h0 h1 h2=>by simp only[F.iH,aU,af h2])
theorem F.xN (x:(List TBond.D)) (h_x:Sm (Ty.sl TBond) x):F.pz x=some x:=by
 unfold F.pz
 exact M.to_eq (t:=TBond) (fun i v h0 h1 h2=>by simp only[F.iG,aU,af h2])
theorem F.uZ (x:(List TChange.D)) (h_x:Sm (Ty.sl TChange) x):F.mI x=some x:=by
 unfold F.mI
 exact M.to_eq (t:=TChange) (fun i v h0 h1 h2=>by simp only[F.ga,aU,af h2])
theorem F.xQ (n:Int) (low:Int) (high:Int)  : F.qd n low high=some (M.inR n low high):=by
 unfold F.qd M.inR
 cases decide (low<=n)<;>rfl
theorem F.sx (c:ai.D)  : F.oR c=some (!M.dH c):=by
 rfl
theorem F.kF (xs:LC) (h_xs:Sm (Ty.sl ai) xs):F.gy xs=some (M.idx (t:=ai) (fun e=>!M.dH e) xs):=by
 exact cJ (t:=ai) (p:=(fun e=>!M.dH e)) (fun i h0 h1=>by simp only[F.cw,aV])
theorem F.jm (xs:LC) (h_xs:Sm (Ty.sl ai) xs):F.dw xs=some (List.any xs (fun e=>!M.dH e)):=by
 unfold F.dw
 exact cm (t:=ai)
theorem F.vA (columns:LC) (h_columns:Sm (Ty.sl ai) columns):F.mM columns=some (M.bD columns):=by
 unfold F.mM M.bD
 rw[eY,show decide ((columns.length:Int)<=4)=decide (columns.length<=4) from decide_eq_decide.2 (by omega)]
 rw[List.all_eq_not_any_not]
theorem F.qy (v:aa.D) (h_v:Sm aa v):F.mq v=some (decide (v.1=0)):=by
 rfl
theorem F.xU (s:ByteArray) (h_s:Sm Ty.str s):F.qo s=some (M.lower (bJ s)):=by
 unfold F.qo M.lower
 rw[fm (fun n=>M.inR n 97 122) () (fun x hx=>by
  obtain⟨h0,h1⟩:=Hh hx
  simp only[F.iJ,fR,aV,aK (n:=x) (by omega) (by omega)])]
 cases (bJ s).all fun n=>M.inR n 97 122<;>rfl
theorem F.vZ (v:aa.D) (h_v:Sm aa v):F.nA v=some (M.aO v):=by
 unfold F.nA M.aO M.text
 simp only[eY]
 rw[show decide ((v.2.2.1.size:Int)<=6)=decide (v.2.2.1.size<=6) from decide_eq_decide.2 (by omega)]
 simp only[Ty.beq]
 cases h0:decide (v.1=(0:Int))
 ·generalize decide (v.1=(1:Int))=b1
  generalize decide (v.1=(2:Int))=b2
  generalize decide (v.1=(3:Int))=b3
  generalize decide (v.2.1=(0:Int))=c0
  generalize decide (v.2.2.1.size<=6)=c6
  generalize M.inR v.2.1 (-9999) 9999=c1
  generalize M.inR v.2.1 0 1=c3
  generalize decide (v.2.2.1=M.none_)=e0
  cases b1<;>cases b2<;>cases b3<;>cases c0<;>cases c6<;>cases c1<;>cases c3<;>cases e0<;>rfl
 ·simp only[cond_true,Bool.true_and,Bool.and_true]
theorem F.xV (v:aa.D) (h_v:Sm aa v):F.vu v=some (!M.aO v):=by
 rfl
theorem F.jt (xs:LV) (h_xs:Sm (Ty.sl aa) xs):F.fM xs=some (M.idx (t:=aa) (fun e=>decide (e.1=0)) xs):=by
 exact cJ (t:=aa) (p:=(fun e=>decide (e.1=0))) (fun i h0 h1=>by simp only[F.bY,aV])
theorem F.mY (xs:LV) (h_xs:Sm (Ty.sl aa) xs):F.jq xs=some (M.idx (t:=aa) (fun e=>!M.aO e) xs):=by
 exact cJ (t:=aa) (p:=(fun e=>!M.aO e)) (fun i h0 h1=>by simp only[F.cS,aV])
theorem F.iO (xs:LV) (h_xs:Sm (Ty.sl aa) xs):F.cR xs=some (List.any xs (fun e=>decide (e.1=0))):=by
 unfold F.cR
 exact cm (t:=aa)
theorem F.kK (xs:LV) (h_xs:Sm (Ty.sl aa) xs):F.dZ xs=some (List.any xs (fun e=>!M.aO e)):=by
 unfold F.dZ
 exact cm (t:=aa)
theorem F.AJ (row:LV) (h_row:Sm (Ty.sl aa) row):F.tC row=some (M.oD row):=by
 unfold F.tC M.oD
 rw[eY,show decide ((row.length:Int)<=4)=decide (row.length<=4) from decide_eq_decide.2 (by omega)]
 rw[List.all_eq_not_any_not]
theorem F.ya (columns:LC) (row:LV) (h_columns:Sm (Ty.sl ai) columns) (h_row:Sm (Ty.sl aa) row):F.qh columns row=some (M.bH columns row):=by
 unfold F.qh M.bH
 cases M.bD columns
 ·rfl
 cases M.oD row
 ·rfl
 by_cases hl:row.length=columns.length
 ·rw[fm (M.tK columns row) () (fun i hi=>by
   obtain⟨h0,h1⟩:=cY.1 hi
   have h2:i<(columns.length:Int):=by omega
   simp only[F.iC,af h2]
   unfold M.tK
   cases decide ((nth (t:=aa) row i).1=(nth (t:=ai) columns i).1)<;>cases decide ((nth (t:=aa) row i).1=(0:Int))<;>cases (nth (t:=ai) columns i).2.1<;>rfl)]
  simp only[hl,Bool.not_true,decide_true,Bool.true_and,cond_true,cond_false]
  cases (aH 0 (columns.length:Int)).all (M.tK columns row)<;>rfl
 ·have h3:¬(row.length:Int)=(columns.length:Int):=by omega
  simp[hl,h3]
theorem F.wC (r:LV) (columns:LC) (h_r:Sm (Ty.sl aa) r) (h_columns:Sm (Ty.sl ai) columns):F.sQ r columns=some (!M.bH columns r):=by
 rfl
theorem F.yc (xs:LV) (ys:LV) (h_xs:Sm (Ty.sl aa) xs) (h_ys:Sm (Ty.sl aa) ys):F.vp xs ys=some (decide (xs=ys)):=by
 exact CQ (t:=aa) (fun i h0 h1 h2=>by simp only[F.iB,af h2,fR,aV,EP (t:=aa) rfl])
theorem F.xY (r:LV) (row:LV) (h_r:Sm (Ty.sl aa) r) (h_row:Sm (Ty.sl aa) row):F.uX r row=some (decide (r=row)):=by
 rfl
theorem F.xW (xs:LV) (h_xs:Sm (Ty.sl aa) xs):F.vD xs=some xs:=by
 exact M.Bw (t:=aa)
theorem F.AG (row:LV) (list:(List Int)) (h_row:Sm (Ty.sl aa) row) (h_list:Sm (Ty.sl (Ty.int .i64)) list) (p0:M.eI row list):F.tM row list=some (M.taken row list):=by
 unfold F.tM
 rw[ud (fun i=>nth (t:=aa) row i) (fun x hx s hs=>by
  have hl:=h_list.1
  obtain⟨h0,h1⟩:=p0 x hx
  simp only[F.jW]
  rw[af h0,af h1,af (by unfold lim;simp;omega)])]
 show ag (Sm (.sl aa) (M.taken row list)) (bB (M.taken row list) fun r:List aa.D=>some (aB r (some ((0:Int),(r.length:Int)))))=_
 rw[af (M.fO h_row h_list)]
 simp only[aU,M.sj]
theorem F.oE (r:LV) (list:(List Int)) (key:LV) (h_r:Sm (Ty.sl aa) r) (h_list:Sm (Ty.sl (Ty.int .i64)) list) (h_key:Sm (Ty.sl aa) key) (p0:M.eI r list):F.kH r list key=some (decide (M.taken r list=key)):=by
 rfl
theorem F.mX (xs:LLV) (k0:LV) (h_xs:Sm (Ty.sl (Ty.sl aa)) xs) (h_k0:Sm (Ty.sl aa) k0):F.jo xs k0=some (M.idx (t:=(Ty.sl aa)) (fun e=>decide (e=k0)) xs):=by
 exact cJ (t:=(Ty.sl aa)) (p:=(fun e=>decide (e=k0))) (fun i h0 h1=>by simp only[F.cT,aV])
theorem F.mS (xs:LLV) (k0:LC) (h_xs:Sm (Ty.sl (Ty.sl aa)) xs) (h_k0:Sm (Ty.sl ai) k0):F.iW xs k0=some (M.idx (t:=(Ty.sl aa)) (fun e=>!M.bH k0 e) xs):=by
 exact cJ (t:=(Ty.sl aa)) (p:=(fun e=>!M.bH k0 e)) (fun i h0 h1=>by simp only[F.cN,aV])
theorem F.jc (xs:LLV) (k0:(List Int)) (k1:LV) (h_xs:Sm (Ty.sl (Ty.sl aa)) xs) (h_k0:Sm (Ty.sl (Ty.int .i64)) k0) (h_k1:Sm (Ty.sl aa) k1) (p0:∀e∈xs,M.eI e k0):F.fc xs k0 k1=some (M.idx (t:=(Ty.sl aa)) (fun e=>decide (M.taken e k0=k1)) xs):=by
 exact cJ (t:=(Ty.sl aa)) (p:=(fun e=>decide (M.taken e k0=k1))) (fun i h0 h1=>by simp only[F.bT,af (p0 (nth (t:=(Ty.sl aa)) xs i) (dS (t:=(Ty.sl aa)) h0 h1)),aV])
theorem F.kq (xs:LLV) (k0:LC) (h_xs:Sm (Ty.sl (Ty.sl aa)) xs) (h_k0:Sm (Ty.sl ai) k0):F.dW xs k0=some (List.any xs (fun e=>!M.bH k0 e)):=by
 unfold F.dW
 exact cm (t:=(Ty.sl aa))
theorem F.hO (xs:LLV) (k0:(List Int)) (k1:LV) (h_xs:Sm (Ty.sl (Ty.sl aa)) xs) (h_k0:Sm (Ty.sl (Ty.int .i64)) k0) (h_k1:Sm (Ty.sl aa) k1) (p0:∀e∈xs,M.eI e k0):F.cH xs k0 k1=some (List.any xs (fun e=>decide (M.taken e k0=k1))):=by
 unfold F.cH
 exact cm (t:=(Ty.sl aa))
theorem F.zQ (columns:LC) (rows:LLV) (h_columns:Sm (Ty.sl ai) columns) (h_rows:Sm (Ty.sl (Ty.sl aa)) rows):F.qO columns rows=some (M.fT columns rows):=by
 unfold F.qO M.fT
 rw[eY,List.all_eq_not_any_not]
theorem F.sV (t:TTable.D) (h_t:Sm TTable t):F.kZ t=some (!M.cU t):=by
 unfold F.kZ M.cU
 cases hc:M.bD t.1
 ·have:M.fT t.1 t.2.1=false:=by unfold M.fT;rw[hc];rfl
  rw[this]
  simp
 by_cases h:t.2.1.length<=6
 ·have h2:¬(6:Int)<(t.2.1.length:Int):=by omega
  simp[h2,h]
 ·have h2:(6:Int)<(t.2.1.length:Int):=by omega
  simp[h2,h]
theorem F.lp (xs:LTb) (h_xs:Sm (Ty.sl TTable) xs):F.gZ xs=some (M.idx (t:=TTable) (fun e=>!M.cU e) xs):=by
 exact cJ (t:=TTable) (p:=(fun e=>!M.cU e)) (fun i h0 h1=>by simp only[F.cD,aV])
theorem F.ju (xs:LTb) (h_xs:Sm (Ty.sl TTable) xs):F.dA xs=some (List.any xs (fun e=>!M.cU e)):=by
 unfold F.dA
 exact cm (t:=TTable)
theorem F.wA (tables:LTb) (h_tables:Sm (Ty.sl TTable) tables):F.od tables=some (M.aA tables):=by
 unfold F.od M.aA
 rw[eY,show decide ((tables.length:Int)<=3)=decide (tables.length<=3) from decide_eq_decide.2 (by omega)]
 rw[List.all_eq_not_any_not]
theorem F.AA (rows:LLV) (row:LV) (h_rows:Sm (Ty.sl (Ty.sl aa)) rows) (h_row:Sm (Ty.sl aa) row):F.yP rows row=some (M.rowAt rows row):=by
 rfl
theorem F.vP (tables:LTb) (c:TChange.D) (h_tables:Sm (Ty.sl TTable) tables) (h_c:Sm TChange c):F.oo tables c=some (M.bf tables c):=by
 unfold F.oo M.bf
 have:=h_tables.1
 rw[aK (n:=(tables.length:Int)-(1:Int)) (by omega) (by omega)]
 cases M.aA tables<;>cases M.inR c.1 0 ((tables.length:Int)-1)<;>cases M.bH (nth (t:=TTable) tables c.1).1 c.2.1<;>cases c.2.2.1<;>cases decide (((nth (t:=TTable) tables c.1).2.1.length:Int)<(6:Int))<;>rfl
theorem F.we (rows:LLV) (h_rows:Sm (Ty.sl (Ty.sl aa)) rows):F.oc rows=some rows:=by
 unfold F.oc
 rw[ud (fun r=>r) (fun x hx s hs=>by
  have hl:=h_rows.1
  simp only[F.gL,aU,M.sj]
  rw[af (by unfold lim;simp;omega)]),M.CX,bP,M.zg]
theorem F.wo (xs:LC) (h_xs:Sm (Ty.sl ai) xs):F.sN xs=some xs:=by
 exact M.Bw (t:=ai)
theorem F.tI (tables:LTb) (h_tables:Sm (Ty.sl TTable) tables):F.kX tables=some tables:=by
 unfold F.kX
 rw[ud (fun r=>r) (fun x hx s hs=>by
  have hl:=h_tables.1
  simp only[F.fA,aU,M.sj]
  rw[af (by unfold lim;simp;omega)]),M.CX,bP,M.zg]
theorem F.sF (tables:LTb) (c:TChange.D) (h_tables:Sm (Ty.sl TTable) tables) (h_c:Sm TChange c) (p0:M.bf tables c):F.jC tables c=some (M.bu tables c):=by
 unfold F.jC
 have hp:M.bf tables c=true:=p0
 unfold M.bf at hp
 obtain⟨_,hp⟩:=Bool.and_eq_true_iff.1 hp
 obtain⟨hi,hp⟩:=Bool.and_eq_true_iff.1 hp
 obtain⟨i0,i1⟩:=M.HY.1 hi
 obtain⟨_,hp⟩:=Bool.and_eq_true_iff.1 hp
 have sr:Sm (.sl (.sl aa)) (nth (t:=TTable) tables c.1).2.1:=(ay h_tables c.1).2.1
 have sv:Sm (.sl aa) c.2.1:=h_c.2.1
 simp only[aU,M.sj]
 rw[af i0,af i1]
 unfold M.bu M.iS
 have i1':c.1<(tables.length:Int):=by omega
 have hl:=sr.1
 cases hc:c.2.2.1 with
 | true=>
  have s1:Sm (.sl (.sl aa)) ((nth (t:=TTable) tables c.1).2.1++[c.2.1]):=by
   rw[hc,cond_true] at hp
   have:=of_decide_eq_true hp
   refine⟨by rw[List.length_append];simp only[List.length_cons,List.length_nil];omega,fun x hx=>(List.mem_append.1 hx).elim (sr.2 x) fun hx=>by rw[List.mem_singleton.1 hx];exact sv⟩
  simp only[cond_true]
  rw[af (by simp only[List.length_cons,List.length_nil,lim];omega),M.Iy i0 i1',M.IY i0 i1',M.uf i0 i1',af s1]
 | false=>
  rw[hc,cond_false] at hp
  have r0:=of_decide_eq_true hp
  have r1:M.rowAt (nth (t:=TTable) tables c.1).2.1 c.2.1<((nth (t:=TTable) tables c.1).2.1.length:Int):=by
   rcases IN (t:=.sl aa) (p:=fun e=>decide (e=c.2.1)) (xs:=(nth (t:=TTable) tables c.1).2.1) with h | h
   ·exact h
   ·unfold M.rowAt at r0
    rw[h] at r0
    exact absurd (show (0:Int)<=-1 from r0) (by decide)
  generalize hr:M.rowAt (nth (t:=TTable) tables c.1).2.1 c.2.1=k at *
  have hw:wrap64 (k+(1:Int))=k+1:=aK (by omega) (by omega)
  have s1:Sm (.sl (.sl aa)) ((nth (t:=TTable) tables c.1).2.1.take k.toNat++(nth (t:=TTable) tables c.1).2.1.drop (k.toNat+1)):=by
   refine⟨by simp;omega,fun x hx=>(List.mem_append.1 hx).elim (fun h=>sr.2 x (List.mem_of_mem_take h)) fun h=>sr.2 x (List.mem_of_mem_drop h)⟩
  simp only[cond_false]
  rw[hw,show (k+1).toNat=k.toNat+1 by omega,af sr,af r0,af (by omega),af (by omega),M.Iy i0 i1',M.IY i0 i1',M.uf i0 i1',af s1]
theorem F.sD (tables:LTb) (c:TChange.D) (h_tables:Sm (Ty.sl TTable) tables) (h_c:Sm TChange c):F.jz tables c=some (cond (M.bf tables c) (M.bu tables c) [],M.bf tables c):=by
 unfold F.jz
 cases h:M.bf tables c with
 | false=>rfl
 | true=>rw[af rfl];rfl
theorem F.sY (p:ax.D) (h_p:Sm ax p):F.kS p=some (M.takes p):=by
 unfold F.kS M.takes
 generalize decide (p.1=(3:Int))=c3
 generalize decide (p.1=(4:Int))=c4
 generalize decide (p.1=(5:Int))=c5
 generalize decide (p.1=(6:Int))=c6
 generalize decide (p.1=(7:Int))=c7
 generalize decide (p.1=(8:Int))=c8
 cases c3<;>cases c4<;>cases c5<;>cases c6<;>cases c7<;>cases c8<;>rfl
theorem F.xP (truth:Int)  : F.qe truth=some (M.valueOf truth):=by
 unfold F.qe M.valueOf
 cases M.inR truth 0 1<;>rfl
theorem F.AX (vals:(List Int)) (h_vals:Sm (Ty.sl (Ty.int .i64)) vals):F.ta vals=some (M.orI vals):=by
 unfold F.ta
 suffices h:∀(A B:List Int),aS (aJ (F.hY A) B ()) (fun v0:Unit=>some (0:Int)) (fun q0:Int=>some q0)=some (M.orI B) from h vals vals
 intro A B
 induction B with
 | nil=>rfl
 | cons x l ih=>
  rw[bZ]
  simp only[F.hY,M.orI]
  by_cases hx:x=0
  ·simp only[hx,decide_true,Bool.not_true,cond_false,cond_true,bP]
   exact ih
  ·simp[hx]
theorem F.vI (x:Int)  : F.cmp_isNaN_int x=some false:=by
 unfold F.cmp_isNaN_int
 simp
theorem F.tv (x:Int) (y:Int)  : F.kQ x y=some (M.vE x y):=by
 unfold F.kQ M.vE
 simp only[cond_false,aV]
theorem F.sH (x:ByteArray) (h_x:Sm Ty.str x):F.cmp_isNaN_string x=some false:=by
 unfold F.cmp_isNaN_string
 simp
theorem F.qx (x:ByteArray) (y:ByteArray) (h_x:Sm Ty.str x) (h_y:Sm Ty.str y):F.iN x y=some (M.vG x y):=by
 unfold F.iN M.vG
 simp only[cond_false,aV]
theorem F.sy (v:aa.D) (w:aa.D) (h_v:Sm aa v) (h_w:Sm aa w):F.jJ v w=some (M.order v w):=by
 unfold F.jJ
 rw[af ⟨by simp,fun _ _=>trivial⟩]
 rfl
theorem F.xL (b:Bool)  : F.pS b=some (M.bool b):=by
 unfold F.pS M.bool
 rw[aV]
theorem F.xH (kind:Int) (a:aa.D) (b:aa.D) (h_a:Sm aa a) (h_b:Sm aa b):F.qa kind a b=some (M.compare kind a b):=by
 unfold F.qa M.compare M.Aa
 cases hk:M.inR kind 1 4
 ·rfl
 cases M.aO a
 ·rfl
 cases M.aO b
 ·rfl
 have h4:decide (kind=1)=false->decide (kind=2)=false->decide (kind=3)=false->decide (kind=4)=true:=by
  unfold M.inR at hk
  simp at hk ⊢
  omega
 cases decide (a.1=(0:Int))<;>cases decide (b.1=(0:Int))<;>cases decide (a.1=b.1)<;>cases h1:decide (kind=1)<;>cases h2:decide (kind=2)<;>cases h3:decide (kind=3)<;>(try rw[h4 h1 h2 h3])<;>cases decide (M.order a b=0)<;>cases decide (M.order a b<0)<;>rfl
theorem F.xS (n:Int)  : F.vt n=some (M.inR n 0 2):=by
 rfl
theorem F.Cc (a:Int) (b:Int) (alone:Int) (p0:0<=alone/\alone<=1):F.wF a b alone=some (M.fold a b alone):=by
 unfold F.wF M.fold
 rw[aK (n:=1-alone) (by omega) (by omega)]
 cases M.inR a 0 2
 ·rfl
 cases M.inR b 0 2
 ·rfl
 cases decide (a=alone)<;>cases decide (b=alone)<;>cases decide (a=2)<;>cases decide (b=2)<;>rfl
theorem F.AN (a:Int) (b:Int)  : F.tw a b=some (M.qP a b):=by
 unfold F.tw M.qP
 rw[af (by decide)]
theorem F.xJ (v:aa.D) (h_v:Sm aa v):F.qn v=some (M.bQ v):=by
 unfold F.qn M.bQ
 cases M.aO v<;>simp only[Bool.not_true,Bool.not_false,cond_true,cond_false,aV]
theorem F.Cx (a:Int) (b:Int)  : F.wM a b=some (M.ze a b):=by
 unfold F.wM M.ze
 rw[af (by decide)]
theorem F.AS (a:Int)  : F.tq a=some (M.rG a):=by
 unfold F.tq M.rG
 simp only[aV]
theorem F.tY (p:ax.D) (row:LV) (inp:LV) (h_p:Sm ax p) (h_row:Sm (Ty.sl aa) row) (h_inp:Sm (Ty.sl aa) inp) (p0:(inp.length:Int)=M.takes p) (p1:M.ni p row.length) (p2:1<=p.1/\p.1<=8):F.kR p row inp=some (M.gQ p row inp):=by
 unfold F.kR M.gQ
 have hz:(((0:Int),(0:Int),(⟨#[]⟩:ByteArray),()):aa.D)=M.zeroV:=rfl
 by_cases e1:p.1=(1:Int)
 ·simp only[e1,decide_true,cond_true]
 by_cases e2:p.1=(2:Int)
 ·obtain⟨c0,c1⟩:=p1 e2
  simp only[e2,decide_true,cond_true,Int.reduceEq,decide_false,cond_false]
  rw[af c0,af c1]
 by_cases e3:p.1=(3:Int)
 ·rw[eZ (.inl e3)] at p0
  simp only[e3,decide_true,cond_true,Int.reduceEq,decide_false,cond_false]
  repeat rw[af (by omega)]
  generalize nth (t:=aa) inp 0=a
  generalize nth (t:=aa) inp 1=b
  unfold M.sum
  have hv:M.aO ((1:Int),wrap64 (a.2.1+b.2.1),(⟨#[]⟩:ByteArray),())=M.inR (wrap64 (a.2.1+b.2.1)) (-9999) 9999:=by unfold M.aO;simp
  rw[hv]
  cases decide (a.1=(0:Int))<;>cases decide (b.1=(0:Int))<;>cases M.inR (wrap64 (a.2.1+b.2.1)) (-9999) 9999<;>rfl
 by_cases e4:p.1=(4:Int)
 ·rw[eZ (.inr (.inl e4))] at p0
  simp only[e4,decide_true,cond_true,Int.reduceEq,decide_false,cond_false,aU]
  repeat rw[af (by omega)]
 by_cases e5:p.1=(5:Int)
 ·rw[eZ (.inr (.inr (.inl e5)))] at p0
  simp only[e5,decide_true,cond_true,Int.reduceEq,decide_false,cond_false,aU]
  repeat rw[af (by omega)]
 by_cases e6:p.1=(6:Int)
 ·rw[eZ (.inr (.inr (.inr e6)))] at p0
  simp only[e6,decide_true,cond_true,Int.reduceEq,decide_false,cond_false,aU]
  repeat rw[af (by omega)]
 by_cases e7:p.1=(7:Int)
 ·rw[lW (.inl e7)] at p0
  simp only[e7,decide_true,cond_true,Int.reduceEq,decide_false,cond_false,aU]
  repeat rw[af (by omega)]
 ·simp only[e1,e2,e3,e4,e5,e6,e7,decide_false,cond_false,aU]
  have e8:p.1=(8:Int):=by
   rcases EK p2 with h | h | h | h | h | h | h | h<;>first | exact h | exact absurd h (by assumption)
  rw[lW (.inr e8)] at p0
  rw[af (by omega)]
theorem F.vq (row:LV) (e:LPt) (h_row:Sm (Ty.sl aa) row) (h_e:Sm (Ty.sl ax) e) (p0:M.jh row.length e):F.mW row e=some (M.eg row e):=by
 unfold F.mW M.eg
 obtain⟨h1,h2⟩:=zA (f:=F.dy row e) h_row (fun p st hp hs hl h1 hk hc=>AD p st hp hs hl h1 hk hc) e [] h_e.2 (Ao aa) (by simp;have:=p0.1;omega) p0.2
 rw[h1,bP,af (by omega)]
theorem F.qv (list:(List Int)) (key:LV) (h_list:Sm (Ty.sl (Ty.int .i64)) list) (h_key:Sm (Ty.sl aa) key):F.mJ list key=some (list,key):=by
 rfl
theorem F.sB (b:TBond.D) (tables:LTb) (n:Int) (h_b:Sm TBond b) (h_tables:Sm (Ty.sl TTable) tables) (p0:(M.aA tables&&M.aX tables b)=true) (p1:0<=n/\n<((M.gu tables b).length:Int)):F.jK b tables n=some (M.breaks tables b n):=by
 obtain⟨ht,hb⟩:=Bool.and_eq_true_iff.1 p0
 obtain⟨⟨b0,b1⟩,hk⟩:=tZ hb
 obtain⟨n0,n1⟩:=p1
 have htm:=dS (t:=TTable) b0 b1
 have hrm:=dS (t:=.sl aa) n0 n1
 have hrow:=yF ht htm hrm
 unfold M.gu at n1 hrm hrow
 unfold F.jK M.breaks
 unfold M.gu
 rcases hk with⟨e1,hl⟩ | ⟨e3,he⟩ | ⟨e2,hl,ho,hl2⟩
 ·have hir:=qW ht htm hrm hl
  simp only[e1,decide_true,decide_false,cond_true,cond_false,Int.reduceEq,aU,Gg]
  repeat rw[af (by first | exact b0 | exact b1 | exact n0 | exact n1 | exact hir | exact Int.le_of_lt n1)]
  rw[af (fun r hr=>qW ht htm (List.mem_of_mem_take hr) hl),aV]
  rfl
 ·have hs:=Bn (columns:=(nth (t:=TTable) tables b.2.1).1) (e:=b.2.2.2.2.2.2.1) (by rw[he];decide)
  rw[<-hrow] at hs
  simp only[e3,decide_true,decide_false,cond_true,cond_false,Int.reduceEq,aU]
  repeat rw[af (by first | exact b0 | exact b1 | exact n0 | exact n1 | exact hs)]
 ·have hir:=qW ht htm hrm hl
  have hom:=dS (t:=TTable) ho.1 ho.2
  simp only[e2,decide_true,decide_false,cond_true,cond_false,Int.reduceEq,aU]
  repeat rw[af (by first | exact b0 | exact b1 | exact n0 | exact n1 | exact hir | exact ho.1 | exact ho.2)]
  rw[af (fun r hr=>qW ht hom hr hl2),aV]
  rfl
theorem F.sq (b:TBond.D) (tables:LTb) (h_b:Sm TBond b) (h_tables:Sm (Ty.sl TTable) tables) (p0:(M.aA tables&&M.aX tables b)=true):F.jO b tables=some (M.broken tables b):=by
 obtain⟨ht,hb⟩:=Bool.and_eq_true_iff.1 p0
 obtain⟨⟨b0,b1⟩,_⟩:=tZ hb
 unfold F.jO M.broken
 rw[af b0,af b1]
 rw[Bp (M.breaks tables b) (fun i hi=>by
  simp only[F.eT]
  rw[af p0,af (p:=0<=i/\i<((M.gu tables b).length:Int)) (cY.1 hi),aV])]
 unfold M.gu
 cases (aH 0 ((nth (t:=TTable) tables b.2.1).2.1.length:Int)).find? (M.breaks tables b)<;>rfl
theorem F.Ap (b:TBond.D) (tables:LTb) (h_b:Sm TBond b) (h_tables:Sm (Ty.sl TTable) tables) (p0:(M.aA tables&&M.aX tables b)=true):F.wY b tables=some (decide (0<=M.broken tables b)):=by
 rfl
theorem F.tT (p:ax.D) (columns:LC) (h_p:Sm ax p) (h_columns:Sm (Ty.sl ai) columns):F.lA p columns=some (M.lB p columns):=by
 unfold F.lA M.lB M.noV
 rw[lV _ h_columns.1]
 simp only[eY,show Ty.beq aa p.2.2.1 ((0:Int),(0:Int),(⟨#[]⟩:ByteArray),())=Ty.beq aa p.2.2.1 M.zeroV from rfl]
 generalize Ty.beq aa p.2.2.1 M.zeroV=nv
 by_cases e1:p.1=(1:Int)
 ·simp only[e1,decide_true,cond_true]
 by_cases e2:p.1=(2:Int)
 ·simp only[e2,decide_true,cond_true,Int.reduceEq,decide_false,cond_false]
 by_cases e4:p.1=(4:Int)
 ·simp only[e4,decide_true,cond_true,Int.reduceEq,decide_false,cond_false]
 by_cases e3:p.1=(3:Int)
 ·simp only[e3,decide_true,cond_true,Int.reduceEq,decide_false,cond_false]
  rfl
 by_cases e5:p.1=(5:Int)
 ·simp only[e5,decide_true,cond_true,Int.reduceEq,decide_false,cond_false]
  rfl
 by_cases e6:p.1=(6:Int)
 ·simp only[e6,decide_true,cond_true,Int.reduceEq,decide_false,cond_false]
  rfl
 by_cases e7:p.1=(7:Int)
 ·simp only[e7,decide_true,cond_true,Int.reduceEq,decide_false,cond_false]
  rfl
 by_cases e8:p.1=(8:Int)
 ·simp only[e8,decide_true,cond_true,Int.reduceEq,decide_false,cond_false]
  rfl
 simp only[e1,e2,e3,e4,e5,e6,e7,e8,decide_false,cond_false,EU e3 e4 e5 e6 e7 e8]
theorem F.qw (k:Int) (kind:Int)  : F.mB k kind=some (!decide (k=kind)):=by
 rfl
theorem F.wX (n:Int) (t:TTable.D) (h_t:Sm TTable t):F.ou n t=some (!M.inR n 0 (t.1.length-1)):=by
 unfold F.ou
 rw[lV _ h_t.1.1]
theorem F.mG (xs:(List Int)) (k0:TTable.D) (h_xs:Sm (Ty.sl (Ty.int .i64)) xs) (h_k0:Sm TTable k0):F.iR xs k0=some (M.idx (t:=(Ty.int .i64)) (fun e=>!M.inR e 0 (k0.1.length-1)) xs):=by
 exact cJ (t:=(Ty.int .i64)) (p:=(fun e=>!M.inR e 0 (k0.1.length-1))) (fun i h0 h1=>by simp only[F.cO,aV])
theorem F.jv (xs:(List Int)) (k0:Int) (h_xs:Sm (Ty.sl (Ty.int .i64)) xs):F.fN xs k0=some (M.idx (t:=(Ty.int .i64)) (fun e=>!decide (e=k0)) xs):=by
 exact cJ (t:=(Ty.int .i64)) (p:=(fun e=>!decide (e=k0))) (fun i h0 h1=>by simp only[F.bX,aV])
theorem F.kB (xs:(List Int)) (k0:TTable.D) (h_xs:Sm (Ty.sl (Ty.int .i64)) xs) (h_k0:Sm TTable k0):F.dN xs k0=some (List.any xs (fun e=>!M.inR e 0 (k0.1.length-1))):=by
 unfold F.dN
 exact cm (t:=(Ty.int .i64))
theorem F.iK (xs:(List Int)) (k0:Int) (h_xs:Sm (Ty.sl (Ty.int .i64)) xs):F.cQ xs k0=some (List.any xs (fun e=>!decide (e=k0))):=by
 unfold F.cQ
 exact cm (t:=(Ty.int .i64))
theorem F.sG (kind:Int) (ins:(List Int)) (h_ins:Sm (Ty.sl (Ty.int .i64)) ins):F.jV kind ins=some (List.all ins (fun k=>decide (k=kind))):=by
 unfold F.jV
 rw[List.all_eq_not_any_not]
theorem F.uH (p:ax.D) (columns:LC) (inp:(List Int)) (h_p:Sm ax p) (h_columns:Sm (Ty.sl ai) columns) (h_inp:Sm (Ty.sl (Ty.int .i64)) inp) (p0:M.lB p columns=true) (p1:(inp.length:Int)=M.takes p):F.mz p columns inp=some (M.cA p columns inp):=by
 unfold F.mz M.cA
 obtain⟨_,hc⟩:=yV p0
 by_cases e1:p.1=(1:Int)
 ·simp only[e1,decide_true,cond_true]
 by_cases e2:p.1=(2:Int)
 ·obtain⟨c0,c1⟩:=hc e2
  simp only[e2,decide_true,cond_true,Int.reduceEq,decide_false,cond_false]
  rw[af c0,af c1]
 by_cases e4:p.1=(4:Int)
 ·rw[eZ (.inr (.inl e4))] at p1
  simp only[e4,decide_true,cond_true,Int.reduceEq,decide_false,cond_false]
  repeat rw[af (by omega)]
 cases decide (p.1=(3:Int))<;>cases decide (p.1=(8:Int))<;>simp[e1,e2,e4]
theorem F.vT (columns:LC) (e:LPt) (h_columns:Sm (Ty.sl ai) columns) (h_e:Sm (Ty.sl ax) e):F.og columns e=some (M.cV columns e):=by
 unfold F.og M.cV
 cases M.bD columns
 ·rfl
 by_cases hl:e.length<=12
 ·rw[decide_eq_false (show ¬(12:Int)<(e.length:Int) by omega),decide_eq_true hl]
  rw[sU e [] (by simp;omega)]
  cases M.jj columns e [] with
  | none=>rfl
  | some s=>
   match s with
   | []=>rfl
   | [a]=>exact af (by simp)
   | a::b::l=>
    have:¬((a::b::l).length:Int)=1:=by simp;omega
    simp only[this,decide_false]
    rfl
 ·rw[decide_eq_true (show (12:Int)<(e.length:Int) by omega),decide_eq_false hl]
  rfl
theorem F.yM (t:TTable.D) (list:(List Int)) (h_t:Sm TTable t) (h_list:Sm (Ty.sl (Ty.int .i64)) list):F.qR t list=some (M.bR t.1 list):=by
 unfold F.qR M.bR
 rw[eY,List.all_eq_not_any_not]
theorem F.zJ (tables:LTb) (b:TBond.D) (h_tables:Sm (Ty.sl TTable) tables) (h_b:Sm TBond b):F.rN tables b=some (M.aX tables b):=by
 unfold F.rN M.aX
 rw[lV _ h_tables.1]
 cases hin:M.inR b.2.1 0 ((tables.length:Int)-1)
 ·rfl
 simp only[eY]
 simp only[Dz,zN,Gh,EC]
 by_cases e1:b.1=(1:Int)
 ·simp only[e1,decide_true,cond_true,Bool.not_true,Bool.true_and,show ((false:Bool)==false)=true from rfl,cond_false]
  cases decide (b.2.2.2.1=(0:Int))<;>cases decide (b.2.2.2.2.1.length=0)<;>cases M.bR (nth (t:=TTable) tables b.2.1).1 b.2.2.1<;>cases b.2.2.2.2.2.1<;>cases decide (b.2.2.2.2.2.2.1.length=0)<;>rfl
 by_cases e3:b.1=(3:Int)
 ·simp only[e3,decide_true,decide_false,cond_true,cond_false,Int.reduceEq,Bool.not_true,Bool.true_and,show ((false:Bool)==false)=true from rfl]
  cases decide (b.2.2.2.1=(0:Int))<;>cases decide (b.2.2.2.2.1.length=0)<;>cases decide (M.cV (nth (t:=TTable) tables b.2.1).1 b.2.2.2.2.2.2.1=3)<;>cases b.2.2.2.2.2.1<;>cases decide (b.2.2.1.length=0)<;>rfl
 by_cases e2:b.1=(2:Int)
 ·have hc:∀(x y:Bool) (z:Option Bool),cond (x==true) (cond (y==true) z z) z=z:=fun x y z=>by cases x<;>cases y<;>rfl
  simp only[e2,decide_true,decide_false,cond_true,cond_false,Int.reduceEq,Bool.not_true,Bool.true_and,show ((false:Bool)==false)=true from rfl]
  rw[hc]
  cases hof:M.inR b.2.2.2.1 0 ((tables.length:Int)-1)
  ·rfl
  cases hl1:M.bR (nth (t:=TTable) tables b.2.1).1 b.2.2.1
  ·simp
  cases hl2:M.bR (nth (t:=TTable) tables b.2.2.2.1).1 b.2.2.2.2.1
  ·simp
  by_cases hle:b.2.2.1.length=b.2.2.2.2.1.length
  ·cases he:decide (b.2.2.2.2.2.2.1.length=0)
   ·simp[hle]
   simp only[hle,decide_true,Bool.not_true,Bool.not_false,Bool.true_and,cond_true,cond_false]
   rw[<-hle]
   rw[fm (fun i=>decide ((nth (t:=ai) (nth (t:=TTable) tables b.2.1).1 (nth (t:=.int .i64) b.2.2.1 i)).1=(nth (t:=ai) (nth (t:=TTable) tables b.2.2.2.1).1 (nth (t:=.int .i64) b.2.2.2.2.1 i)).1)) () (fun i hi=>by
    obtain⟨i0,i1⟩:=cY.1 hi
    have a1:=oJ hl1 (BN (t:=.int .i64) hi)
    have i2:i<(b.2.2.2.2.1.length:Int):=by omega
    have a2:=oJ hl2 (dS (t:=.int .i64) i0 i2)
    have a3:=vU hof
    simp only[F.eW]
    rw[af a1.1,af a1.2,af a3.1,af (Int.lt_of_le_sub_one a3.2),af i2,af a2.1,af a2.2]
    rw[fR,aV])]
   simp only[Bool.not_true,Bool.true_and,show ((false:Bool)==false)=true from rfl,cond_true,cond_false]
   cases (aH 0 (b.2.2.1.length:Int)).all fun i=>decide ((nth (t:=ai) (nth (t:=TTable) tables b.2.1).1 (nth (t:=.int .i64) b.2.2.1 i)).1=(nth (t:=ai) (nth (t:=TTable) tables b.2.2.2.1).1 (nth (t:=.int .i64) b.2.2.2.2.1 i)).1)<;>rfl
  ·simp[hle,Ne.symm hle]
 ·have hc:∀(x y:Bool) (z:Option Bool),cond (x==true) (cond (y==true) z z) z=z:=fun x y z=>by cases x<;>cases y<;>rfl
  simp only[e1,e2,e3,decide_false,cond_false]
  rw[hc]
  rfl
theorem F.vg (b:TBond.D) (tables:LTb) (h_b:Sm TBond b) (h_tables:Sm (Ty.sl TTable) tables):F.qV b tables=some (!M.aX tables b):=by
 rfl
theorem F.nL (xs:(List TBond.D)) (k0:LTb) (h_xs:Sm (Ty.sl TBond) xs) (h_k0:Sm (Ty.sl TTable) k0) (p0:∀e∈xs,(M.aA k0&&M.aX k0 e)=true):F.jw xs k0=some (M.idx (t:=TBond) (fun e=>decide (0<=M.broken k0 e)) xs):=by
 exact cJ (t:=TBond) (p:=(fun e=>decide (0<=M.broken k0 e))) (fun i h0 h1=>by simp only[F.dg,af (p0 (nth (t:=TBond) xs i) (dS (t:=TBond) h0 h1)),aV])
theorem F.lJ (xs:(List TBond.D)) (k0:LTb) (h_xs:Sm (Ty.sl TBond) xs) (h_k0:Sm (Ty.sl TTable) k0):F.iu xs k0=some (M.idx (t:=TBond) (fun e=>!M.aX k0 e) xs):=by
 exact cJ (t:=TBond) (p:=(fun e=>!M.aX k0 e)) (fun i h0 h1=>by simp only[F.cG,aV])
theorem F.lF (xs:(List TBond.D)) (k0:LTb) (h_xs:Sm (Ty.sl TBond) xs) (h_k0:Sm (Ty.sl TTable) k0) (p0:∀e∈xs,(M.aA k0&&M.aX k0 e)=true):F.eL xs k0=some (List.any xs (fun e=>decide (0<=M.broken k0 e))):=by
 unfold F.eL
 exact cm (t:=TBond)
theorem F.jH (xs:(List TBond.D)) (k0:LTb) (h_xs:Sm (Ty.sl TBond) xs) (h_k0:Sm (Ty.sl TTable) k0):F.dK xs k0=some (List.any xs (fun e=>!M.aX k0 e)):=by
 unfold F.dK
 exact cm (t:=TBond)
theorem F.BI (tables:LTb) (bonds:(List TBond.D)) (h_tables:Sm (Ty.sl TTable) tables) (h_bonds:Sm (Ty.sl TBond) bonds) (p0:∀e∈bonds,(M.aA tables&&M.aX tables e)=true):F.Bv tables bonds=some (!List.any bonds (fun e=>decide (0<=M.broken tables e))):=by
 rfl
theorem F.yf (tables:LTb) (bonds:(List TBond.D)) (h_tables:Sm (Ty.sl TTable) tables) (h_bonds:Sm (Ty.sl TBond) bonds):F.pX tables bonds=some (M.aA tables&&List.all bonds (M.aX tables)):=by
 unfold F.pX
 rw[eY,List.all_eq_not_any_not]
theorem F.uz (tables:LTb) (bonds:(List TBond.D)) (h_tables:Sm (Ty.sl TTable) tables) (h_bonds:Sm (Ty.sl TBond) bonds):F.mF tables bonds=some (M.bA tables bonds):=by
 unfold F.mF
 exact BS tables bonds
theorem F.th (tables:LTb) (bonds:(List TBond.D)) (changes:(List TChange.D)) (h_tables:Sm (Ty.sl TTable) tables) (h_bonds:Sm (Ty.sl TBond) bonds) (h_changes:Sm (Ty.sl TChange) changes):F.kO tables bonds changes=some (M.cE tables bonds changes):=by
 unfold F.kO M.cE
 cases h1:M.aA tables with
 | false=>rfl
 | true=>
 cases h2:M.bA tables bonds with
 | false=>rfl
 | true=>
 by_cases h3:changes.length<=8
 case neg=>
  rw[decide_eq_true (show (8:Int)<(changes.length:Int) by omega),decide_eq_false h3]
  rfl
 rw[decide_eq_false (show ¬(8:Int)<(changes.length:Int) by omega),decide_eq_true h3]
 obtain⟨hl,hb⟩:=M.zw h2
 simp only[aU]
 obtain⟨e,_⟩:=si (f:=F.dP tables bonds changes) (M.dO bonds) (fun now=>Sm (.sl TTable) now/\M.BQ now tables) (xs:=changes) ⟨h_tables,rfl,fun _ _=>rfl⟩ (fun c hc now hI=>by
  have sc:=h_changes.2 c hc
  refine⟨?_,M.Cs hI.1 sc,M.tO (M.Bh c) hI.2⟩
  unfold F.dP M.dO
  rw[af hI.1]
  simp only[aU]
  cases hk:M.bf now c with
  | false=>rfl
  | true=>
   have sa:=M.zo hI.1 sc hk
   simp only[cond_true,Bool.true_and,show ((true:Bool)==true)=true from rfl]
   rw[af sa]
   have ho:∀b∈bonds,M.aX (M.bu now c) b=true:=fun b hm=>by rw[M.FA (M.tO (M.Ar hk) hI.2)];exact(hb b hm).2.1
   rw[af (fun b hm=>by rw[M.zd hk,ho b hm];rfl),M.HF hl (M.zd hk) ho]
   cases List.any bonds (fun e=>decide (0<=M.broken (M.bu now c) e))<;>rfl)
 rw[show ((!true:Bool)==false)=true from rfl]
 simp only[cond_true,cond_false]
 rw[e]
 rfl
theorem F.wJ (x:ai.D) (y:ai.D) (p0:x=y):F.oz x y=some true:=by
 subst p0
 unfold F.oz
 simp[Ty.beq]
theorem F.uA (x:LC) (y:LC) (h_x:Sm (Ty.sl ai) x) (h_y:Sm (Ty.sl ai) y) (p0:x=y):F.mN x y=some true:=by
 subst p0
 unfold F.mN
 exact M.eq_eq (fun i h0 h1=>by simp only[F.fW,af h1,af True.intro,af trivial,decide_true,Bool.not_true,cond_false,M.cM])
theorem F.yu (x:aa.D) (y:aa.D) (h_x:Sm aa x) (h_y:Sm aa y) (p0:x=y):F.oW x y=some true:=by
 subst p0
 unfold F.oW
 simp[Ty.beq,M.cM,M.iQ]
theorem F.wO (x:LV) (y:LV) (h_x:Sm (Ty.sl aa) x) (h_y:Sm (Ty.sl aa) y) (p0:x=y):F.oe x y=some true:=by
 subst p0
 unfold F.oe
 exact M.eq_eq (fun i h0 h1=>by simp only[F.gN,af h1,af True.intro,af trivial,decide_true,Bool.not_true,cond_false,M.cM])
theorem F.uw (x:LLV) (y:LLV) (h_x:Sm (Ty.sl (Ty.sl aa)) x) (h_y:Sm (Ty.sl (Ty.sl aa)) y) (p0:x=y):F.lZ x y=some true:=by
 subst p0
 unfold F.lZ
 exact M.eq_eq (fun i h0 h1=>by simp only[F.gf,af h1,af True.intro,af trivial,decide_true,Bool.not_true,cond_false,M.cM])
theorem F.ym (x:TTable.D) (y:TTable.D) (h_x:Sm TTable x) (h_y:Sm TTable y) (p0:x=y):F.pn x y=some true:=by
 subst p0
 unfold F.pn
 simp[Ty.beq,M.cM,M.iQ]
theorem F.wE (x:LTb) (y:LTb) (h_x:Sm (Ty.sl TTable) x) (h_y:Sm (Ty.sl TTable) y) (p0:x=y):F.nN x y=some true:=by
 subst p0
 unfold F.nN
 exact M.eq_eq (fun i h0 h1=>by simp only[F.gP,af h1,af True.intro,af trivial,decide_true,Bool.not_true,cond_false,M.cM])
theorem F.zk (x:(List Int)) (y:(List Int)) (h_x:Sm (Ty.sl (Ty.int .i64)) x) (h_y:Sm (Ty.sl (Ty.int .i64)) y) (p0:x=y):F.qD x y=some true:=by
 subst p0
 unfold F.qD
 exact M.eq_eq (fun i h0 h1=>by simp only[F.jd,af h1,af True.intro,af trivial,decide_true,Bool.not_true,cond_false,M.cM])
theorem F.zF (x:ax.D) (y:ax.D) (h_x:Sm ax x) (h_y:Sm ax y) (p0:x=y):F.qC x y=some true:=by
 subst p0
 unfold F.qC
 simp[Ty.beq,M.cM,M.iQ]
theorem F.yo (x:LPt) (y:LPt) (h_x:Sm (Ty.sl ax) x) (h_y:Sm (Ty.sl ax) y) (p0:x=y):F.pF x y=some true:=by
 subst p0
 unfold F.pF
 exact M.eq_eq (fun i h0 h1=>by simp only[F.iF,af h1,af True.intro,af trivial,decide_true,Bool.not_true,cond_false,M.cM])
theorem F.zz (x:TBond.D) (y:TBond.D) (h_x:Sm TBond x) (h_y:Sm TBond y) (p0:x=y):F.ri x y=some true:=by
 subst p0
 unfold F.ri
 simp[Ty.beq,M.cM,M.iQ]
theorem F.ye (x:(List TBond.D)) (y:(List TBond.D)) (h_x:Sm (Ty.sl TBond) x) (h_y:Sm (Ty.sl TBond) y) (p0:x=y):F.pG x y=some true:=by
 subst p0
 unfold F.pG
 exact M.eq_eq (fun i h0 h1=>by simp only[F.iI,af h1,af True.intro,af trivial,decide_true,Bool.not_true,cond_false,M.cM])
theorem F.vS (x:TChange.D) (y:TChange.D) (h_x:Sm TChange x) (h_y:Sm TChange y) (p0:x=y):F.nJ x y=some true:=by
 subst p0
 unfold F.nJ
 simp[Ty.beq,M.cM,M.iQ]
theorem F.uU (x:(List TChange.D)) (y:(List TChange.D)) (h_x:Sm (Ty.sl TChange) x) (h_y:Sm (Ty.sl TChange) y) (p0:x=y):F.mj x y=some true:=by
 subst p0
 unfold F.mj
 exact M.eq_eq (fun i h0 h1=>by simp only[F.fX,af h1,af True.intro,af trivial,decide_true,Bool.not_true,cond_false,M.cM])
theorem F.sw (x:LC) (k:Int) (h_x:Ln (Ty.sl ai) x) (p0:0<=k) (p1:k+(M.count (Ty.sl ai) x:Int)<=M.big):F.jE x k=some (M.mark (Ty.sl ai) x k,k+(M.count (Ty.sl ai) x:Int)):=by
 unfold F.jE
 refine M.ng (e:=ai) h_x p0 p1 (fun i v i0 i1 i2 k0 kb hs=>?_)
 obtain⟨k,a⟩:=v
 replace i2:i<(a.length:Int):=i2
 replace k0:0<=k:=k0
 have hc:M.count ai (nth (t:=ai) a i)=(1+(1+0)):=rfl
 replace kb:k+(M.count ai (nth (t:=ai) a i):Int)<=M.big:=kb
 rw[hc] at kb
 unfold M.big at kb
 have he:∀z:Ty.D ai,nth (t:=ai) (a.set i.toNat z) i=z:=fun z=>M.lP i0 i2
 have w0:wrap64 (k+(1:Int))=k+(1:Int):=aK (by omega) (by omega)
 have w1:wrap64 (k+(1:Int)+(1:Int))=k+(1:Int)+(1:Int):=aK (by omega) (by omega)
 simp only[F.eR,aU,List.set_set,he,w0,w1]
 try simp only[aU,List.set_set,he,w0,w1]
 rw[hc]
 refine congrArg (fun q=>some (Sum.inl q)) (Prod.ext ?_ rfl)
 show k+(1:Int)+(1:Int)=_
 omega
theorem F.wG (k:Int) (p0:k<=M.big):F.nR k=some (M.ep k):=by
 unfold F.nR M.ep
 by_cases hk:k<=0
 ·rw[decide_eq_true hk,if_pos hk]
  rfl
 rw[decide_eq_false hk,if_neg hk,cond_false,M.DI (fun v h63 hs=>by
  have hs':(strOf [(48+v.1.tmod 10) % 256]).size=1:=rfl
  unfold F.gS
  by_cases h0:0<v.1
  ·have e1:wrap64 ((48:Int)+v.1.tmod 10)=48+v.1.tmod 10:=by
    rw[Int.tmod_eq_emod_of_nonneg (by omega)]
    exact aK (by omega) (by omega)
   have e2:wrap64 (v.1.tdiv 10)=v.1.tdiv 10:=by
    rw[Int.tdiv_eq_ediv_of_nonneg (by omega)]
    exact aK (by omega) (by omega)
   rw[decide_eq_true h0,if_pos h0,e1,e2,af (by omega)]
   rfl
  ·rw[decide_eq_false h0,if_neg h0]
   rfl) 64 k _ (by unfold M.big at p0;omega) (by unfold M.big at p0;omega) (by decide)]
 show ag _ _=_
 rw[af]
 have:=M.sS k
 unfold M.ep at this
 rw[if_neg hk,ByteArray.size_append] at this
 have e1:(⟨#[109]⟩:ByteArray).size=1:=rfl
 omega
theorem F.tN (x:LV) (k:Int) (h_x:Ln (Ty.sl aa) x) (p0:0<=k) (p1:k+(M.count (Ty.sl aa) x:Int)<=M.big):F.lz x k=some (M.mark (Ty.sl aa) x k,k+(M.count (Ty.sl aa) x:Int)):=by
 unfold F.lz
 refine M.ng (e:=aa) h_x p0 p1 (fun i v i0 i1 i2 k0 kb hs=>?_)
 obtain⟨k,a⟩:=v
 replace i2:i<(a.length:Int):=i2
 replace k0:0<=k:=k0
 have hc:M.count aa (nth (t:=aa) a i)=(1+(1+(1+0))):=rfl
 replace kb:k+(M.count aa (nth (t:=aa) a i):Int)<=M.big:=kb
 rw[hc] at kb
 unfold M.big at kb
 have he:∀z:Ty.D aa,nth (t:=aa) (a.set i.toNat z) i=z:=fun z=>M.lP i0 i2
 have w0:wrap64 (k+(1:Int))=k+(1:Int):=aK (by omega) (by omega)
 have w1:wrap64 (k+(1:Int)+(1:Int))=k+(1:Int)+(1:Int):=aK (by omega) (by omega)
 have w2:wrap64 (k+(1:Int)+(1:Int)+(1:Int))=k+(1:Int)+(1:Int)+(1:Int):=aK (by omega) (by omega)
 simp only[F.fF,aU,List.set_set,he,w0,w1,w2]
 repeat rw[af (show k+(1:Int)+(1:Int)<=M.big by unfold M.big;omega)]
 try simp only[aU,List.set_set,he,w0,w1,w2]
 rw[hc]
 refine congrArg (fun q=>some (Sum.inl q)) (Prod.ext ?_ rfl)
 show k+(1:Int)+(1:Int)+(1:Int)=_
 omega
theorem F.sA (x:LLV) (k:Int) (h_x:Ln (Ty.sl (Ty.sl aa)) x) (p0:0<=k) (p1:k+(M.count (Ty.sl (Ty.sl aa)) x:Int)<=M.big):F.jM x k=some (M.mark (Ty.sl (Ty.sl aa)) x k,k+(M.count (Ty.sl (Ty.sl aa)) x:Int)):=by
 unfold F.jM
 refine M.ng (e:=(Ty.sl aa)) h_x p0 p1 (fun i v i0 i1 i2 k0 kb hs=>?_)
 obtain⟨k,a⟩:=v
 replace i2:i<(a.length:Int):=i2
 replace k0:0<=k:=k0
 have hc:M.count (Ty.sl aa) (nth (t:=(Ty.sl aa)) a i)=M.count (Ty.sl aa) (nth (t:=(Ty.sl aa)) a i):=rfl
 replace kb:k+(M.count (Ty.sl aa) (nth (t:=(Ty.sl aa)) a i):Int)<=M.big:=kb
 rw[hc] at kb
 unfold M.big at kb
 have he:∀z:Ty.D (Ty.sl aa),nth (t:=(Ty.sl aa)) (a.set i.toNat z) i=z:=fun z=>M.lP i0 i2
 simp only[F.eU,aU,List.set_set,he]
 repeat rw[af (show Ln (Ty.sl aa) (nth (t:=(Ty.sl aa)) a i) from hs)]
 repeat rw[af (show (0:Int)<=k by omega)]
 repeat rw[af (show k+(M.count (Ty.sl aa) (nth (t:=(Ty.sl aa)) a i):Int)<=M.big by unfold M.big;omega)]
 all_goals rfl
theorem F.tg (x:LTb) (k:Int) (h_x:Ln (Ty.sl TTable) x) (p0:0<=k) (p1:k+(M.count (Ty.sl TTable) x:Int)<=M.big):F.kT x k=some (M.mark (Ty.sl TTable) x k,k+(M.count (Ty.sl TTable) x:Int)):=by
 unfold F.kT
 refine M.ng (e:=TTable) h_x p0 p1 (fun i v i0 i1 i2 k0 kb hs=>?_)
 obtain⟨k,a⟩:=v
 replace i2:i<(a.length:Int):=i2
 replace k0:0<=k:=k0
 have hc:M.count TTable (nth (t:=TTable) a i)=(M.count (Ty.sl ai) (nth (t:=TTable) a i).1+(M.count (Ty.sl (Ty.sl aa)) (nth (t:=TTable) a i).2.1+0)):=rfl
 replace kb:k+(M.count TTable (nth (t:=TTable) a i):Int)<=M.big:=kb
 rw[hc] at kb
 unfold M.big at kb
 have he:∀z:Ty.D TTable,nth (t:=TTable) (a.set i.toNat z) i=z:=fun z=>M.lP i0 i2
 simp only[F.fK,aU,List.set_set,he]
 repeat rw[af (show Ln (Ty.sl ai) (nth (t:=TTable) a i).1 from hs.1)]
 repeat rw[af (show (0:Int)<=k by omega)]
 repeat rw[af (show k+(M.count (Ty.sl ai) (nth (t:=TTable) a i).1:Int)<=M.big by unfold M.big;omega)]
 repeat rw[af (show Ln (Ty.sl (Ty.sl aa)) (nth (t:=TTable) a i).2.1 from hs.2.1)]
 repeat rw[af (show (0:Int)<=k+(M.count (Ty.sl ai) (nth (t:=TTable) a i).1:Int) by omega)]
 repeat rw[af (show k+(M.count (Ty.sl ai) (nth (t:=TTable) a i).1:Int)+(M.count (Ty.sl (Ty.sl aa)) (nth (t:=TTable) a i).2.1:Int)<=M.big by unfold M.big;omega)]
 rw[hc]
 refine congrArg (fun q=>some (Sum.inl q)) (Prod.ext ?_ rfl)
 show k+(M.count (Ty.sl ai) (nth (t:=TTable) a i).1:Int)+(M.count (Ty.sl (Ty.sl aa)) (nth (t:=TTable) a i).2.1:Int)=_
 omega
theorem F.vK (x:(List Int)) (k:Int) (h_x:Ln (Ty.sl (Ty.int .i64)) x) (p0:0<=k) (p1:k+(M.count (Ty.sl (Ty.int .i64)) x:Int)<=M.big):F.nZ x k=some (M.mark (Ty.sl (Ty.int .i64)) x k,k+(M.count (Ty.sl (Ty.int .i64)) x:Int)):=by
 unfold F.nZ
 refine M.ng (e:=(Ty.int .i64)) h_x p0 p1 (fun i v i0 i1 i2 k0 kb hs=>?_)
 obtain⟨k,a⟩:=v
 replace i2:i<(a.length:Int):=i2
 replace k0:0<=k:=k0
 have hc:M.count (Ty.int .i64) (nth (t:=(Ty.int .i64)) a i)=1:=rfl
 replace kb:k+(M.count (Ty.int .i64) (nth (t:=(Ty.int .i64)) a i):Int)<=M.big:=kb
 rw[hc] at kb
 unfold M.big at kb
 have he:∀z:Ty.D (Ty.int .i64),nth (t:=(Ty.int .i64)) (a.set i.toNat z) i=z:=fun z=>M.lP i0 i2
 have w0:wrap64 (k+(1:Int))=k+(1:Int):=aK (by omega) (by omega)
 simp only[F.gY,aU,List.set_set,he,w0]
 try simp only[aU,List.set_set,he,w0]
 rw[hc]
 refine congrArg (fun q=>some (Sum.inl q)) (Prod.ext ?_ rfl)
 show k+(1:Int)=_
 omega
theorem F.uB (x:LPt) (k:Int) (h_x:Ln (Ty.sl ax) x) (p0:0<=k) (p1:k+(M.count (Ty.sl ax) x:Int)<=M.big):F.mT x k=some (M.mark (Ty.sl ax) x k,k+(M.count (Ty.sl ax) x:Int)):=by
 unfold F.mT
 refine M.ng (e:=ax) h_x p0 p1 (fun i v i0 i1 i2 k0 kb hs=>?_)
 obtain⟨k,a⟩:=v
 replace i2:i<(a.length:Int):=i2
 replace k0:0<=k:=k0
 have hc:M.count ax (nth (t:=ax) a i)=(1+(1+((1+(1+(1+0)))+0))):=rfl
 replace kb:k+(M.count ax (nth (t:=ax) a i):Int)<=M.big:=kb
 rw[hc] at kb
 unfold M.big at kb
 have he:∀z:Ty.D ax,nth (t:=ax) (a.set i.toNat z) i=z:=fun z=>M.lP i0 i2
 have w0:wrap64 (k+(1:Int))=k+(1:Int):=aK (by omega) (by omega)
 have w1:wrap64 (k+(1:Int)+(1:Int))=k+(1:Int)+(1:Int):=aK (by omega) (by omega)
 have w2:wrap64 (k+(1:Int)+(1:Int)+(1:Int))=k+(1:Int)+(1:Int)+(1:Int):=aK (by omega) (by omega)
 have w3:wrap64 (k+(1:Int)+(1:Int)+(1:Int)+(1:Int))=k+(1:Int)+(1:Int)+(1:Int)+(1:Int):=aK (by omega) (by omega)
 have w4:wrap64 (k+(1:Int)+(1:Int)+(1:Int)+(1:Int)+(1:Int))=k+(1:Int)+(1:Int)+(1:Int)+(1:Int)+(1:Int):=aK (by omega) (by omega)
 simp only[F.fY,aU,List.set_set,he,w0,w1,w2,w3,w4]
 repeat rw[af (show k+(1:Int)+(1:Int)+(1:Int)+(1:Int)<=M.big by unfold M.big;omega)]
 try simp only[aU,List.set_set,he,w0,w1,w2,w3,w4]
 rw[hc]
 refine congrArg (fun q=>some (Sum.inl q)) (Prod.ext ?_ rfl)
 show k+(1:Int)+(1:Int)+(1:Int)+(1:Int)+(1:Int)=_
 omega
theorem F.uY (x:(List TBond.D)) (k:Int) (h_x:Ln (Ty.sl TBond) x) (p0:0<=k) (p1:k+(M.count (Ty.sl TBond) x:Int)<=M.big):F.mD x k=some (M.mark (Ty.sl TBond) x k,k+(M.count (Ty.sl TBond) x:Int)):=by
 unfold F.mD
 refine M.ng (e:=TBond) h_x p0 p1 (fun i v i0 i1 i2 k0 kb hs=>?_)
 obtain⟨k,a⟩:=v
 replace i2:i<(a.length:Int):=i2
 replace k0:0<=k:=k0
 have hc:M.count TBond (nth (t:=TBond) a i)=(1+(1+(M.count (Ty.sl (Ty.int .i64)) (nth (t:=TBond) a i).2.2.1+(1+(M.count (Ty.sl (Ty.int .i64)) (nth (t:=TBond) a i).2.2.2.2.1+(1+(M.count (Ty.sl ax) (nth (t:=TBond) a i).2.2.2.2.2.2.1+0))))))):=rfl
 replace kb:k+(M.count TBond (nth (t:=TBond) a i):Int)<=M.big:=kb
 rw[hc] at kb
 unfold M.big at kb
 have he:∀z:Ty.D TBond,nth (t:=TBond) (a.set i.toNat z) i=z:=fun z=>M.lP i0 i2
 have w0:wrap64 (k+(1:Int))=k+(1:Int):=aK (by omega) (by omega)
 have w1:wrap64 (k+(1:Int)+(1:Int))=k+(1:Int)+(1:Int):=aK (by omega) (by omega)
 have w3:wrap64 (k+(1:Int)+(1:Int)+(M.count (Ty.sl (Ty.int .i64)) (nth (t:=TBond) a i).2.2.1:Int)+(1:Int))=k+(1:Int)+(1:Int)+(M.count (Ty.sl (Ty.int .i64)) (nth (t:=TBond) a i).2.2.1:Int)+(1:Int):=aK (by omega) (by omega)
 have w5:wrap64 (k+(1:Int)+(1:Int)+(M.count (Ty.sl (Ty.int .i64)) (nth (t:=TBond) a i).2.2.1:Int)+(1:Int)+(M.count (Ty.sl (Ty.int .i64)) (nth (t:=TBond) a i).2.2.2.2.1:Int)+(1:Int))=k+(1:Int)+(1:Int)+(M.count (Ty.sl (Ty.int .i64)) (nth (t:=TBond) a i).2.2.1:Int)+(1:Int)+(M.count (Ty.sl (Ty.int .i64)) (nth (t:=TBond) a i).2.2.2.2.1:Int)+(1:Int):=aK (by omega) (by omega)
 simp only[F.gb,aU,List.set_set,he,w0,w1,w3,w5]
 repeat rw[af (show Ln (Ty.sl (Ty.int .i64)) (nth (t:=TBond) a i).2.2.1 from hs.2.2.1)]
 repeat rw[af (show (0:Int)<=k+(1:Int)+(1:Int) by omega)]
 repeat rw[af (show k+(1:Int)+(1:Int)+(M.count (Ty.sl (Ty.int .i64)) (nth (t:=TBond) a i).2.2.1:Int)<=M.big by unfold M.big;omega)]
 repeat rw[af (show Ln (Ty.sl (Ty.int .i64)) (nth (t:=TBond) a i).2.2.2.2.1 from hs.2.2.2.2.1)]
 repeat rw[af (show (0:Int)<=k+(1:Int)+(1:Int)+(M.count (Ty.sl (Ty.int .i64)) (nth (t:=TBond) a i).2.2.1:Int)+(1:Int) by omega)]
 repeat rw[af (show k+(1:Int)+(1:Int)+(M.count (Ty.sl (Ty.int .i64)) (nth (t:=TBond) a i).2.2.1:Int)+(1:Int)+(M.count (Ty.sl (Ty.int .i64)) (nth (t:=TBond) a i).2.2.2.2.1:Int)<=M.big by unfold M.big;omega)]
 repeat rw[af (show Ln (Ty.sl ax) (nth (t:=TBond) a i).2.2.2.2.2.2.1 from hs.2.2.2.2.2.2.1)]
 repeat rw[af (show (0:Int)<=k+(1:Int)+(1:Int)+(M.count (Ty.sl (Ty.int .i64)) (nth (t:=TBond) a i).2.2.1:Int)+(1:Int)+(M.count (Ty.sl (Ty.int .i64)) (nth (t:=TBond) a i).2.2.2.2.1:Int)+(1:Int) by omega)]
 repeat rw[af (show k+(1:Int)+(1:Int)+(M.count (Ty.sl (Ty.int .i64)) (nth (t:=TBond) a i).2.2.1:Int)+(1:Int)+(M.count (Ty.sl (Ty.int .i64)) (nth (t:=TBond) a i).2.2.2.2.1:Int)+(1:Int)+(M.count (Ty.sl ax) (nth (t:=TBond) a i).2.2.2.2.2.2.1:Int)<=M.big by unfold M.big;omega)]
 rw[hc]
 refine congrArg (fun q=>some (Sum.inl q)) (Prod.ext ?_ rfl)
 show k+(1:Int)+(1:Int)+(M.count (Ty.sl (Ty.int .i64)) (nth (t:=TBond) a i).2.2.1:Int)+(1:Int)+(M.count (Ty.sl (Ty.int .i64)) (nth (t:=TBond) a i).2.2.2.2.1:Int)+(1:Int)+(M.count (Ty.sl ax) (nth (t:=TBond) a i).2.2.2.2.2.2.1:Int)=_
 omega
theorem F.so (x:(List TChange.D)) (k:Int) (h_x:Ln (Ty.sl TChange) x) (p0:0<=k) (p1:k+(M.count (Ty.sl TChange) x:Int)<=M.big):F.jG x k=some (M.mark (Ty.sl TChange) x k,k+(M.count (Ty.sl TChange) x:Int)):=by
 unfold F.jG
 refine M.ng (e:=TChange) h_x p0 p1 (fun i v i0 i1 i2 k0 kb hs=>?_)
 obtain⟨k,a⟩:=v
 replace i2:i<(a.length:Int):=i2
 replace k0:0<=k:=k0
 have hc:M.count TChange (nth (t:=TChange) a i)=(1+(M.count (Ty.sl aa) (nth (t:=TChange) a i).2.1+(1+0))):=rfl
 replace kb:k+(M.count TChange (nth (t:=TChange) a i):Int)<=M.big:=kb
 rw[hc] at kb
 unfold M.big at kb
 have he:∀z:Ty.D TChange,nth (t:=TChange) (a.set i.toNat z) i=z:=fun z=>M.lP i0 i2
 have w0:wrap64 (k+(1:Int))=k+(1:Int):=aK (by omega) (by omega)
 have w2:wrap64 (k+(1:Int)+(M.count (Ty.sl aa) (nth (t:=TChange) a i).2.1:Int)+(1:Int))=k+(1:Int)+(M.count (Ty.sl aa) (nth (t:=TChange) a i).2.1:Int)+(1:Int):=aK (by omega) (by omega)
 simp only[F.eP,aU,List.set_set,he,w0,w2]
 repeat rw[af (show Ln (Ty.sl aa) (nth (t:=TChange) a i).2.1 from hs.2.1)]
 repeat rw[af (show (0:Int)<=k+(1:Int) by omega)]
 repeat rw[af (show k+(1:Int)+(M.count (Ty.sl aa) (nth (t:=TChange) a i).2.1:Int)<=M.big by unfold M.big;omega)]
 rw[hc]
 refine congrArg (fun q=>some (Sum.inl q)) (Prod.ext ?_ rfl)
 show k+(1:Int)+(M.count (Ty.sl aa) (nth (t:=TChange) a i).2.1:Int)+(1:Int)=_
 omega
theorem F.sE (x:LC) (k:Int) (h_x:Ln (Ty.sl ai) x) (p0:0<=k) (p1:k+(M.count (Ty.sl ai) x:Int)<=M.big) (p2:M.mark (Ty.sl ai) x k=x):F.jP x k=some (k+(M.count (Ty.sl ai) x:Int)):=by
 unfold F.jP
 refine M.yE (e:=ai) p0 p1 p2 (fun z k k0 kb hm=>?_)
 have hc:M.count ai z=(1+(1+0)):=rfl
 rw[hc] at kb
 unfold M.big at kb
 have w0:wrap64 (k+(1:Int))=k+(1:Int):=aK (by omega) (by omega)
 have f0:z.1=k:=(congrArg (fun q:Ty.D ai=>q.1) hm).symm
 have w1:wrap64 (k+(1:Int)+(1:Int))=k+(1:Int)+(1:Int):=aK (by omega) (by omega)
 have f1:z.2.1=decide ((k+(1:Int)).tmod (3:Int)=(0:Int)):=(congrArg (fun q:Ty.D ai=>q.2.1) hm).symm
 simp only[F.eO,aU,w0,w1]
 rw[decide_eq_true f0,Bool.not_true,cond_false]
 rw[f1,show ∀b:Bool,Ty.beq Ty.bool b b=true from fun b=>by cases b<;>rfl,Bool.not_true,cond_false]
 rw[hc]
 refine congrArg (fun q=>some (Sum.inl q)) ?_
 omega
theorem F.tL (x:LV) (k:Int) (h_x:Ln (Ty.sl aa) x) (p0:0<=k) (p1:k+(M.count (Ty.sl aa) x:Int)<=M.big) (p2:M.mark (Ty.sl aa) x k=x):F.kU x k=some (k+(M.count (Ty.sl aa) x:Int)):=by
 unfold F.kU
 refine M.yE (e:=aa) p0 p1 p2 (fun z k k0 kb hm=>?_)
 have hc:M.count aa z=(1+(1+(1+0))):=rfl
 rw[hc] at kb
 unfold M.big at kb
 have w0:wrap64 (k+(1:Int))=k+(1:Int):=aK (by omega) (by omega)
 have f0:z.1=k:=(congrArg (fun q:Ty.D aa=>q.1) hm).symm
 have w1:wrap64 (k+(1:Int)+(1:Int))=k+(1:Int)+(1:Int):=aK (by omega) (by omega)
 have f1:z.2.1=k+(1:Int):=(congrArg (fun q:Ty.D aa=>q.2.1) hm).symm
 have w2:wrap64 (k+(1:Int)+(1:Int)+(1:Int))=k+(1:Int)+(1:Int)+(1:Int):=aK (by omega) (by omega)
 have f2:z.2.2.1=M.ep (k+(1:Int)+(1:Int)):=(congrArg (fun q:Ty.D aa=>q.2.2.1) hm).symm
 simp only[F.fH,aU,w0,w1,w2]
 rw[decide_eq_true f0,Bool.not_true,cond_false]
 rw[decide_eq_true f1,Bool.not_true,cond_false]
 rw[af (show k+(1:Int)+(1:Int)<=M.big by unfold M.big;omega),decide_eq_true f2,Bool.not_true,cond_false]
 rw[hc]
 refine congrArg (fun q=>some (Sum.inl q)) ?_
 omega
theorem F.sC (x:LLV) (k:Int) (h_x:Ln (Ty.sl (Ty.sl aa)) x) (p0:0<=k) (p1:k+(M.count (Ty.sl (Ty.sl aa)) x:Int)<=M.big) (p2:M.mark (Ty.sl (Ty.sl aa)) x k=x):F.jF x k=some (k+(M.count (Ty.sl (Ty.sl aa)) x:Int)):=by
 unfold F.jF
 refine M.yE (e:=(Ty.sl aa)) p0 p1 p2 (fun z k k0 kb hm=>?_)
 have hc:M.count (Ty.sl aa) z=M.count (Ty.sl aa) z:=rfl
 rw[hc] at kb
 unfold M.big at kb
 have f0:M.mark (Ty.sl aa) z k=z:=hm
 simp only[F.eN,aU]
 rw[af (by omega),af (by unfold M.big;omega),af f0,decide_eq_false (by omega),cond_false]
theorem F.tS (x:LTb) (k:Int) (h_x:Ln (Ty.sl TTable) x) (p0:0<=k) (p1:k+(M.count (Ty.sl TTable) x:Int)<=M.big) (p2:M.mark (Ty.sl TTable) x k=x):F.lq x k=some (k+(M.count (Ty.sl TTable) x:Int)):=by
 unfold F.lq
 refine M.yE (e:=TTable) p0 p1 p2 (fun z k k0 kb hm=>?_)
 have hc:M.count TTable z=(M.count (Ty.sl ai) z.1+(M.count (Ty.sl (Ty.sl aa)) z.2.1+0)):=rfl
 rw[hc] at kb
 unfold M.big at kb
 have f0:M.mark (Ty.sl ai) z.1 k=z.1:=(congrArg (fun q:Ty.D TTable=>q.1) hm)
 have f1:M.mark (Ty.sl (Ty.sl aa)) z.2.1 (k+(M.count (Ty.sl ai) z.1:Int))=z.2.1:=(congrArg (fun q:Ty.D TTable=>q.2.1) hm)
 simp only[F.fz,aU]
 rw[af (by omega),af (by unfold M.big;omega),af f0,decide_eq_false (by omega),cond_false]
 rw[af (by omega),af (by unfold M.big;omega),af f1,decide_eq_false (by omega),cond_false]
 rw[hc]
 refine congrArg (fun q=>some (Sum.inl q)) ?_
 omega
theorem F.mZ (aTables:LTb) (aBonds:(List TBond.D)) (aChanges:(List TChange.D)) (h_aTables:Ln (Ty.sl TTable) aTables) (h_aBonds:Ln (Ty.sl TBond) aBonds) (h_aChanges:Ln (Ty.sl TChange) aChanges):F.fE aTables aBonds aChanges=some true:=by
 unfold F.fE
 rw[af (by decide),af (by decide)]
 by_cases h0:M.szS M.bG aTables 1048576<0
 ·rw[decide_eq_true h0]
  rfl
 rw[decide_eq_false h0,cond_false]
 have l0:=(M.jU M.tf) aTables 1048576 (by decide)
 have u0:M.szS M.bG aTables 1048576<=1048576:=by omega
 have g0:0<=M.szS M.bG aTables 1048576:=by omega
 have s0:=(M.jQ M.tf M.Ax) aTables 1048576 (by decide) (by decide) g0
 rw[af g0,af u0]
 by_cases h1:M.szS M.dc aBonds (M.szS M.bG aTables 1048576)<0
 ·rw[decide_eq_true h1]
  rfl
 rw[decide_eq_false h1,cond_false]
 have l1:=(M.jU M.vL) aBonds (M.szS M.bG aTables 1048576) g0
 have u1:M.szS M.dc aBonds (M.szS M.bG aTables 1048576)<=1048576:=by omega
 have g1:0<=M.szS M.dc aBonds (M.szS M.bG aTables 1048576):=by omega
 have s1:=(M.jQ M.vL M.Ci) aBonds (M.szS M.bG aTables 1048576) g0 u0 g1
 rw[af g1,af u1]
 by_cases h2:M.szS M.dF aChanges (M.szS M.dc aBonds (M.szS M.bG aTables 1048576))<0
 ·rw[decide_eq_true h2]
  rfl
 rw[decide_eq_false h2,cond_false]
 have l2:=(M.jU M.rF) aChanges (M.szS M.dc aBonds (M.szS M.bG aTables 1048576)) g1
 have u2:M.szS M.dF aChanges (M.szS M.dc aBonds (M.szS M.bG aTables 1048576))<=1048576:=by omega
 have g2:0<=M.szS M.dF aChanges (M.szS M.dc aBonds (M.szS M.bG aTables 1048576)):=by omega
 have s2:=(M.jQ M.rF M.yS) aChanges (M.szS M.dc aBonds (M.szS M.bG aTables 1048576)) g1 u1 g2
 have sr:=M.HS (bonds:=aBonds) s0 s2
 generalize hr:(M.cE aTables aBonds aChanges)=RB at sr ⊢
 obtain⟨R,rb⟩:=RB
 replace sr:Sm (Ty.sl TTable) R:=sr
 have hbb:∀a:Bool,Ty.beq Ty.bool a a=true:=fun a=>by cases a<;>rfl
 have c0:M.count (Ty.sl TTable) aTables<=3458766712843796480:=Nat.le_trans (M.count_le s0) (by decide)
 have c1:M.count (Ty.sl TBond) aBonds<=7696585588736:=Nat.le_trans (M.count_le s1) (by decide)
 have c2:M.count (Ty.sl TChange) aChanges<=3298536980480:=Nat.le_trans (M.count_le s2) (by decide)
 have cr:M.count (Ty.sl TTable) R<=3458766712843796480:=Nat.le_trans (M.count_le sr) (by decide)
 simp only[aU,M.sj,M.GI,M.tX,hr,hbb,show ((false:Bool)==false)=true from rfl]
 simp only[decide_true,Bool.not_true,cond_false,M.cM,M.iQ,cond_true,show ((false:Bool)==false)=true from rfl]
 repeat rw[af (by first | exact s0 | exact s1 | exact s2 | exact sr | rfl | decide | exact M.DE s0 | exact M.DE s1 | exact M.DE s2 | exact M.DE sr | exact M.HE (by decide) _ (M.DE sr) | exact M.FF _ _ _ | omega | (unfold M.big;omega))]
 rw[decide_eq_false (show ¬(1:Int)+(M.count (Ty.sl TTable) aTables:Int)+(M.count (Ty.sl TBond) aBonds:Int)+(M.count (Ty.sl TChange) aChanges:Int)<0 by omega),show ((false:Bool)==false)=true from rfl,cond_true]
 rw[decide_eq_false (show ¬(1:Int)+(M.count (Ty.sl TTable) R:Int)<0 by omega),cond_false]
end Go.AE
