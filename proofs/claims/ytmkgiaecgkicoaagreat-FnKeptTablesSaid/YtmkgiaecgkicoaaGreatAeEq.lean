/- What the functions compute is what is said. -/
import Derived.Test.YtmkgiaecgkicoaaGreatAeF
import Derived.Test.YtmkgiaecgkicoaaGreatAeLem
import Derived.Test.YtmkgiaecgkicoaaGreatAeEqI
import Derived.Test.YtmkgiaecgkicoaaGreatAeEqI
import Derived.Test.YtmkgiaecgkicoaaGreatAeEqI
import Derived.Test.YtmkgiaecgkicoaaGreatAeEqI
import Derived.Test.YtmkgiaecgkicoaaGreatAeTB
import Derived.Test.YtmkgiaecgkicoaaGreatAeTB
namespace Go.AE
open Go Go.RowKit
set_option linter.unusedVariables false
set_option linter.unusedSimpArgs false
theorem F.BN (n:Int) (low:Int) (high:Int)  : F.vD n low high=some (M.inR n low high):=by
 unfold F.vD M.inR
 cases decide (low<=n)<;>rfl
theorem F.ux (columns:LC) (h_columns:Sm (Ty.sl ay) columns):F.mO columns=some (M.bH columns):=by
 unfold F.mO M.bH
 rw[fE M.ee () (fun x _=>by simp only[F.gz,gp,bp]<;>rfl),show decide ((columns.length:Int)<=4)=decide (columns.length<=4) from decide_eq_decide.2 (by omega)]
 cases columns.all M.ee<;>simp
theorem F.yL (s:ByteArray) (h_s:Sm Ty.str s):F.rB s=some (M.text s):=by
 unfold F.rB M.text M.lower
 have key:∀c:Int,(cond ((decide (c<97))==false) (cond (decide (122<c)) (some (Sum.inr ())) (some (Sum.inl ()))) (some (Sum.inr ())):Option (Sum Unit Unit))=some (cond (M.inR c 97 122) (.inl ()) (.inr ())):=by
  intro c
  unfold M.inR
  by_cases h2:c<97
  ·simp[h2,show ¬ 97<=c by omega]
  ·by_cases h3:122<c
   ·simp[h2,h3,show 97<=c by omega,show ¬c<=122 by omega]
   ·simp[h2,h3,show 97<=c by omega,show c<=122 by omega]
 rw[fE (fun i=>M.inR (nth (t:=.int .u8) (bQ s) i) 97 122) () (fun i hi=>by
  obtain⟨h0,h1⟩:=dm.1 hi
  simp only[F.jx,BA h0 h1]
  exact key _)]
 rw[<-lf,Fu (t:=.int .u8) (bQ s) (fun n=>M.inR n 97 122),show decide (((bQ s).length:Int)<=6)=decide ((bQ s).length<=6) from decide_eq_decide.2 (by omega)]
 cases (bQ s).all fun n=>M.inR n 97 122<;>simp
theorem F.xg (v:aa.D) (h_v:Sm aa v):F.qh v=some (M.aN v):=by
 unfold F.qh M.aN
 simp only[fI]
 simp only[bp]
theorem F.Am (row:LV) (h_row:Sm (Ty.sl aa) row):F.tc row=some (M.oA row):=by
 unfold F.tc M.oA
 rw[fE M.aN () (fun x _=>by simp only[F.ko,gp,bp]<;>rfl),show decide ((row.length:Int)<=4)=decide (row.length<=4) from decide_eq_decide.2 (by omega)]
 cases row.all M.aN<;>simp
theorem F.xK (columns:LC) (row:LV) (h_columns:Sm (Ty.sl ay) columns) (h_row:Sm (Ty.sl aa) row):F.pI columns row=some (M.bM columns row):=by
 unfold F.pI M.bM
 cases M.bH columns
 ·rfl
 cases M.oA row
 ·rfl
 by_cases hl:row.length=columns.length
 ·rw[fE (M.tq columns row) () (fun i hi=>by
   obtain⟨h0,h1⟩:=dm.1 hi
   have h2:i<(columns.length:Int):=by omega
   simp only[F.iK,aj h2]
   unfold M.tq
   cases decide ((nth (t:=aa) row i).1=(nth (t:=ay) columns i).1)<;>cases decide ((nth (t:=aa) row i).1=(0:Int))<;>cases (nth (t:=ay) columns i).2.1<;>rfl)]
  simp only[hl,Bool.not_true,decide_true,Bool.true_and,cond_true,cond_false]
  cases (aR 0 (columns.length:Int)).all (M.tq columns row)<;>rfl
 ·have h3:¬(row.length:Int)=(columns.length:Int):=by omega
  simp[hl,h3]
theorem F.zE (columns:LC) (rows:LLV) (h_columns:Sm (Ty.sl ay) columns) (h_rows:Sm (Ty.sl (Ty.sl aa)) rows):F.qV columns rows=some (M.gu columns rows):=by
 unfold F.qV M.gu
 rw[fE (M.bM columns) () (fun x _=>by simp only[F.jF,gp,bp])]
 cases rows.all (M.bM columns)<;>simp
theorem F.vZ (tables:LTb) (h_tables:Sm (Ty.sl ag) tables):F.od tables=some (M.aG tables):=by
 unfold F.od M.aG
 rw[fE M.dy () (fun x _=>by
  simp only[F.gW]
  unfold M.dy
  by_cases h:x.2.1.length<=6
  ·have h2:¬(6:Int)<(x.2.1.length:Int):=by omega
   simp only[h2,h,decide_true,decide_false,Bool.true_and]
   cases M.gu x.1 x.2.1<;>rfl
  ·have h2:(6:Int)<(x.2.1.length:Int):=by omega
   simp[h2,h]),show decide ((tables.length:Int)<=3)=decide (tables.length<=3) from decide_eq_decide.2 (by omega)]
 cases tables.all M.dy<;>simp
theorem F.tM (columns:LC) (list:(List Int)) (h_columns:Sm (Ty.sl ay) columns) (h_list:Sm (Ty.sl (Ty.int .i64)) list):F.lD columns list=some (M.ck columns list):=by
 unfold F.lD M.ck
 rw[fE (fun n=>M.inR n 0 ((columns.length:Int)-1)) () (fun x _=>by simp only[F.fT,gp,bp,mq _ h_columns.1])]
 cases list.all fun n=>M.inR n 0 ((columns.length:Int)-1)<;>simp
theorem F.yg (columns:LC) (kinds:(List Int)) (p:aE.D) (h_columns:Sm (Ty.sl ay) columns) (h_kinds:Sm (Ty.sl (Ty.int .i64)) kinds) (h_p:Sm aE p) (p0:kinds.length<=1000):F.kS columns kinds p=some (M.wz columns kinds p):=by
 obtain⟨o,s,e,_⟩:=uF (columns:=columns) p p0 h_columns.1
 unfold M.wz
 rw[e]
 rfl
theorem F.vM (columns:LC) (e:LPt) (h_columns:Sm (Ty.sl ay) columns) (h_e:Sm (Ty.sl aE) e):F.nJ columns e=some (M.dF columns e):=by
 unfold F.nJ M.dF
 cases M.bH columns
 ·rfl
 by_cases hl:e.length<=12
 ·rw[decide_eq_false (show ¬(12:Int)<(e.length:Int) by omega),decide_eq_true hl]
  obtain⟨o,s,h1,h2⟩:=Az (columns:=columns) (E:=e) (by omega) h_columns.1 e.length 0 [] (by omega) (by omega) (by simp;omega)
  rw[show (0:Int)=((0:Nat):Int) from rfl,h1]
  rw[List.drop_zero] at h2
  unfold ov at h2
  cases hk:M.jk columns e [] with
  | none=>
   rw[hk] at h2
   simp only at h2
   subst h2
   rfl
  | some s'=>
   rw[hk] at h2
   obtain⟨rfl,rfl⟩:=h2
   match s with
   | []=>rfl
   | [a]=>exact aj (by simp)
   | a::b::l=>
    have:¬((a::b::l).length:Int)=1:=by simp;omega
    simp only[Option.bind_some,this,decide_false]
    rfl
 ·rw[decide_eq_true (show (12:Int)<(e.length:Int) by omega),decide_eq_false hl]
  rfl
theorem F.yV (tables:LTb) (b:ai.D) (h_tables:Sm (Ty.sl ag) tables) (h_b:Sm ai b):F.rK tables b=some (M.aG tables&&M.aS tables b):=by
 unfold F.rK M.aS
 rw[mq _ h_tables.1]
 cases M.aG tables
 ·rfl
 cases hin:M.inR b.2.1 0 ((tables.length:Int)-1)
 ·rfl
 simp only[fI]
 simp only[Cv,zL,GD,EG]
 by_cases e1:b.1=(1:Int)
 ·simp only[e1,decide_true,cond_true,Bool.not_true,Bool.true_and,show ((false:Bool)==false)=true from rfl,cond_false]
 by_cases e3:b.1=(3:Int)
 ·simp only[e3,decide_true,decide_false,cond_true,cond_false,Int.reduceEq,Bool.not_true,Bool.true_and,show ((false:Bool)==false)=true from rfl]
 by_cases e2:b.1=(2:Int)
 ·simp only[e2,decide_true,decide_false,cond_true,cond_false,Int.reduceEq,Bool.not_true,Bool.true_and,show ((false:Bool)==false)=true from rfl]
  cases hof:M.inR b.2.2.2.1 0 ((tables.length:Int)-1)
  ·rfl
  cases hl1:M.ck (nth (t:=ag) tables b.2.1).1 b.2.2.1
  ·rfl
  cases hl2:M.ck (nth (t:=ag) tables b.2.2.2.1).1 b.2.2.2.2.1
  ·rfl
  by_cases hle:b.2.2.1.length=b.2.2.2.2.1.length
  ·cases he:decide (b.2.2.2.2.2.2.1.length=0)
   ·simp[hle]
   simp only[hle,decide_true,Bool.not_true,Bool.not_false,Bool.true_and,cond_true,cond_false]
   rw[<-hle]
   rw[fE (fun i=>decide ((nth (t:=ay) (nth (t:=ag) tables b.2.1).1 (nth (t:=.int .i64) b.2.2.1 i)).1=(nth (t:=ay) (nth (t:=ag) tables b.2.2.2.1).1 (nth (t:=.int .i64) b.2.2.2.2.1 i)).1)) () (fun i hi=>by
    obtain⟨i0,i1⟩:=dm.1 hi
    have a1:=oT hl1 (Bj (t:=.int .i64) hi)
    have i2:i<(b.2.2.2.2.1.length:Int):=by omega
    have a2:=oT hl2 (cK (t:=.int .i64) i0 i2)
    have a3:=vo hof
    simp only[F.jy]
    rw[aj a1.1,aj a1.2,aj a3.1,aj (Int.lt_of_le_sub_one a3.2),aj i2,aj a2.1,aj a2.2]
    rw[gp,bp])]
   simp only[Bool.not_true,Bool.true_and,show ((false:Bool)==false)=true from rfl,cond_true,cond_false]
   cases (aR 0 (b.2.2.1.length:Int)).all fun i=>decide ((nth (t:=ay) (nth (t:=ag) tables b.2.1).1 (nth (t:=.int .i64) b.2.2.1 i)).1=(nth (t:=ay) (nth (t:=ag) tables b.2.2.2.1).1 (nth (t:=.int .i64) b.2.2.2.2.1 i)).1)<;>rfl
  ·simp[hle,Ne.symm hle]
 ·simp[e1,e2,e3]
theorem F.xG (truth:Int)  : F.pY truth=some (M.valueOf truth):=by
 unfold F.pY M.valueOf M.inR
 by_cases h0:truth=0
 ·subst h0;rfl
 ·by_cases h1:truth=1
  ·subst h1;rfl
  ·have h2:¬(0<=truth/\truth<=1):=by omega
   simp only[h0,h1,decide_false]
   by_cases h3:0<=truth
   ·have h4:¬truth<=1:=by omega
    simp[h3,h4]
   ·simp[h3]
theorem F.Aq (a:aa.D) (b:aa.D) (h_a:Sm aa a) (h_b:Sm aa b):F.tA a b=some (M.sum a b):=by
 unfold F.tA M.sum
 have e:(0:Int)-9999=-9999:=rfl
 cases decide (a.1=(0:Int))<;>cases decide (b.1=(0:Int))<;>cases M.inR (wrap64 (a.2.1+b.2.1)) (-9999) 9999<;>rfl
theorem F.zH (b:Bool)  : F.qU b=some (M.bool b):=by
 unfold F.qU M.bool
 rw[bp]
theorem F.zA (a:Int) (b:Int)  : F.qO a b=some (M.less a b):=by
 unfold F.qO M.less
 rw[bp]
theorem F.zS (a:ByteArray) (b:ByteArray) (h_a:Sm Ty.str a) (h_b:Sm Ty.str b):F.tE a b=some (M.uI a b):=by
 unfold F.tE M.uI
 simp only[bp]
theorem F.sM (a:aa.D) (b:aa.D) (h_a:Sm aa a) (h_b:Sm aa b):F.lG a b=some (M.dX a b):=by
 unfold F.lG M.dX
 cases M.aN a
 ·rfl
 cases M.aN b
 ·rfl
 unfold M.order M.less M.uY
 by_cases h1:a.1=b.1
 ·by_cases h2:a.2.1=b.2.1
  ·simp[h1,h2,M.orI]
   generalize M.uI a.2.2.1 b.2.2.1=c
   by_cases hc:c=0<;>simp[hc]
  ·rcases Int.lt_or_gt_of_ne h2 with h | h
   ·have h3:¬b.2.1<a.2.1:=Int.lt_asymm h
    simp[h1,h2,h,h3,M.orI]
    rfl
   ·have h3:¬a.2.1<b.2.1:=Int.lt_asymm h
    simp[h1,h2,h,h3,M.orI]
    rfl
 ·rcases Int.lt_or_gt_of_ne h1 with h | h
  ·have h3:¬b.1<a.1:=Int.lt_asymm h
   simp[h1,h,h3,M.orI]
   rfl
  ·have h3:¬a.1<b.1:=Int.lt_asymm h
   simp[h1,h,h3,M.orI]
   rfl
theorem F.xp (kind:Int) (a:aa.D) (b:aa.D) (h_a:Sm aa a) (h_b:Sm aa b):F.qa kind a b=some (M.compare kind a b):=by
 unfold F.qa M.compare M.dX M.zD
 cases M.inR kind 1 4
 ·rfl
 cases M.aN a
 ·rfl
 cases M.aN b
 ·rfl
 cases decide (a.1=(0:Int))<;>cases decide (b.1=(0:Int))<;>cases decide (a.1=b.1)<;>cases decide (kind=1)<;>cases decide (kind=2)<;>cases decide (kind=3)<;>rfl
theorem F.wV (n:Int)  : F.uO n=some (M.inR n 0 2):=by
 rfl
theorem F.zo (n:Int) (p0:M.inR n 0 2=true):F.rM n=some (M.sure n):=by
 have h3:n=0\/n=1\/n=2:=by
  unfold M.inR at p0
  simp at p0
  omega
 rcases h3 with rfl | rfl | rfl<;>(unfold F.rM;(repeat rw[aj (by decide)]);rfl)
theorem F.Ao (a:Int) (b:Int)  : F.sU a b=some (M.ru a b):=by
 unfold F.sU M.ru M.fold
 cases ha:M.inR a 0 2
 ·rfl
 cases hb:M.inR b 0 2
 ·rfl
 have h3:∀n,M.inR n 0 2=true->n=0\/n=1\/n=2:=by
  intro n hn
  unfold M.inR at hn
  simp at hn
  omega
 rcases h3 a ha with rfl | rfl | rfl<;>rcases h3 b hb with rfl | rfl | rfl<;>(repeat rw[aj (by rfl)])<;>rfl
theorem F.xC (v:aa.D) (h_v:Sm aa v):F.qd v=some (M.cj v):=by
 unfold F.qd M.cj
 cases hv:M.aN v
 ·rfl
 simp only[Bool.not_true,cond_true,cond_false]
 unfold M.aN at hv
 by_cases h0:v.1=(0:Int)
 ·simp[h0]
 ·by_cases h1:v.1=(1:Int)
  ·simp[h1]
  ·by_cases h2:v.1=(2:Int)
   ·simp[h2]
   ·by_cases h3:v.1=(3:Int)
    ·simp[h3]
    ·simp[h0,h1,h2,h3] at hv
theorem F.Bp (a:Int) (b:Int)  : F.vO a b=some (M.yd a b):=by
 unfold F.vO M.yd M.fold
 cases ha:M.inR a 0 2
 ·rfl
 cases hb:M.inR b 0 2
 ·rfl
 have h3:∀n,M.inR n 0 2=true->n=0\/n=1\/n=2:=by
  intro n hn
  unfold M.inR at hn
  simp at hn
  omega
 rcases h3 a ha with rfl | rfl | rfl<;>rcases h3 b hb with rfl | rfl | rfl<;>(repeat rw[aj (by rfl)])<;>rfl
theorem F.Aa (a:Int)  : F.tf a=some (M.qB a):=by
 unfold F.tf M.qB
 cases ha:M.inR a 0 2
 ·unfold M.inR at ha
  simp at ha
  have h0:¬a=0:=by omega
  have h1:¬a=1:=by omega
  have h2:¬a=2:=by omega
  simp[h0,h1,h2]
 ·have h3:a=0\/a=1\/a=2:=by
   unfold M.inR at ha
   simp at ha
   omega
  rcases h3 with rfl | rfl | rfl<;>(repeat rw[aj (by rfl)])<;>rfl
theorem F.Bt (row:LV) (values:LV) (p:aE.D) (h_row:Sm (Ty.sl aa) row) (h_values:Sm (Ty.sl aa) values) (h_p:Sm aE p) (p0:values.length<=1000) (p1:M.takes p<=(values.length:Int)) (p2:1<=p.1/\p.1<=8) (p3:M.nF p row.length):F.rR row values p=some (M.eY row values p):=by
 exact DN p values (show Sm aE p from h_p) h_values p0 p1 p2 p3
theorem F.xu (row:LV) (e:LPt) (h_row:Sm (Ty.sl aa) row) (h_e:Sm (Ty.sl aE) e) (p0:M.jE row.length e):F.pL row e=some (M.eR row e):=by
 unfold F.pL M.eR
 obtain⟨h1,h2⟩:=yR (f:=F.eS row e) h_row (fun p st hp hs hl h1 hk hc=>zZ p st hs hl h1 hk hc) e [] h_e.2 (iW aa) (by simp;have:=p0.1;omega) p0.2
 rw[h1,cr,aj (by omega)]
theorem F.xj (row:LV) (list:(List Int)) (h_row:Sm (Ty.sl aa) row) (h_list:Sm (Ty.sl (Ty.int .i64)) list) (p0:M.eZ row list):F.pS row list=some (M.taken row list):=by
 unfold F.pS
 rw[uH (fun i=>nth (t:=aa) row i) (fun x hx s hs=>by
  have hl:=h_list.1
  obtain⟨h0,h1⟩:=p0 x hx
  simp only[F.iJ]
  rw[aj h0,aj h1,aj (by unfold lim;simp;omega)])]
 rfl
theorem F.xN (values:LV) (h_values:Sm (Ty.sl aa) values):F.pU values=some (M.kr values):=by
 unfold F.pU M.kr
 rw[GF (fun v:aa.D=>decide (v.1=(0:Int))) () (fun x _=>by simp only[F.iI,bp])]
 cases values.any fun v:aa.D=>decide (v.1=(0:Int))<;>rfl
theorem F.zC (a:LV) (b:LV) (h_a:Sm (Ty.sl aa) a) (h_b:Sm (Ty.sl aa) b):F.wI a b=some (decide (a=b)):=by
 exact CY (t:=aa) (fun i h0 h1 h2=>by simp only[F.jA,aj h2,gp,bp,Ew (t:=aa) rfl])
theorem F.uD (tables:LTb) (b:ai.D) (h_tables:Sm (Ty.sl ag) tables) (h_b:Sm ai b) (p0:(M.aG tables&&M.aS tables b)=true):F.mR tables b=some (M.broken tables b):=by
 obtain⟨ht,hb⟩:=Bool.and_eq_true_iff.1 p0
 obtain⟨⟨b0,b1⟩,hk⟩:=qj hb
 have htm:=cK (t:=ag) b0 b1
 unfold F.mR M.broken
 repeat rw[aj (by first | exact b0 | exact b1)]
 rw[AO (M.breaks tables b) (fun i hi=>by
  have hrm:=Bj (t:=.sl aa) hi
  obtain⟨n0,n1⟩:=dm.1 hi
  have hrow:=xY ht htm hrm
  have hlen:(nth (t:=ag) tables b.2.1).2.1.length<=1048576:=(aH h_tables b.2.1).2.1.1
  simp only[F.gE]
  unfold M.breaks M.fW
  rcases hk with⟨e1,hl⟩ | ⟨e3,he⟩ | ⟨e2,hl,ho,hl2⟩
  ·have hir:=rI ht htm hrm hl
   simp only[e1,decide_true,decide_false,cond_true,cond_false,Int.reduceEq,bS]
   rw[aj hir]
   cases hn:M.kr (M.taken (nth (t:=.sl aa) (nth (t:=ag) tables b.2.1).2.1 i) b.2.2.1)
   ·rw[Fh i (fun j=>decide (M.taken (nth (t:=.sl aa) (nth (t:=ag) tables b.2.1).2.1 j) b.2.2.1=M.taken (nth (t:=.sl aa) (nth (t:=ag) tables b.2.1).2.1 i) b.2.2.1)) (by omega) (fun j j0=>by
     unfold F.eW
     rw[hn]
     by_cases hj:j<i
     ·have hjm:=cK (t:=.sl aa) (xs:=(nth (t:=ag) tables b.2.1).2.1) j0 (by omega)
      rw[decide_eq_true hj,if_pos hj]
      simp only[Bool.not_false,cond_true,show ((true:Bool)==true)=true from rfl,bS]
      rw[aj j0,aj (show j<((nth (t:=ag) tables b.2.1).2.1.length:Int) by omega),aj (rI ht htm hjm hl)]
      generalize decide (M.taken (nth (t:=.sl aa) (nth (t:=ag) tables b.2.1).2.1 j) b.2.2.1=M.taken (nth (t:=.sl aa) (nth (t:=ag) tables b.2.1).2.1 i) b.2.2.1)=c
      cases c<;>rfl
     ·rw[decide_eq_false hj,if_neg hj]
      rfl) i.toNat 0 (by omega) (by omega)]
    rw[GW (t:=.sl aa) (nth (t:=ag) tables b.2.1).2.1 (fun r=>decide (M.taken r b.2.2.1=M.taken (nth (t:=.sl aa) (nth (t:=ag) tables b.2.1).2.1 i) b.2.2.1)) n0 (by omega)]
    generalize ((nth (t:=ag) tables b.2.1).2.1.take i.toNat).any (fun r=>decide (M.taken r b.2.2.1=M.taken (nth (t:=.sl aa) (nth (t:=ag) tables b.2.1).2.1 i) b.2.2.1))=c
    cases c<;>rfl
   ·rw[cV]
    unfold F.eW
    rw[hn]
    cases decide ((0:Int)<i)<;>rfl
  ·have hs:=AL (columns:=(nth (t:=ag) tables b.2.1).1) (e:=b.2.2.2.2.2.2.1) (by rw[he];decide)
   rw[<-hrow] at hs
   simp only[e3,decide_true,decide_false,cond_true,cond_false,Int.reduceEq,bS]
   rw[aj hs,bp]
  ·have hir:=rI ht htm hrm hl
   have hom:=cK (t:=ag) ho.1 ho.2
   have hlen2:(nth (t:=ag) tables b.2.2.2.1).2.1.length<=1048576:=(aH h_tables b.2.2.2.1).2.1.1
   simp only[e2,decide_true,decide_false,cond_true,cond_false,Int.reduceEq,bS]
   rw[aj hir]
   rw[CF ((nth (t:=ag) tables b.2.2.2.1).2.1.length:Int) (fun j=>decide (M.taken (nth (t:=.sl aa) (nth (t:=ag) tables b.2.2.2.1).2.1 j) b.2.2.2.2.1=M.taken (nth (t:=.sl aa) (nth (t:=ag) tables b.2.1).2.1 i) b.2.2.1)) (by omega) (fun f j j0=>by
    unfold F.gA
    simp only
    rw[aj ho.1,aj ho.2]
    by_cases hj:j<((nth (t:=ag) tables b.2.2.2.1).2.1.length:Int)
    ·have hjm:=cK (t:=.sl aa) (xs:=(nth (t:=ag) tables b.2.2.2.1).2.1) j0 hj
     rw[decide_eq_true hj,if_pos hj]
     cases f with
     | true=>rfl
     | false=>
      simp only[Bool.not_false,cond_true,cond_false,show ((true:Bool)==true)=true from rfl,bS]
      rw[aj j0]
      repeat rw[aj (by first | exact hj | exact rI ht hom hjm hl2)]
    ·rw[decide_eq_false hj,if_neg hj]
     rfl) _ _ 0 rfl (by omega)]
   rw[AQ (t:=.sl aa) (nth (t:=ag) tables b.2.2.2.1).2.1 (fun r=>decide (M.taken r b.2.2.2.2.1=M.taken (nth (t:=.sl aa) (nth (t:=ag) tables b.2.1).2.1 i) b.2.2.1))]
   generalize (nth (t:=ag) tables b.2.2.2.1).2.1.any (fun r=>decide (M.taken r b.2.2.2.2.1=M.taken (nth (t:=.sl aa) (nth (t:=ag) tables b.2.1).2.1 i) b.2.2.1))=c
   generalize M.kr (M.taken (nth (t:=.sl aa) (nth (t:=ag) tables b.2.1).2.1 i) b.2.2.1)=d
   cases c<;>cases d<;>rfl)]
 unfold M.fW
 cases (aR 0 ((nth (t:=ag) tables b.2.1).2.1.length:Int)).find? (M.breaks tables b)<;>rfl
theorem F.tw (tables:LTb) (b:ai.D) (h_tables:Sm (Ty.sl ag) tables) (h_b:Sm ai b):F.lI tables b=some (M.aJ tables b):=by
 unfold F.lI M.aJ
 cases h:(M.aG tables&&M.aS tables b)<;>rfl
theorem F.ue (tables:LTb) (bonds:(List ai.D)) (h_tables:Sm (Ty.sl ag) tables) (h_bonds:Sm (Ty.sl ai) bonds):F.mY tables bonds=some (M.bq tables bonds):=by
 unfold F.mY M.bq
 rw[fE (fun b=>decide (M.aJ tables b=-1)) () (fun x _=>by simp only[F.gy,gp,bp]),show decide ((bonds.length:Int)<=4)=decide (bonds.length<=4) from decide_eq_decide.2 (by omega)]
 cases bonds.all fun b=>decide (M.aJ tables b=-1)<;>simp
theorem F.Aj (row:LV) (h_row:Sm (Ty.sl aa) row):F.yY row=some row:=by
 rfl
theorem F.vi (tables:LTb) (h_tables:Sm (Ty.sl ag) tables):F.mH tables=some tables:=by
 unfold F.mH
 rw[M.xL (t:=ag) tables (fun i s i0 i1 hs=>by
  have hl:=h_tables.1
  have hr:(nth (t:=ag) tables i).2.1.length<=1048576:=(aH h_tables i).2.1.1
  unfold F.gC
  rw[M.DV (t:=.sl aa) (nth (t:=ag) tables i).2.1 (fun j w j0 j1 hw=>by
   unfold F.eT
   simp only[bS]
   rw[aj i0,aj i1,decide_eq_true j1,cond_true,aj j0,aj j1,aj (by unfold lim;simp;omega),aO (n:=j+1) (by omega) (by omega)]) (fun j w j0 j1=>by
   unfold F.eT
   simp only
   rw[aj i0,aj i1,decide_eq_false (Int.not_lt.2 j1),cond_false])]
  show af _ _=_
  rw[aj (by unfold lim;simp;omega)]
  rfl)]
 rfl
theorem F.xE (rows:LLV) (row:LV) (h_rows:Sm (Ty.sl (Ty.sl aa)) rows) (h_row:Sm (Ty.sl aa) row):F.pq rows row=some (M.cN rows row:Int):=by
 unfold F.pq M.cN
 have hl:=h_rows.1
 have key:∀(l:List (List aa.D)) (v:Int),0<=v->v+(l.length:Int)<=1048576->aU (F.gj rows row) l v=some (.inl (v+(l.countP (fun r=>decide (r=row)):Int))):=by
  intro l
  induction l with
  | nil=>intro v _ _;show some (Sum.inl v)=some (Sum.inl (v+0));rw[Int.add_zero]
  | cons x l ih=>
   intro v h0 hb
   simp only[List.length_cons] at hb
   rw[dJ,List.countP_cons,show F.gj rows row x v=cond (decide (x=row)) (some (.inl (wrap64 (v+(1:Int))))) (some (.inl v)) from rfl]
   cases decide (x=row) with
   | true=>
    rw[cond_true,aO (n:=v+(1:Int)) (by omega) (by omega),cr,ih _ (by omega) (by omega)]
    congr 2
    simp
    omega
   | false=>
    rw[cond_false,cr,ih _ h0 (by omega)]
    congr 2
 rw[key rows 0 (by omega) (by omega),cr,Int.zero_add]
theorem F.vK (tables:LTb) (c:ak.D) (h_tables:Sm (Ty.sl ag) tables) (h_c:Sm ak c):F.nN tables c=some (M.aQ tables c):=by
 unfold F.nN M.aQ
 have:=h_tables.1
 rw[aO (n:=(tables.length:Int)-(1:Int)) (by omega) (by omega),M.Ii]
 cases M.aG tables<;>cases M.inR c.1 0 ((tables.length:Int)-1)<;>cases M.bM (nth (t:=ag) tables c.1).1 c.2.1<;>cases c.2.2.1<;>cases decide (((nth (t:=ag) tables c.1).2.1.length:Int)<(6:Int))<;>rfl
theorem F.vq (a:LLV) (b:LLV) (h_a:Sm (Ty.sl (Ty.sl aa)) a) (h_b:Sm (Ty.sl (Ty.sl aa)) b):F.oo a b=some (M.mS a b):=by
 unfold F.oo M.mS
 rw[M.Hr (b:=b) h_a (fun z s hl h1 h2=>by
  have:=h_a.1
  unfold F.ig M.fe
  rw[aj h2]
  cases decide ((M.cN s.2 z:Int)<(M.cN b z:Int)) with
  | true=>
   rw[cond_true,cond_true,aj (by simp only[List.length_cons,List.length_nil,lim];omega)]
  | false=>
   rw[cond_false,cond_false]
   try rw[bS]
   rw[aj (by simp only[List.length_cons,List.length_nil,lim];omega)])]
 rfl
theorem F.sq (tables:LTb) (c:ak.D) (h_tables:Sm (Ty.sl ag) tables) (h_c:Sm ak c):F.jZ tables c=some (cond (M.aQ tables c) (M.bg tables c) [],M.aQ tables c):=by
 unfold F.jZ
 cases h:M.aQ tables c with
 | false=>rfl
 | true=>
  obtain⟨h1,⟨h2,h3⟩,h4,h5,h6⟩:=M.lW h
  have sr:Sm (.sl (.sl aa)) (nth (t:=ag) tables c.1).2.1:=(aH (t:=ag) h_tables c.1).2.1
  have hl:=(M.BX h1 h2 h3).1
  unfold M.rowsOf at hl
  simp only[bS,Bool.not_true,cond_false,cond_true]
  unfold M.bg M.iY
  cases hc:c.2.2.1 with
  | true=>
   simp only[cond_true]
   rw[aj h2,aj h3,aj (by simp only[List.length_cons,List.length_nil,lim];omega),aj (by rw[List.length_set];exact h3),M.Jc h2 h3]
  | false=>
   have h7:=h6 hc
   unfold M.rowsOf at h7
   simp only[cond_false]
   rw[aj h2,aj h3,aj sr,M.Hh _ _ h7]
theorem F.tI (tables:LTb) (bonds:(List ai.D)) (changes:(List ak.D)) (h_tables:Sm (Ty.sl ag) tables) (h_bonds:Sm (Ty.sl ai) bonds) (h_changes:Sm (Ty.sl ak) changes):F.lq tables bonds changes=some (M.bN tables bonds changes):=by
 unfold F.lq M.bN
 cases h1:M.aG tables with
 | false=>rfl
 | true=>
 cases h2:M.bq tables bonds with
 | false=>rfl
 | true=>
 by_cases h3:changes.length<=8
 case neg=>
  rw[decide_eq_true (show (8:Int)<(changes.length:Int) by omega),decide_eq_false h3]
  rfl
 rw[decide_eq_false (show ¬(8:Int)<(changes.length:Int) by omega),decide_eq_true h3]
 obtain⟨hl,hb⟩:=M.yI h2
 simp only[bS]
 obtain⟨e,_⟩:=oQ (f:=F.eH tables bonds changes) (M.cU bonds) (fun now=>Sm (.sl ag) now/\M.By now tables) (xs:=changes) ⟨h_tables,rfl,fun _ _=>rfl⟩ (fun c hc now hI=>by
  have sc:=h_changes.2 c hc
  refine⟨?_,M.xQ hI.1 sc,M.tN (M.AR c) hI.2⟩
  unfold F.eH M.cU
  rw[aj hI.1]
  simp only[bS]
  cases hk:M.aQ now c with
  | false=>rfl
  | true=>
   have sa:=M.zc hI.1 sc hk
   simp only[cond_true,Bool.true_and,show ((true:Bool)==true)=true from rfl]
   rw[aj sa]
   cases M.bq (M.bg now c) bonds<;>rfl)
 rw[show ((!true:Bool)==false)=true from rfl]
 simp only[cond_true,cond_false]
 rw[e]
 rfl
theorem F.xJ (n:Int) (low:Int) (high:Int)  : F.pW n low high=some (M.inR n low high):=by
 unfold F.pW M.inR
 cases decide (low<=n)<;>rfl
theorem F.sj (c:ay.D)  : F.oD c=some (!M.ee c):=by
 rfl
theorem F.kR (xs:LC) (h_xs:Sm (Ty.sl ay) xs):F.gH xs=some (M.idx (t:=ay) (fun e=>!M.ee e) xs):=by
 exact cZ (t:=ay) (p:=(fun e=>!M.ee e)) (fun i h0 h1=>by simp only[F.cM,bp])
theorem F.jr (xs:LC) (h_xs:Sm (Ty.sl ay) xs):F.dS xs=some (List.any xs (fun e=>!M.ee e)):=by
 unfold F.dS
 exact cE (t:=ay)
theorem F.vb (columns:LC) (h_columns:Sm (Ty.sl ay) columns):F.mC columns=some (M.bH columns):=by
 unfold F.mC M.bH
 rw[fI,show decide ((columns.length:Int)<=4)=decide (columns.length<=4) from decide_eq_decide.2 (by omega)]
 rw[List.all_eq_not_any_not]
theorem F.qy (v:aa.D) (h_v:Sm aa v):F.mZ v=some (decide (v.1=0)):=by
 rfl
theorem F.xy (s:ByteArray) (h_s:Sm Ty.str s):F.pg s=some (M.lower (bQ s)):=by
 unfold F.pg M.lower
 rw[fE (fun n=>M.inR n 97 122) () (fun x hx=>by
  obtain⟨h0,h1⟩:=GR hx
  simp only[F.iM,gp,bp,aO (n:=x) (by omega) (by omega)])]
 cases (bQ s).all fun n=>M.inR n 97 122<;>rfl
theorem F.vG (v:aa.D) (h_v:Sm aa v):F.nX v=some (M.aN v):=by
 unfold F.nX M.aN M.text
 simp only[fI]
 rw[show decide ((v.2.2.1.size:Int)<=6)=decide (v.2.2.1.size<=6) from decide_eq_decide.2 (by omega)]
 simp only[Ty.beq]
 cases h0:decide (v.1=(0:Int))
 ·generalize decide (v.1=(1:Int))=b1
  generalize decide (v.1=(2:Int))=b2
  generalize decide (v.1=(3:Int))=b3
  generalize decide (v.2.1=(0:Int))=c0
  generalize decide (v.2.2.1.size<=6)=c6
  generalize M.inR v.2.1 (-9999) 9999=c1
  generalize M.inR v.2.1 0 1=c3
  generalize decide (v.2.2.1=M.none_)=e0
  cases b1<;>cases b2<;>cases b3<;>cases c0<;>cases c6<;>cases c1<;>cases c3<;>cases e0<;>rfl
 ·simp only[cond_true,Bool.true_and,Bool.and_true]
theorem F.xe (v:aa.D) (h_v:Sm aa v):F.vj v=some (!M.aN v):=by
 rfl
theorem F.jK (xs:LV) (h_xs:Sm (Ty.sl aa) xs):F.gd xs=some (M.idx (t:=aa) (fun e=>decide (e.1=0)) xs):=by
 exact cZ (t:=aa) (p:=(fun e=>decide (e.1=0))) (fun i h0 h1=>by simp only[F.cz,bp])
theorem F.ng (xs:LV) (h_xs:Sm (Ty.sl aa) xs):F.jo xs=some (M.idx (t:=aa) (fun e=>!M.aN e) xs):=by
 exact cZ (t:=aa) (p:=(fun e=>!M.aN e)) (fun i h0 h1=>by simp only[F.dx,bp])
theorem F.iV (xs:LV) (h_xs:Sm (Ty.sl aa) xs):F.dw xs=some (List.any xs (fun e=>decide (e.1=0))):=by
 unfold F.dw
 exact cE (t:=aa)
theorem F.lH (xs:LV) (h_xs:Sm (Ty.sl aa) xs):F.eP xs=some (List.any xs (fun e=>!M.aN e)):=by
 unfold F.eP
 exact cE (t:=aa)
theorem F.zV (row:LV) (h_row:Sm (Ty.sl aa) row):F.sL row=some (M.oA row):=by
 unfold F.sL M.oA
 rw[fI,show decide ((row.length:Int)<=4)=decide (row.length<=4) from decide_eq_decide.2 (by omega)]
 rw[List.all_eq_not_any_not]
theorem F.xm (columns:LC) (row:LV) (h_columns:Sm (Ty.sl ay) columns) (h_row:Sm (Ty.sl aa) row):F.pM columns row=some (M.bM columns row):=by
 unfold F.pM M.bM
 cases M.bH columns
 ·rfl
 cases M.oA row
 ·rfl
 by_cases hl:row.length=columns.length
 ·rw[fE (M.tq columns row) () (fun i hi=>by
   obtain⟨h0,h1⟩:=dm.1 hi
   have h2:i<(columns.length:Int):=by omega
   simp only[F.iR,aj h2]
   unfold M.tq
   cases decide ((nth (t:=aa) row i).1=(nth (t:=ay) columns i).1)<;>cases decide ((nth (t:=aa) row i).1=(0:Int))<;>cases (nth (t:=ay) columns i).2.1<;>rfl)]
  simp only[hl,Bool.not_true,decide_true,Bool.true_and,cond_true,cond_false]
  cases (aR 0 (columns.length:Int)).all (M.tq columns row)<;>rfl
 ·have h3:¬(row.length:Int)=(columns.length:Int):=by omega
  simp[hl,h3]
theorem F.vA (r:LV) (columns:LC) (h_r:Sm (Ty.sl aa) r) (h_columns:Sm (Ty.sl ay) columns):F.sK r columns=some (!M.bM columns r):=by
 rfl
theorem F.xl (xs:LV) (ys:LV) (h_xs:Sm (Ty.sl aa) xs) (h_ys:Sm (Ty.sl aa) ys):F.uf xs ys=some (decide (xs=ys)):=by
 exact CY (t:=aa) (fun i h0 h1 h2=>by simp only[F.iN,aj h2,gp,bp,Ew (t:=aa) rfl])
theorem F.xA (r:LV) (row:LV) (h_r:Sm (Ty.sl aa) r) (h_row:Sm (Ty.sl aa) row):F.vc r row=some (decide (r=row)):=by
 rfl
theorem F.xz (xs:LV) (h_xs:Sm (Ty.sl aa) xs):F.ud xs=some xs:=by
 exact M.AT (t:=aa)
theorem F.zW (row:LV) (list:(List Int)) (h_row:Sm (Ty.sl aa) row) (h_list:Sm (Ty.sl (Ty.int .i64)) list) (p0:M.eZ row list):F.tj row list=some (M.taken row list):=by
 unfold F.tj
 rw[uH (fun i=>nth (t:=aa) row i) (fun x hx s hs=>by
  have hl:=h_list.1
  obtain⟨h0,h1⟩:=p0 x hx
  simp only[F.kA]
  rw[aj h0,aj h1,aj (by unfold lim;simp;omega)])]
 show af (Sm (.sl aa) (M.taken row list)) (aL (M.taken row list) fun r:List aa.D=>some (aD r (some ((0:Int),(r.length:Int)))))=_
 rw[aj (M.gi h_row h_list)]
 simp only[bS,M.xW]
theorem F.oN (r:LV) (list:(List Int)) (key:LV) (h_r:Sm (Ty.sl aa) r) (h_list:Sm (Ty.sl (Ty.int .i64)) list) (h_key:Sm (Ty.sl aa) key) (p0:M.eZ r list):F.kJ r list key=some (decide (M.taken r list=key)):=by
 rfl
theorem F.nc (xs:LLV) (k0:LV) (h_xs:Sm (Ty.sl (Ty.sl aa)) xs) (h_k0:Sm (Ty.sl aa) k0):F.jw xs k0=some (M.idx (t:=(Ty.sl aa)) (fun e=>decide (e=k0)) xs):=by
 exact cZ (t:=(Ty.sl aa)) (p:=(fun e=>decide (e=k0))) (fun i h0 h1=>by simp only[F.dz,bp])
theorem F.mP (xs:LLV) (k0:LC) (h_xs:Sm (Ty.sl (Ty.sl aa)) xs) (h_k0:Sm (Ty.sl ay) k0):F.jd xs k0=some (M.idx (t:=(Ty.sl aa)) (fun e=>!M.bM k0 e) xs):=by
 exact cZ (t:=(Ty.sl aa)) (p:=(fun e=>!M.bM k0 e)) (fun i h0 h1=>by simp only[F.dg,bp])
theorem F.ji (xs:LLV) (k0:(List Int)) (k1:LV) (h_xs:Sm (Ty.sl (Ty.sl aa)) xs) (h_k0:Sm (Ty.sl (Ty.int .i64)) k0) (h_k1:Sm (Ty.sl aa) k1) (p0:∀e∈xs,M.eZ e k0):F.fK xs k0 k1=some (M.idx (t:=(Ty.sl aa)) (fun e=>decide (M.taken e k0=k1)) xs):=by
 exact cZ (t:=(Ty.sl aa)) (p:=(fun e=>decide (M.taken e k0=k1))) (fun i h0 h1=>by simp only[F.cn,aj (p0 (nth (t:=(Ty.sl aa)) xs i) (cK (t:=(Ty.sl aa)) h0 h1)),bp])
theorem F.kG (xs:LLV) (k0:LC) (h_xs:Sm (Ty.sl (Ty.sl aa)) xs) (h_k0:Sm (Ty.sl ay) k0):F.eG xs k0=some (List.any xs (fun e=>!M.bM k0 e)):=by
 unfold F.eG
 exact cE (t:=(Ty.sl aa))
theorem F.iu (xs:LLV) (k0:(List Int)) (k1:LV) (h_xs:Sm (Ty.sl (Ty.sl aa)) xs) (h_k0:Sm (Ty.sl (Ty.int .i64)) k0) (h_k1:Sm (Ty.sl aa) k1) (p0:∀e∈xs,M.eZ e k0):F.cY xs k0 k1=some (List.any xs (fun e=>decide (M.taken e k0=k1))):=by
 unfold F.cY
 exact cE (t:=(Ty.sl aa))
theorem F.zv (columns:LC) (rows:LLV) (h_columns:Sm (Ty.sl ay) columns) (h_rows:Sm (Ty.sl (Ty.sl aa)) rows):F.rL columns rows=some (M.gu columns rows):=by
 unfold F.rL M.gu
 rw[fI,List.all_eq_not_any_not]
theorem F.sO (t:ag.D) (h_t:Sm ag t):F.lC t=some (!M.dy t):=by
 unfold F.lC M.dy
 cases hc:M.bH t.1
 ·have:M.gu t.1 t.2.1=false:=by unfold M.gu;rw[hc];rfl
  rw[this]
  simp
 by_cases h:t.2.1.length<=6
 ·have h2:¬(6:Int)<(t.2.1.length:Int):=by omega
  simp[h2,h]
 ·have h2:(6:Int)<(t.2.1.length:Int):=by omega
  simp[h2,h]
theorem F.lA (xs:LTb) (h_xs:Sm (Ty.sl ag) xs):F.iq xs=some (M.idx (t:=ag) (fun e=>!M.dy e) xs):=by
 exact cZ (t:=ag) (p:=(fun e=>!M.dy e)) (fun i h0 h1=>by simp only[F.cQ,bp])
theorem F.jL (xs:LTb) (h_xs:Sm (Ty.sl ag) xs):F.dW xs=some (List.any xs (fun e=>!M.dy e)):=by
 unfold F.dW
 exact cE (t:=ag)
theorem F.vJ (tables:LTb) (h_tables:Sm (Ty.sl ag) tables):F.nO tables=some (M.aG tables):=by
 unfold F.nO M.aG
 rw[fI,show decide ((tables.length:Int)<=3)=decide (tables.length<=3) from decide_eq_decide.2 (by omega)]
 rw[List.all_eq_not_any_not]
theorem F.Ay (rows:LLV) (row:LV) (h_rows:Sm (Ty.sl (Ty.sl aa)) rows) (h_row:Sm (Ty.sl aa) row):F.zh rows row=some (M.rowAt rows row):=by
 rfl
theorem F.wu (tables:LTb) (c:ak.D) (h_tables:Sm (Ty.sl ag) tables) (h_c:Sm ak c):F.nW tables c=some (M.aQ tables c):=by
 unfold F.nW M.aQ
 have:=h_tables.1
 rw[aO (n:=(tables.length:Int)-(1:Int)) (by omega) (by omega)]
 cases M.aG tables<;>cases M.inR c.1 0 ((tables.length:Int)-1)<;>cases M.bM (nth (t:=ag) tables c.1).1 c.2.1<;>cases c.2.2.1<;>cases decide (((nth (t:=ag) tables c.1).2.1.length:Int)<(6:Int))<;>rfl
theorem F.wg (rows:LLV) (h_rows:Sm (Ty.sl (Ty.sl aa)) rows):F.nL rows=some rows:=by
 unfold F.nL
 rw[uH (fun r=>r) (fun x hx s hs=>by
  have hl:=h_rows.1
  simp only[F.ic,bS,M.xW]
  rw[aj (by unfold lim;simp;omega)]),M.Cn,cr,M.zy]
theorem F.vz (xs:LC) (h_xs:Sm (Ty.sl ay) xs):F.sJ xs=some xs:=by
 exact M.AT (t:=ay)
theorem F.tC (tables:LTb) (h_tables:Sm (Ty.sl ag) tables):F.kU tables=some tables:=by
 unfold F.kU
 rw[uH (fun r=>r) (fun x hx s hs=>by
  have hl:=h_tables.1
  simp only[F.ga,bS,M.xW]
  rw[aj (by unfold lim;simp;omega)]),M.Cn,cr,M.zy]
theorem F.sA (tables:LTb) (c:ak.D) (h_tables:Sm (Ty.sl ag) tables) (h_c:Sm ak c) (p0:M.aQ tables c):F.jR tables c=some (M.bg tables c):=by
 unfold F.jR
 have hp:M.aQ tables c=true:=p0
 unfold M.aQ at hp
 obtain⟨_,hp⟩:=Bool.and_eq_true_iff.1 hp
 obtain⟨hi,hp⟩:=Bool.and_eq_true_iff.1 hp
 obtain⟨i0,i1⟩:=M.HH.1 hi
 obtain⟨_,hp⟩:=Bool.and_eq_true_iff.1 hp
 have sr:Sm (.sl (.sl aa)) (nth (t:=ag) tables c.1).2.1:=(aH h_tables c.1).2.1
 have sv:Sm (.sl aa) c.2.1:=h_c.2.1
 simp only[bS,M.xW]
 rw[aj i0,aj i1]
 unfold M.bg M.iY
 have i1':c.1<(tables.length:Int):=by omega
 have hl:=sr.1
 cases hc:c.2.2.1 with
 | true=>
  have s1:Sm (.sl (.sl aa)) ((nth (t:=ag) tables c.1).2.1++[c.2.1]):=by
   rw[hc,cond_true] at hp
   have:=of_decide_eq_true hp
   refine⟨by rw[List.length_append];simp only[List.length_cons,List.length_nil];omega,fun x hx=>(List.mem_append.1 hx).elim (sr.2 x) fun hx=>by rw[List.mem_singleton.1 hx];exact sv⟩
  simp only[cond_true]
  rw[aj (by simp only[List.length_cons,List.length_nil,lim];omega),M.Jc i0 i1',M.Jx i0 i1',M.uj i0 i1',aj s1]
 | false=>
  rw[hc,cond_false] at hp
  have r0:=of_decide_eq_true hp
  have r1:M.rowAt (nth (t:=ag) tables c.1).2.1 c.2.1<((nth (t:=ag) tables c.1).2.1.length:Int):=by
   rcases Je (t:=.sl aa) (p:=fun e=>decide (e=c.2.1)) (xs:=(nth (t:=ag) tables c.1).2.1) with h | h
   ·exact h
   ·unfold M.rowAt at r0
    rw[h] at r0
    exact absurd (show (0:Int)<=-1 from r0) (by decide)
  generalize hr:M.rowAt (nth (t:=ag) tables c.1).2.1 c.2.1=k at *
  have hw:wrap64 (k+(1:Int))=k+1:=aO (by omega) (by omega)
  have s1:Sm (.sl (.sl aa)) ((nth (t:=ag) tables c.1).2.1.take k.toNat++(nth (t:=ag) tables c.1).2.1.drop (k.toNat+1)):=by
   refine⟨by simp;omega,fun x hx=>(List.mem_append.1 hx).elim (fun h=>sr.2 x (List.mem_of_mem_take h)) fun h=>sr.2 x (List.mem_of_mem_drop h)⟩
  simp only[cond_false]
  rw[hw,show (k+1).toNat=k.toNat+1 by omega,aj sr,aj r0,aj (by omega),aj (by omega),M.Jc i0 i1',M.Jx i0 i1',M.uj i0 i1',aj s1]
theorem F.sw (tables:LTb) (c:ak.D) (h_tables:Sm (Ty.sl ag) tables) (h_c:Sm ak c):F.ki tables c=some (cond (M.aQ tables c) (M.bg tables c) [],M.aQ tables c):=by
 unfold F.ki
 cases h:M.aQ tables c with
 | false=>rfl
 | true=>rw[aj rfl];rfl
theorem F.sR (p:aE.D) (h_p:Sm aE p):F.kY p=some (M.takes p):=by
 unfold F.kY M.takes
 generalize decide (p.1=(3:Int))=c3
 generalize decide (p.1=(4:Int))=c4
 generalize decide (p.1=(5:Int))=c5
 generalize decide (p.1=(6:Int))=c6
 generalize decide (p.1=(7:Int))=c7
 generalize decide (p.1=(8:Int))=c8
 cases c3<;>cases c4<;>cases c5<;>cases c6<;>cases c7<;>cases c8<;>rfl
theorem F.wW (truth:Int)  : F.qb truth=some (M.valueOf truth):=by
 unfold F.qb M.valueOf
 cases M.inR truth 0 1<;>rfl
theorem F.Ab (vals:(List Int)) (h_vals:Sm (Ty.sl (Ty.int .i64)) vals):F.tJ vals=some (M.orI vals):=by
 unfold F.tJ
 suffices h:∀(A B:List Int),bC (aU (F.iH A) B ()) (fun v0:Unit=>some (0:Int)) (fun q0:Int=>some q0)=some (M.orI B) from h vals vals
 intro A B
 induction B with
 | nil=>rfl
 | cons x l ih=>
  rw[dJ]
  simp only[F.iH,M.orI]
  by_cases hx:x=0
  ·simp only[hx,decide_true,Bool.not_true,cond_false,cond_true,cr]
   exact ih
  ·simp[hx]
theorem F.vY (x:Int)  : F.cmp_isNaN_int x=some false:=by
 unfold F.cmp_isNaN_int
 simp
theorem F.tu (x:Int) (y:Int)  : F.lE x y=some (M.uY x y):=by
 unfold F.lE M.uY
 simp only[cond_false,bp]
theorem F.sx (x:ByteArray) (h_x:Sm Ty.str x):F.cmp_isNaN_string x=some false:=by
 unfold F.cmp_isNaN_string
 simp
theorem F.qx (x:ByteArray) (y:ByteArray) (h_x:Sm Ty.str x) (h_y:Sm Ty.str y):F.iT x y=some (M.uI x y):=by
 unfold F.iT M.uI
 simp only[cond_false,bp]
theorem F.sB (v:aa.D) (w:aa.D) (h_v:Sm aa v) (h_w:Sm aa w):F.ke v w=some (M.order v w):=by
 unfold F.ke
 rw[aj ⟨by simp,fun _ _=>trivial⟩]
 rfl
theorem F.xh (b:Bool)  : F.pe b=some (M.bool b):=by
 unfold F.pe M.bool
 rw[bp]
theorem F.xM (kind:Int) (a:aa.D) (b:aa.D) (h_a:Sm aa a) (h_b:Sm aa b):F.qg kind a b=some (M.compare kind a b):=by
 unfold F.qg M.compare M.zD
 cases hk:M.inR kind 1 4
 ·rfl
 cases M.aN a
 ·rfl
 cases M.aN b
 ·rfl
 have h4:decide (kind=1)=false->decide (kind=2)=false->decide (kind=3)=false->decide (kind=4)=true:=by
  unfold M.inR at hk
  simp at hk ⊢
  omega
 cases decide (a.1=(0:Int))<;>cases decide (b.1=(0:Int))<;>cases decide (a.1=b.1)<;>cases h1:decide (kind=1)<;>cases h2:decide (kind=2)<;>cases h3:decide (kind=3)<;>(try rw[h4 h1 h2 h3])<;>cases decide (M.order a b=0)<;>cases decide (M.order a b<0)<;>rfl
theorem F.xI (n:Int)  : F.uw n=some (M.inR n 0 2):=by
 rfl
theorem F.BL (a:Int) (b:Int) (alone:Int) (p0:0<=alone/\alone<=1):F.vr a b alone=some (M.fold a b alone):=by
 unfold F.vr M.fold
 rw[aO (n:=1-alone) (by omega) (by omega)]
 cases M.inR a 0 2
 ·rfl
 cases M.inR b 0 2
 ·rfl
 cases decide (a=alone)<;>cases decide (b=alone)<;>cases decide (a=2)<;>cases decide (b=2)<;>rfl
theorem F.zP (a:Int) (b:Int)  : F.tG a b=some (M.ru a b):=by
 unfold F.tG M.ru
 rw[aj (by decide)]
theorem F.xq (v:aa.D) (h_v:Sm aa v):F.qk v=some (M.cj v):=by
 unfold F.qk M.cj
 cases M.aN v<;>simp only[Bool.not_true,Bool.not_false,cond_true,cond_false,bp]
theorem F.BO (a:Int) (b:Int)  : F.vV a b=some (M.yd a b):=by
 unfold F.vV M.yd
 rw[aj (by decide)]
theorem F.Ag (a:Int)  : F.sP a=some (M.qB a):=by
 unfold F.sP M.qB
 simp only[bp]
theorem F.tK (p:aE.D) (row:LV) (inp:LV) (h_p:Sm aE p) (h_row:Sm (Ty.sl aa) row) (h_inp:Sm (Ty.sl aa) inp) (p0:(inp.length:Int)=M.takes p) (p1:M.nF p row.length) (p2:1<=p.1/\p.1<=8):F.lJ p row inp=some (M.gZ p row inp):=by
 unfold F.lJ M.gZ
 have hz:(((0:Int),(0:Int),(⟨#[]⟩:ByteArray),()):aa.D)=M.zeroV:=rfl
 by_cases e1:p.1=(1:Int)
 ·simp only[e1,decide_true,cond_true]
 by_cases e2:p.1=(2:Int)
 ·obtain⟨c0,c1⟩:=p1 e2
  simp only[e2,decide_true,cond_true,Int.reduceEq,decide_false,cond_false]
  rw[aj c0,aj c1]
 by_cases e3:p.1=(3:Int)
 ·rw[fQ (.inl e3)] at p0
  simp only[e3,decide_true,cond_true,Int.reduceEq,decide_false,cond_false]
  repeat rw[aj (by omega)]
  generalize nth (t:=aa) inp 0=a
  generalize nth (t:=aa) inp 1=b
  unfold M.sum
  have hv:M.aN ((1:Int),wrap64 (a.2.1+b.2.1),(⟨#[]⟩:ByteArray),())=M.inR (wrap64 (a.2.1+b.2.1)) (-9999) 9999:=by unfold M.aN;simp
  rw[hv]
  cases decide (a.1=(0:Int))<;>cases decide (b.1=(0:Int))<;>cases M.inR (wrap64 (a.2.1+b.2.1)) (-9999) 9999<;>rfl
 by_cases e4:p.1=(4:Int)
 ·rw[fQ (.inr (.inl e4))] at p0
  simp only[e4,decide_true,cond_true,Int.reduceEq,decide_false,cond_false,bS]
  repeat rw[aj (by omega)]
 by_cases e5:p.1=(5:Int)
 ·rw[fQ (.inr (.inr (.inl e5)))] at p0
  simp only[e5,decide_true,cond_true,Int.reduceEq,decide_false,cond_false,bS]
  repeat rw[aj (by omega)]
 by_cases e6:p.1=(6:Int)
 ·rw[fQ (.inr (.inr (.inr e6)))] at p0
  simp only[e6,decide_true,cond_true,Int.reduceEq,decide_false,cond_false,bS]
  repeat rw[aj (by omega)]
 by_cases e7:p.1=(7:Int)
 ·rw[mo (.inl e7)] at p0
  simp only[e7,decide_true,cond_true,Int.reduceEq,decide_false,cond_false,bS]
  repeat rw[aj (by omega)]
 ·simp only[e1,e2,e3,e4,e5,e6,e7,decide_false,cond_false,bS]
  have e8:p.1=(8:Int):=by
   rcases EN p2 with h | h | h | h | h | h | h | h<;>first | exact h | exact absurd h (by assumption)
  rw[mo (.inr e8)] at p0
  rw[aj (by omega)]
theorem F.uQ (row:LV) (e:LPt) (h_row:Sm (Ty.sl aa) row) (h_e:Sm (Ty.sl aE) e) (p0:M.jE row.length e):F.mL row e=some (M.eR row e):=by
 unfold F.mL M.eR
 obtain⟨h1,h2⟩:=yR (f:=F.dV row e) h_row (fun p st hp hs hl h1 hk hc=>As p st hp hs hl h1 hk hc) e [] h_e.2 (iW aa) (by simp;have:=p0.1;omega) p0.2
 rw[h1,cr,aj (by omega)]
theorem F.qz (list:(List Int)) (key:LV) (h_list:Sm (Ty.sl (Ty.int .i64)) list) (h_key:Sm (Ty.sl aa) key):F.mM list key=some (list,key):=by
 rfl
theorem F.sn (b:ai.D) (tables:LTb) (n:Int) (h_b:Sm ai b) (h_tables:Sm (Ty.sl ag) tables) (p0:(M.aG tables&&M.aS tables b)=true) (p1:0<=n/\n<((M.fW tables b).length:Int)):F.jQ b tables n=some (M.breaks tables b n):=by
 obtain⟨ht,hb⟩:=Bool.and_eq_true_iff.1 p0
 obtain⟨⟨b0,b1⟩,hk⟩:=qj hb
 obtain⟨n0,n1⟩:=p1
 have htm:=cK (t:=ag) b0 b1
 have hrm:=cK (t:=.sl aa) n0 n1
 have hrow:=xY ht htm hrm
 unfold M.fW at n1 hrm hrow
 unfold F.jQ M.breaks
 unfold M.fW
 rcases hk with⟨e1,hl⟩ | ⟨e3,he⟩ | ⟨e2,hl,ho,hl2⟩
 ·have hir:=rI ht htm hrm hl
  simp only[e1,decide_true,decide_false,cond_true,cond_false,Int.reduceEq,bS,CU]
  repeat rw[aj (by first | exact b0 | exact b1 | exact n0 | exact n1 | exact hir | exact Int.le_of_lt n1)]
  rw[aj (fun r hr=>rI ht htm (List.mem_of_mem_take hr) hl),bp]
  rfl
 ·have hs:=AL (columns:=(nth (t:=ag) tables b.2.1).1) (e:=b.2.2.2.2.2.2.1) (by rw[he];decide)
  rw[<-hrow] at hs
  simp only[e3,decide_true,decide_false,cond_true,cond_false,Int.reduceEq,bS]
  repeat rw[aj (by first | exact b0 | exact b1 | exact n0 | exact n1 | exact hs)]
 ·have hir:=rI ht htm hrm hl
  have hom:=cK (t:=ag) ho.1 ho.2
  simp only[e2,decide_true,decide_false,cond_true,cond_false,Int.reduceEq,bS]
  repeat rw[aj (by first | exact b0 | exact b1 | exact n0 | exact n1 | exact hir | exact ho.1 | exact ho.2)]
  rw[aj (fun r hr=>rI ht hom hr hl2),bp]
  rfl
theorem F.sy (b:ai.D) (tables:LTb) (h_b:Sm ai b) (h_tables:Sm (Ty.sl ag) tables) (p0:(M.aG tables&&M.aS tables b)=true):F.jV b tables=some (M.broken tables b):=by
 obtain⟨ht,hb⟩:=Bool.and_eq_true_iff.1 p0
 obtain⟨⟨b0,b1⟩,_⟩:=qj hb
 unfold F.jV M.broken
 rw[aj b0,aj b1]
 rw[AO (M.breaks tables b) (fun i hi=>by
  simp only[F.fy]
  rw[aj p0,aj (p:=0<=i/\i<((M.fW tables b).length:Int)) (dm.1 hi),bp])]
 unfold M.fW
 cases (aR 0 ((nth (t:=ag) tables b.2.1).2.1.length:Int)).find? (M.breaks tables b)<;>rfl
theorem F.yC (b:ai.D) (tables:LTb) (h_b:Sm ai b) (h_tables:Sm (Ty.sl ag) tables) (p0:(M.aG tables&&M.aS tables b)=true):F.wT b tables=some (decide (0<=M.broken tables b)):=by
 rfl
theorem F.tH (p:aE.D) (columns:LC) (h_p:Sm aE p) (h_columns:Sm (Ty.sl ay) columns):F.kV p columns=some (M.lK p columns):=by
 unfold F.kV M.lK M.noV
 rw[mq _ h_columns.1]
 simp only[fI,show Ty.beq aa p.2.2.1 ((0:Int),(0:Int),(⟨#[]⟩:ByteArray),())=Ty.beq aa p.2.2.1 M.zeroV from rfl]
 generalize Ty.beq aa p.2.2.1 M.zeroV=nv
 by_cases e1:p.1=(1:Int)
 ·simp only[e1,decide_true,cond_true]
 by_cases e2:p.1=(2:Int)
 ·simp only[e2,decide_true,cond_true,Int.reduceEq,decide_false,cond_false]
 by_cases e4:p.1=(4:Int)
 ·simp only[e4,decide_true,cond_true,Int.reduceEq,decide_false,cond_false]
 by_cases e3:p.1=(3:Int)
 ·simp only[e3,decide_true,cond_true,Int.reduceEq,decide_false,cond_false]
  rfl
 by_cases e5:p.1=(5:Int)
 ·simp only[e5,decide_true,cond_true,Int.reduceEq,decide_false,cond_false]
  rfl
 by_cases e6:p.1=(6:Int)
 ·simp only[e6,decide_true,cond_true,Int.reduceEq,decide_false,cond_false]
  rfl
 by_cases e7:p.1=(7:Int)
 ·simp only[e7,decide_true,cond_true,Int.reduceEq,decide_false,cond_false]
  rfl
 by_cases e8:p.1=(8:Int)
 ·simp only[e8,decide_true,cond_true,Int.reduceEq,decide_false,cond_false]
  rfl
 simp only[e1,e2,e3,e4,e5,e6,e7,e8,decide_false,cond_false,Ek e3 e4 e5 e6 e7 e8]
theorem F.qw (k:Int) (kind:Int)  : F.mz k kind=some (!decide (k=kind)):=by
 rfl
theorem F.vT (n:Int) (t:ag.D) (h_t:Sm ag t):F.ou n t=some (!M.inR n 0 (t.1.length-1)):=by
 unfold F.ou
 rw[mq _ h_t.1.1]
theorem F.mW (xs:(List Int)) (k0:ag.D) (h_xs:Sm (Ty.sl (Ty.int .i64)) xs) (h_k0:Sm ag k0):F.jh xs k0=some (M.idx (t:=(Ty.int .i64)) (fun e=>!M.inR e 0 (k0.1.length-1)) xs):=by
 exact cZ (t:=(Ty.int .i64)) (p:=(fun e=>!M.inR e 0 (k0.1.length-1))) (fun i h0 h1=>by simp only[F.dc,bp])
theorem F.jM (xs:(List Int)) (k0:Int) (h_xs:Sm (Ty.sl (Ty.int .i64)) xs):F.gm xs k0=some (M.idx (t:=(Ty.int .i64)) (fun e=>!decide (e=k0)) xs):=by
 exact cZ (t:=(Ty.int .i64)) (p:=(fun e=>!decide (e=k0))) (fun i h0 h1=>by simp only[F.cA,bp])
theorem F.kM (xs:(List Int)) (k0:ag.D) (h_xs:Sm (Ty.sl (Ty.int .i64)) xs) (h_k0:Sm ag k0):F.eF xs k0=some (List.any xs (fun e=>!M.inR e 0 (k0.1.length-1))):=by
 unfold F.eF
 exact cE (t:=(Ty.int .i64))
theorem F.iU (xs:(List Int)) (k0:Int) (h_xs:Sm (Ty.sl (Ty.int .i64)) xs):F.dr xs k0=some (List.any xs (fun e=>!decide (e=k0))):=by
 unfold F.dr
 exact cE (t:=(Ty.int .i64))
theorem F.su (kind:Int) (ins:(List Int)) (h_ins:Sm (Ty.sl (Ty.int .i64)) ins):F.jY kind ins=some (List.all ins (fun k=>decide (k=kind))):=by
 unfold F.jY
 rw[List.all_eq_not_any_not]
theorem F.uC (p:aE.D) (columns:LC) (inp:(List Int)) (h_p:Sm aE p) (h_columns:Sm (Ty.sl ay) columns) (h_inp:Sm (Ty.sl (Ty.int .i64)) inp) (p0:M.lK p columns=true) (p1:(inp.length:Int)=M.takes p):F.mT p columns inp=some (M.cP p columns inp):=by
 unfold F.mT M.cP
 obtain⟨_,hc⟩:=yD p0
 by_cases e1:p.1=(1:Int)
 ·simp only[e1,decide_true,cond_true]
 by_cases e2:p.1=(2:Int)
 ·obtain⟨c0,c1⟩:=hc e2
  simp only[e2,decide_true,cond_true,Int.reduceEq,decide_false,cond_false]
  rw[aj c0,aj c1]
 by_cases e4:p.1=(4:Int)
 ·rw[fQ (.inr (.inl e4))] at p1
  simp only[e4,decide_true,cond_true,Int.reduceEq,decide_false,cond_false]
  repeat rw[aj (by omega)]
 cases decide (p.1=(3:Int))<;>cases decide (p.1=(8:Int))<;>simp[e1,e2,e4]
theorem F.vI (columns:LC) (e:LPt) (h_columns:Sm (Ty.sl ay) columns) (h_e:Sm (Ty.sl aE) e):F.nU columns e=some (M.dF columns e):=by
 unfold F.nU M.dF
 cases M.bH columns
 ·rfl
 by_cases hl:e.length<=12
 ·rw[decide_eq_false (show ¬(12:Int)<(e.length:Int) by omega),decide_eq_true hl]
  rw[sI e [] (by simp;omega)]
  cases M.jk columns e [] with
  | none=>rfl
  | some s=>
   match s with
   | []=>rfl
   | [a]=>exact aj (by simp)
   | a::b::l=>
    have:¬((a::b::l).length:Int)=1:=by simp;omega
    simp only[this,decide_false]
    rfl
 ·rw[decide_eq_true (show (12:Int)<(e.length:Int) by omega),decide_eq_false hl]
  rfl
theorem F.yG (t:ag.D) (list:(List Int)) (h_t:Sm ag t) (h_list:Sm (Ty.sl (Ty.int .i64)) list):F.rD t list=some (M.ck t.1 list):=by
 unfold F.rD M.ck
 rw[fI,List.all_eq_not_any_not]
theorem F.yc (tables:LTb) (b:ai.D) (h_tables:Sm (Ty.sl ag) tables) (h_b:Sm ai b):F.qF tables b=some (M.aS tables b):=by
 unfold F.qF M.aS
 rw[mq _ h_tables.1]
 cases hin:M.inR b.2.1 0 ((tables.length:Int)-1)
 ·rfl
 simp only[fI]
 simp only[Cv,zL,GD,EG]
 by_cases e1:b.1=(1:Int)
 ·simp only[e1,decide_true,cond_true,Bool.not_true,Bool.true_and,show ((false:Bool)==false)=true from rfl,cond_false]
  cases decide (b.2.2.2.1=(0:Int))<;>cases decide (b.2.2.2.2.1.length=0)<;>cases M.ck (nth (t:=ag) tables b.2.1).1 b.2.2.1<;>cases b.2.2.2.2.2.1<;>cases decide (b.2.2.2.2.2.2.1.length=0)<;>rfl
 by_cases e3:b.1=(3:Int)
 ·simp only[e3,decide_true,decide_false,cond_true,cond_false,Int.reduceEq,Bool.not_true,Bool.true_and,show ((false:Bool)==false)=true from rfl]
  cases decide (b.2.2.2.1=(0:Int))<;>cases decide (b.2.2.2.2.1.length=0)<;>cases decide (M.dF (nth (t:=ag) tables b.2.1).1 b.2.2.2.2.2.2.1=3)<;>cases b.2.2.2.2.2.1<;>cases decide (b.2.2.1.length=0)<;>rfl
 by_cases e2:b.1=(2:Int)
 ·have hc:∀(x y:Bool) (z:Option Bool),cond (x==true) (cond (y==true) z z) z=z:=fun x y z=>by cases x<;>cases y<;>rfl
  simp only[e2,decide_true,decide_false,cond_true,cond_false,Int.reduceEq,Bool.not_true,Bool.true_and,show ((false:Bool)==false)=true from rfl]
  rw[hc]
  cases hof:M.inR b.2.2.2.1 0 ((tables.length:Int)-1)
  ·rfl
  cases hl1:M.ck (nth (t:=ag) tables b.2.1).1 b.2.2.1
  ·simp
  cases hl2:M.ck (nth (t:=ag) tables b.2.2.2.1).1 b.2.2.2.2.1
  ·simp
  by_cases hle:b.2.2.1.length=b.2.2.2.2.1.length
  ·cases he:decide (b.2.2.2.2.2.2.1.length=0)
   ·simp[hle]
   simp only[hle,decide_true,Bool.not_true,Bool.not_false,Bool.true_and,cond_true,cond_false]
   rw[<-hle]
   rw[fE (fun i=>decide ((nth (t:=ay) (nth (t:=ag) tables b.2.1).1 (nth (t:=.int .i64) b.2.2.1 i)).1=(nth (t:=ay) (nth (t:=ag) tables b.2.2.2.1).1 (nth (t:=.int .i64) b.2.2.2.2.1 i)).1)) () (fun i hi=>by
    obtain⟨i0,i1⟩:=dm.1 hi
    have a1:=oT hl1 (Bj (t:=.int .i64) hi)
    have i2:i<(b.2.2.2.2.1.length:Int):=by omega
    have a2:=oT hl2 (cK (t:=.int .i64) i0 i2)
    have a3:=vo hof
    simp only[F.fC]
    rw[aj a1.1,aj a1.2,aj a3.1,aj (Int.lt_of_le_sub_one a3.2),aj i2,aj a2.1,aj a2.2]
    rw[gp,bp])]
   simp only[Bool.not_true,Bool.true_and,show ((false:Bool)==false)=true from rfl,cond_true,cond_false]
   cases (aR 0 (b.2.2.1.length:Int)).all fun i=>decide ((nth (t:=ay) (nth (t:=ag) tables b.2.1).1 (nth (t:=.int .i64) b.2.2.1 i)).1=(nth (t:=ay) (nth (t:=ag) tables b.2.2.2.1).1 (nth (t:=.int .i64) b.2.2.2.2.1 i)).1)<;>rfl
  ·simp[hle,Ne.symm hle]
 ·have hc:∀(x y:Bool) (z:Option Bool),cond (x==true) (cond (y==true) z z) z=z:=fun x y z=>by cases x<;>cases y<;>rfl
  simp only[e1,e2,e3,decide_false,cond_false]
  rw[hc]
  rfl
theorem F.uS (b:ai.D) (tables:LTb) (h_b:Sm ai b) (h_tables:Sm (Ty.sl ag) tables):F.qT b tables=some (!M.aS tables b):=by
 rfl
theorem F.oh (xs:(List ai.D)) (k0:LTb) (h_xs:Sm (Ty.sl ai) xs) (h_k0:Sm (Ty.sl ag) k0) (p0:∀e∈xs,(M.aG k0&&M.aS k0 e)=true):F.jO xs k0=some (M.idx (t:=ai) (fun e=>decide (0<=M.broken k0 e)) xs):=by
 exact cZ (t:=ai) (p:=(fun e=>decide (0<=M.broken k0 e))) (fun i h0 h1=>by simp only[F.dN,aj (p0 (nth (t:=ai) xs i) (cK (t:=ai) h0 h1)),bp])
theorem F.lQ (xs:(List ai.D)) (k0:LTb) (h_xs:Sm (Ty.sl ai) xs) (h_k0:Sm (Ty.sl ag) k0):F.iD xs k0=some (M.idx (t:=ai) (fun e=>!M.aS k0 e) xs):=by
 exact cZ (t:=ai) (p:=(fun e=>!M.aS k0 e)) (fun i h0 h1=>by simp only[F.cX,bp])
theorem F.lT (xs:(List ai.D)) (k0:LTb) (h_xs:Sm (Ty.sl ai) xs) (h_k0:Sm (Ty.sl ag) k0) (p0:∀e∈xs,(M.aG k0&&M.aS k0 e)=true):F.fk xs k0=some (List.any xs (fun e=>decide (0<=M.broken k0 e))):=by
 unfold F.fk
 exact cE (t:=ai)
theorem F.jU (xs:(List ai.D)) (k0:LTb) (h_xs:Sm (Ty.sl ai) xs) (h_k0:Sm (Ty.sl ag) k0):F.ew xs k0=some (List.any xs (fun e=>!M.aS k0 e)):=by
 unfold F.ew
 exact cE (t:=ai)
theorem F.BH (tables:LTb) (bonds:(List ai.D)) (h_tables:Sm (Ty.sl ag) tables) (h_bonds:Sm (Ty.sl ai) bonds) (p0:∀e∈bonds,(M.aG tables&&M.aS tables e)=true):F.Bc tables bonds=some (!List.any bonds (fun e=>decide (0<=M.broken tables e))):=by
 rfl
theorem F.xD (tables:LTb) (bonds:(List ai.D)) (h_tables:Sm (Ty.sl ag) tables) (h_bonds:Sm (Ty.sl ai) bonds):F.qe tables bonds=some (M.aG tables&&List.all bonds (M.aS tables)):=by
 unfold F.qe
 rw[fI,List.all_eq_not_any_not]
theorem F.uJ (tables:LTb) (bonds:(List ai.D)) (h_tables:Sm (Ty.sl ag) tables) (h_bonds:Sm (Ty.sl ai) bonds):F.mV tables bonds=some (M.bq tables bonds):=by
 unfold F.mV
 exact Bl tables bonds
theorem F.sW (tables:LTb) (bonds:(List ai.D)) (changes:(List ak.D)) (h_tables:Sm (Ty.sl ag) tables) (h_bonds:Sm (Ty.sl ai) bonds) (h_changes:Sm (Ty.sl ak) changes):F.ld tables bonds changes=some (M.bN tables bonds changes):=by
 unfold F.ld M.bN
 cases h1:M.aG tables with
 | false=>rfl
 | true=>
 cases h2:M.bq tables bonds with
 | false=>rfl
 | true=>
 by_cases h3:changes.length<=8
 case neg=>
  rw[decide_eq_true (show (8:Int)<(changes.length:Int) by omega),decide_eq_false h3]
  rfl
 rw[decide_eq_false (show ¬(8:Int)<(changes.length:Int) by omega),decide_eq_true h3]
 obtain⟨hl,hb⟩:=M.yI h2
 simp only[bS]
 obtain⟨e,_⟩:=oQ (f:=F.eL tables bonds changes) (M.cU bonds) (fun now=>Sm (.sl ag) now/\M.By now tables) (xs:=changes) ⟨h_tables,rfl,fun _ _=>rfl⟩ (fun c hc now hI=>by
  have sc:=h_changes.2 c hc
  refine⟨?_,M.xQ hI.1 sc,M.tN (M.AR c) hI.2⟩
  unfold F.eL M.cU
  rw[aj hI.1]
  simp only[bS]
  cases hk:M.aQ now c with
  | false=>rfl
  | true=>
   have sa:=M.zc hI.1 sc hk
   simp only[cond_true,Bool.true_and,show ((true:Bool)==true)=true from rfl]
   rw[aj sa]
   have ho:∀b∈bonds,M.aS (M.bg now c) b=true:=fun b hm=>by rw[M.Fv (M.tN (M.yJ hk) hI.2)];exact(hb b hm).2.1
   rw[aj (fun b hm=>by rw[M.ye hk,ho b hm];rfl),M.HK hl (M.ye hk) ho]
   cases List.any bonds (fun e=>decide (0<=M.broken (M.bg now c) e))<;>rfl)
 rw[show ((!true:Bool)==false)=true from rfl]
 simp only[cond_true,cond_false]
 rw[e]
 rfl
theorem F.tP (b:(List Int)) (p:Int) (n:Int) (h_b:Sm (Ty.sl (Ty.int .u8)) b) (p0:M.aq b) (p1:0<=p) (p2:p<=1000000000000000):ok (F.oB b p n) (fun r=>0<=r.1/\(1<=n->r.1<n)/\(n<1->r.1=0)/\r.2=p+1):=by
 unfold F.oB
 have hw:wrap64 (p+1)=p+1:=aO (by omega) (by omega)
 have hw2:wrap64 (p+1-1)=p:=by rw[show p+1-1=p by omega];exact aO (by omega) (by omega)
 simp only[hw,hw2]
 refine Jv (fun c0=>?_) (fun c0=>?_)
 ·refine okD (fun c1=>?_) (fun c1=>?_)
  ·exact okS ⟨by dsimp only;omega,fun h=>by dsimp only;omega,fun h=>rfl,rfl⟩
  ·have hl:1<=(b.length:Int):=by omega
   refine okD (fun c2=>?_) (fun c2=>?_)
   ·refine okG (okG (okG (okS ?_)))
    have:=M.EY (M.vU p0 p) (n:=n) (by omega)
    exact⟨this.1,fun _=>this.2,fun h=>by omega,rfl⟩
   ·obtain⟨t0,t1⟩:=M.ql p1 hl
    have h7:wrap64 (wrap64 (p * 7)+3)=p * 7+3:=by rw[aO (n:=p * 7) (by omega) (by omega),aO (by omega) (by omega)]
    obtain⟨t2,t3⟩:=M.ql (a:=p * 7+3) (by omega) hl
    rw[h7]
    refine okG (okG (okG (okG (okG (okG (okS ?_))))))
    have:=M.Gs (M.vU p0 (p.tmod (b.length:Int))) (M.vU p0 ((p * 7+3).tmod (b.length:Int))) p1 p2 (M.Ee p1 hl) (n:=n) (by omega)
    exact⟨this.1,fun _=>this.2,fun h=>by omega,rfl⟩
 ·exact okS ⟨by dsimp only;omega,fun h=>by omega,fun h=>rfl,rfl⟩
theorem F.BF (b:(List Int)) (p:Int) (n:Int) (h_b:Sm (Ty.sl (Ty.int .u8)) b) (p0:M.aq b) (p1:0<=p) (p2:p<=1000000000000000):F.oB b p n=some (M.pick b p n):=fY (F.tP b p n h_b p0 p1 p2)
theorem M.FC (b:(List Int)) (p:Int) (n:Int) (h_b:Sm (Ty.sl (Ty.int .u8)) b) (p0:M.aq b) (p1:0<=p) (p2:p<=1000000000000000):0<=(M.pick b p n).1/\(1<=n->(M.pick b p n).1<n)/\(n<1->(M.pick b p n).1=0)/\(M.pick b p n).2=p+1:=fX (F.tP b p n h_b p0 p1 p2)
theorem az {α:Type} {K:α->Prop} {f:Int×Int->Option α} {b:(List Int)} {p:Int} {n:Int} (k:∀r,(0<=r.1)->(1<=n->r.1<n)->(n<1->r.1=0)->(r.2=p+1)->ok (f r) K) (h_b:Sm (Ty.sl (Ty.int .u8)) b:=by exact au) (p0:M.aq b:=by exact au) (p1:0<=p:=by exact au) (p2:p<=1000000000000000:=by exact au):ok (aL (M.pick b p n) f) K:=by
 have h:=M.FC b p n h_b p0 p1 p2
 obtain⟨h0,h1,h2,h3⟩:=h
 exact k _ h0 h1 h2 h3
theorem F.wL (b:(List Int)) (p:Int) (n:Int) (h_b:Sm (Ty.sl (Ty.int .u8)) b) (p0:M.aq b) (p1:0<=p) (p2:p<=999000000000000):ok (F.qM b p n) (fun r=>(n<1->r.1=false)/\p<=r.2/\r.2<=p+1):=by
  unfold F.qM
  refine FR (fun c_0=>?_) (fun c_0=>?_)
  ·refine okG ?_
   refine az fun r1 h_1_5_0 h_1_5_1 h_1_5_2 h_1_5_3=>?_
   exact nQ
  ·exact nQ
theorem F.CD (b:(List Int)) (p:Int) (n:Int) (h_b:Sm (Ty.sl (Ty.int .u8)) b) (p0:M.aq b) (p1:0<=p) (p2:p<=999000000000000):F.qM b p n=some (M.odd b p n):=fY (F.wL b p n h_b p0 p1 p2)
theorem M.GK (b:(List Int)) (p:Int) (n:Int) (h_b:Sm (Ty.sl (Ty.int .u8)) b) (p0:M.aq b) (p1:0<=p) (p2:p<=999000000000000):(n<1->(M.odd b p n).1=false)/\p<=(M.odd b p n).2/\(M.odd b p n).2<=p+1:=fX (F.wL b p n h_b p0 p1 p2)
theorem cI {α:Type} {K:α->Prop} {f:Bool×Int->Option α} {b:(List Int)} {p:Int} {n:Int} (k:∀r,(n<1->r.1=false)->(p<=r.2)->(r.2<=p+1)->ok (f r) K) (h_b:Sm (Ty.sl (Ty.int .u8)) b:=by exact au) (p0:M.aq b:=by exact au) (p1:0<=p:=by exact au) (p2:p<=999000000000000:=by exact au):ok (aL (M.odd b p n) f) K:=by
 have h:=M.GK b p n h_b p0 p1 p2
 obtain⟨h0,h1,h2⟩:=h
 exact k _ h0 h1 h2
theorem F.mB (b:(List Int)) (p:Int) (n:Int) (h_b:Sm (Ty.sl (Ty.int .u8)) b) (p0:M.aq b) (p1:0<=p) (p2:p<=998000000000000):ok (F.gb b p n) (fun r=>1<=r.1.length/\r.1.length<=6/\p<=r.2/\r.2<=p+20):=by
  unfold F.gb
  refine okG ?_
  refine az fun r1 h_2_1_0 h_2_1_1 h_2_1_2 h_2_1_3=>?_
  refine okB (A:=fun e0=>p<=e0.1/\e0.1<=p+10/\1<=e0.2.length/\e0.2.length<=3) ?_ (fun e0 h_e0=>?_)
  ·refine okW (fun(k:Nat) (v0:Int×Int×LC)=>0<=v0.1/\v0.1<=(k:Int)/\(v0.2.2.length:Int)+v0.1<=3/\1<=(v0.2.2.length:Int)+v0.1/\p<=v0.2.1/\v0.2.1+2 * v0.1<=p+10) (fun k v0 hI=>?_) (3:Nat) _ ⟨au,au,au,au,au,au⟩
   obtain⟨i_0,i_1,i_2,i_3,i_4,i_5⟩:=hI
   unfold F.fS
   refine okD (fun c_0=>?_) (fun c_0=>?_)
   ·refine okG ?_
    refine okG ?_
    refine okG ?_
    refine az fun r2 h_5_3_0 h_5_3_1 h_5_3_2 h_5_3_3=>?_
    refine okG ?_
    refine okG ?_
    refine okG ?_
    refine okG ?_
    refine az fun r3 h_5_7_0 h_5_7_1 h_5_7_2 h_5_7_3=>?_
    refine okG ?_
    exact gv ⟨k-1,by omega,au,au,au,au,au,au⟩
   ·exact fo ⟨au,au,au,au⟩
  ·obtain⟨e0_0,e0_1,e0_2,e0_3⟩:=h_e0
   refine okG ?_
   refine okG ?_
   refine cI fun r4 h_6_2_0 h_6_2_1 h_6_2_2=>?_
   refine okC (fun c_1=>?_) (fun c_1=>?_)
   ·refine okG ?_
    refine okG ?_
    refine az fun r5 h_7_2_0 h_7_2_1 h_7_2_2 h_7_2_3=>?_
    refine okG ?_
    exact gS
   ·exact gS
theorem F.sQ (b:(List Int)) (p:Int) (n:Int) (h_b:Sm (Ty.sl (Ty.int .u8)) b) (p0:M.aq b) (p1:0<=p) (p2:p<=998000000000000):F.gb b p n=some (M.fR b p n):=fY (F.mB b p n h_b p0 p1 p2)
theorem M.xw (b:(List Int)) (p:Int) (n:Int) (h_b:Sm (Ty.sl (Ty.int .u8)) b) (p0:M.aq b) (p1:0<=p) (p2:p<=998000000000000):1<=(M.fR b p n).1.length/\(M.fR b p n).1.length<=6/\p<=(M.fR b p n).2/\(M.fR b p n).2<=p+20:=fX (F.mB b p n h_b p0 p1 p2)
theorem so {α:Type} {K:α->Prop} {f:LC×Int->Option α} {b:(List Int)} {p:Int} {n:Int} (k:∀r,(1<=r.1.length)->(r.1.length<=6)->(p<=r.2)->(r.2<=p+20)->ok (f r) K) (h_b:Sm (Ty.sl (Ty.int .u8)) b:=by exact au) (p0:M.aq b:=by exact au) (p1:0<=p:=by exact au) (p2:p<=998000000000000:=by exact au):ok (aL (M.fR b p n) f) K:=by
 have h:=M.xw b p n h_b p0 p1 p2
 obtain⟨h0,h1,h2,h3⟩:=h
 exact k _ h0 h1 h2 h3
theorem F.qp (b:(List Int)) (p:Int) (c:ay.D) (h_b:Sm (Ty.sl (Ty.int .u8)) b) (p0:M.aq b) (p1:0<=p) (p2:p<=998000000000000):ok (F.jq b p c) (fun r=>r.1.2.2.1.size<=20/\p<=r.2/\r.2<=p+3):=by
  unfold F.jq
  refine okC (fun c_0=>?_) (fun c_0=>?_)
  ·refine okG ?_
   refine az fun r1 h_1_4_0 h_1_4_1 h_1_4_2 h_1_4_3=>?_
   refine okD (fun c_1=>?_) (fun c_1=>?_)
   ·exact nQ
   ·refine okD (fun c_2=>?_) (fun c_2=>?_)
    ·refine okG ?_
     refine okG ?_
     refine az fun r2 h_5_1_0 h_5_1_1 h_5_1_2 h_5_1_3=>?_
     exact nQ
    ·refine okD (fun c_3=>?_) (fun c_3=>?_)
     ·refine okG ?_
      refine okG ?_
      refine az fun r3 h_7_2_0 h_7_2_1 h_7_2_2 h_7_2_3=>?_
      refine okG ?_
      refine okG ?_
      exact nQ
     ·refine okG ?_
      refine okG ?_
      refine az fun r4 h_8_1_0 h_8_1_1 h_8_1_2 h_8_1_3=>?_
      exact nQ
  ·refine okD (fun c_4=>?_) (fun c_4=>?_)
   ·refine okG ?_
    refine az fun r2 h_5_1_0 h_5_1_1 h_5_1_2 h_5_1_3=>?_
    exact nQ
   ·refine okD (fun c_5=>?_) (fun c_5=>?_)
    ·refine okG ?_
     refine az fun r3 h_7_2_0 h_7_2_1 h_7_2_2 h_7_2_3=>?_
     refine okG ?_
     refine okG ?_
     exact nQ
    ·refine okG ?_
     refine az fun r4 h_8_1_0 h_8_1_1 h_8_1_2 h_8_1_3=>?_
     exact nQ
theorem F.wY (b:(List Int)) (p:Int) (c:ay.D) (h_b:Sm (Ty.sl (Ty.int .u8)) b) (p0:M.aq b) (p1:0<=p) (p2:p<=998000000000000):F.jq b p c=some (M.kE b p c):=fY (F.qp b p c h_b p0 p1 p2)
theorem M.BS (b:(List Int)) (p:Int) (c:ay.D) (h_b:Sm (Ty.sl (Ty.int .u8)) b) (p0:M.aq b) (p1:0<=p) (p2:p<=998000000000000):(M.kE b p c).1.2.2.1.size<=20/\p<=(M.kE b p c).2/\(M.kE b p c).2<=p+3:=fX (F.qp b p c h_b p0 p1 p2)
theorem oS {α:Type} {K:α->Prop} {f:aa.D×Int->Option α} {b:(List Int)} {p:Int} {c:ay.D} (k:∀r,(r.1.2.2.1.size<=20)->(p<=r.2)->(r.2<=p+3)->ok (f r) K) (h_b:Sm (Ty.sl (Ty.int .u8)) b:=by exact au) (p0:M.aq b:=by exact au) (p1:0<=p:=by exact au) (p2:p<=998000000000000:=by exact au):ok (aL (M.kE b p c) f) K:=by
 have h:=M.BS b p c h_b p0 p1 p2
 obtain⟨h0,h1,h2⟩:=h
 exact k _ h0 h1 h2
theorem F.oP (b:(List Int)) (p:Int) (n:Int) (h_b:Sm (Ty.sl (Ty.int .u8)) b) (p0:M.aq b) (p1:0<=p) (p2:p<=998000000000000):ok (F.iB b p n) (fun r=>r.1.2.2.1.size<=20/\p<=r.2/\r.2<=p+20):=by
  unfold F.iB
  refine okG ?_
  refine az fun r1 h_2_1_0 h_2_1_1 h_2_1_2 h_2_1_3=>?_
  refine okB (A:=fun e0=>p<=e0.1/\e0.1<=p+12/\e0.2.2.2.size<=3) ?_ (fun e0 h_e0=>?_)
  ·refine okW (fun(_:Nat) (_:Unit)=>True) (fun _ v0 _=>?_) 0 _ trivial
   unfold F.ia
   refine okD (fun c_1=>?_) (fun c_1=>?_)
   ·exact fo ⟨au,au,au⟩
   ·refine okD (fun c_2=>?_) (fun c_2=>?_)
    ·refine okG ?_
     refine okG ?_
     refine okG ?_
     refine az fun r2 h_8_1_0 h_8_1_1 h_8_1_2 h_8_1_3=>?_
     refine okG ?_
     refine okG ?_
     refine az fun r3 h_9_1_0 h_9_1_1 h_9_1_2 h_9_1_3=>?_
     refine okD (fun c_3=>?_) (fun c_3=>?_)
     ·refine okG ?_
      refine okG ?_
      refine az fun r4 h_10_2_0 h_10_2_1 h_10_2_2 h_10_2_3=>?_
      refine okG ?_
      refine okG ?_
      exact fo ⟨au,au,au⟩
     ·exact fo ⟨au,au,au⟩
    ·refine okD (fun c_4=>?_) (fun c_4=>?_)
     ·refine okG ?_
      refine okG ?_
      refine okG ?_
      refine az fun r2 h_8_1_0 h_8_1_1 h_8_1_2 h_8_1_3=>?_
      refine okG ?_
      refine okG ?_
      refine az fun r3 h_9_1_0 h_9_1_1 h_9_1_2 h_9_1_3=>?_
      refine okD (fun c_5=>?_) (fun c_5=>?_)
      ·refine okG ?_
       refine okG ?_
       refine az fun r4 h_10_2_0 h_10_2_1 h_10_2_2 h_10_2_3=>?_
       refine okG ?_
       refine okG ?_
       exact fo ⟨au,au,au⟩
      ·exact fo ⟨au,au,au⟩
     ·refine okD (fun c_6=>?_) (fun c_6=>?_)
      ·refine okG ?_
       refine okG ?_
       refine okG ?_
       refine az fun r2 h_8_1_0 h_8_1_1 h_8_1_2 h_8_1_3=>?_
       refine okG ?_
       refine okG ?_
       refine az fun r3 h_9_1_0 h_9_1_1 h_9_1_2 h_9_1_3=>?_
       refine okD (fun c_7=>?_) (fun c_7=>?_)
       ·refine okG ?_
        refine okG ?_
        refine az fun r4 h_10_2_0 h_10_2_1 h_10_2_2 h_10_2_3=>?_
        refine okG ?_
        refine okG ?_
        exact fo ⟨au,au,au⟩
       ·exact fo ⟨au,au,au⟩
      ·refine okD (fun c_8=>?_) (fun c_8=>?_)
       ·refine okG ?_
        refine okG ?_
        refine okG ?_
        refine az fun r5 h_14_1_0 h_14_1_1 h_14_1_2 h_14_1_3=>?_
        refine okB (A:=fun e1=>p<=e1.1/\e1.1<=p+8/\e1.2.size<=3) ?_ (fun e1 h_e1=>?_)
        ·refine okW (fun(k:Nat) (v1:Int×Int×ByteArray)=>0<=v1.1/\v1.1<=(k:Int)/\(v1.2.2.size:Int)+v1.1<=3/\p<=v1.2.1/\v1.2.1+v1.1<=p+8) (fun k v1 hI=>?_) (3:Nat) _ ⟨au,au,au,au,au⟩
         obtain⟨i_0,i_1,i_2,i_3,i_4⟩:=hI
         unfold F.eC
         refine okD (fun c_0=>?_) (fun c_0=>?_)
         ·refine okG ?_
          refine okG ?_
          refine okG ?_
          refine az fun r6 h_17_3_0 h_17_3_1 h_17_3_2 h_17_3_3=>?_
          refine okG ?_
          exact gv ⟨k-1,by omega,au,au,au,au,au⟩
         ·exact fo ⟨au,au,au⟩
        ·obtain⟨e1_0,e1_1,e1_2⟩:=h_e1
         exact fo ⟨au,au,au⟩
       ·refine okD (fun c_9=>?_) (fun c_9=>?_)
        ·refine okG ?_
         refine okG ?_
         refine okG ?_
         refine az fun r5 h_14_1_0 h_14_1_1 h_14_1_2 h_14_1_3=>?_
         refine okB (A:=fun e1=>p<=e1.1/\e1.1<=p+8/\e1.2.size<=3) ?_ (fun e1 h_e1=>?_)
         ·refine okW (fun(k:Nat) (v1:Int×Int×ByteArray)=>0<=v1.1/\v1.1<=(k:Int)/\(v1.2.2.size:Int)+v1.1<=3/\p<=v1.2.1/\v1.2.1+v1.1<=p+8) (fun k v1 hI=>?_) (3:Nat) _ ⟨au,au,au,au,au⟩
          obtain⟨i_0,i_1,i_2,i_3,i_4⟩:=hI
          unfold F.eC
          refine okD (fun c_0=>?_) (fun c_0=>?_)
          ·refine okG ?_
           refine okG ?_
           refine okG ?_
           refine az fun r6 h_17_3_0 h_17_3_1 h_17_3_2 h_17_3_3=>?_
           refine okG ?_
           exact gv ⟨k-1,by omega,au,au,au,au,au⟩
          ·exact fo ⟨au,au,au⟩
         ·obtain⟨e1_0,e1_1,e1_2⟩:=h_e1
          exact fo ⟨au,au,au⟩
        ·refine okG ?_
         refine okG ?_
         refine okG ?_
         refine az fun r7 h_3_1_0 h_3_1_1 h_3_1_2 h_3_1_3=>?_
         exact fo ⟨au,au,au⟩
  ·obtain⟨e0_0,e0_1,e0_2⟩:=h_e0
   refine okG ?_
   refine okG ?_
   refine cI fun r8 h_18_2_0 h_18_2_1 h_18_2_2=>?_
   refine okC (fun c_10=>?_) (fun c_10=>?_)
   ·refine okG ?_
    refine okG ?_
    refine az fun r9 h_19_1_0 h_19_1_1 h_19_1_2 h_19_1_3=>?_
    refine okD (fun c_11=>?_) (fun c_11=>?_)
    ·exact nQ
    ·refine okD (fun c_12=>?_) (fun c_12=>?_)
     ·refine okG ?_
      exact nQ
     ·refine okD (fun c_13=>?_) (fun c_13=>?_)
      ·refine okG ?_
       refine okG ?_
       refine az fun r10 h_26_1_0 h_26_1_1 h_26_1_2 h_26_1_3=>?_
       exact nQ
      ·refine okG ?_
       exact nQ
   ·exact nQ
theorem F.vP (b:(List Int)) (p:Int) (n:Int) (h_b:Sm (Ty.sl (Ty.int .u8)) b) (p0:M.aq b) (p1:0<=p) (p2:p<=998000000000000):F.iB b p n=some (M.eU b p n):=fY (F.oP b p n h_b p0 p1 p2)
theorem M.Au (b:(List Int)) (p:Int) (n:Int) (h_b:Sm (Ty.sl (Ty.int .u8)) b) (p0:M.aq b) (p1:0<=p) (p2:p<=998000000000000):(M.eU b p n).1.2.2.1.size<=20/\p<=(M.eU b p n).2/\(M.eU b p n).2<=p+20:=fX (F.oP b p n h_b p0 p1 p2)
theorem gD {α:Type} {K:α->Prop} {f:aa.D×Int->Option α} {b:(List Int)} {p:Int} {n:Int} (k:∀r,(r.1.2.2.1.size<=20)->(p<=r.2)->(r.2<=p+20)->ok (f r) K) (h_b:Sm (Ty.sl (Ty.int .u8)) b:=by exact au) (p0:M.aq b:=by exact au) (p1:0<=p:=by exact au) (p2:p<=998000000000000:=by exact au):ok (aL (M.eU b p n) f) K:=by
 have h:=M.Au b p n h_b p0 p1 p2
 obtain⟨h0,h1,h2⟩:=h
 exact k _ h0 h1 h2
theorem F.rC (b:(List Int)) (p:Int) (columns:LC) (n:Int) (h_b:Sm (Ty.sl (Ty.int .u8)) b) (h_columns:Sm (Ty.sl ay) columns) (p0:M.aq b) (p1:0<=p) (p2:p<=997000000000000):ok (F.kL b p columns n) (fun r=>r.1.length<=columns.length+3/\(∀v∈r.1,v.2.2.1.size<=20)/\p<=r.2/\r.2<=p+3 * columns.length+70/\(n<1->r.1.length=columns.length)):=by
  unfold F.kL
  have hl:=h_columns.1
  refine okT (A:=fun v0=>p<=v0.1/\v0.1<=p+3 * (columns.length:Int)/\v0.2.length=columns.length/\(∀v∈v0.2,v.2.2.1.size<=20)) (B:=fun _=>False) ?_ (fun v0 h_v0=>?_) (fun _ h=>h.elim)
  ·refine JH (fun(k:Nat) (v0:Int×LV)=>p<=v0.1/\v0.1<=p+3 * (k:Int)/\v0.2.length=k/\(∀v∈v0.2,v.2.2.1.size<=20)) ⟨au,au,au,au⟩ (fun z0 hz k v0 hk hI=>?_)
   obtain⟨i_0,i_1,i_2,i_3⟩:=hI
   unfold F.jI
   refine okG ?_
   refine okG ?_
   refine okG ?_
   refine oS fun r1 h_5_6_0 h_5_6_1 h_5_6_2=>?_
   refine okG ?_
   exact gv ⟨au,au,au,au⟩
  ·obtain⟨v0_0,v0_1,v0_2,v0_3⟩:=h_v0
   refine okG ?_
   refine okG ?_
   refine cI fun r2 h_6_2_0 h_6_2_1 h_6_2_2=>?_
   refine okC (fun c_0=>?_) (fun c_0=>?_)
   ·have n_a:¬n<1:=fun q=>by rw[h_6_2_0 q] at c_0;cases c_0
    refine okG ?_
    refine okG ?_
    refine az fun r3 h_7_1_0 h_7_1_1 h_7_1_2 h_7_1_3=>?_
    refine okD (fun c_1=>?_) (fun c_1=>?_)
    ·refine okG ?_
     exact tT
    ·refine okD (fun c_2=>?_) (fun c_2=>?_)
     ·refine okD (fun c_3=>?_) (fun c_3=>?_)
      ·refine okG ?_
       refine okG ?_
       refine az fun r4 h_13_4_0 h_13_4_1 h_13_4_2 h_13_4_3=>?_
       refine okG ?_
       refine okG ?_
       refine gD fun r5 h_13_6_0 h_13_6_1 h_13_6_2=>?_
       refine okG ?_
       refine okG ?_
       exact tT
      ·exact tT
     ·refine okG ?_
      refine okG ?_
      refine gD fun r6 h_8_2_0 h_8_2_1 h_8_2_2=>?_
      refine okG ?_
      refine okG ?_
      refine gD fun r7 h_8_4_0 h_8_4_1 h_8_4_2=>?_
      refine okG ?_
      refine okG ?_
      refine gD fun r8 h_8_6_0 h_8_6_1 h_8_6_2=>?_
      refine okG ?_
      exact tT
   ·exact tT
theorem F.zu (b:(List Int)) (p:Int) (columns:LC) (n:Int) (h_b:Sm (Ty.sl (Ty.int .u8)) b) (h_columns:Sm (Ty.sl ay) columns) (p0:M.aq b) (p1:0<=p) (p2:p<=997000000000000):F.kL b p columns n=some (M.jl b p columns n):=fY (F.rC b p columns n h_b h_columns p0 p1 p2)
theorem M.Da (b:(List Int)) (p:Int) (columns:LC) (n:Int) (h_b:Sm (Ty.sl (Ty.int .u8)) b) (h_columns:Sm (Ty.sl ay) columns) (p0:M.aq b) (p1:0<=p) (p2:p<=997000000000000):(M.jl b p columns n).1.length<=columns.length+3/\(∀v∈(M.jl b p columns n).1,v.2.2.1.size<=20)/\p<=(M.jl b p columns n).2/\(M.jl b p columns n).2<=p+3 * columns.length+70/\(n<1->(M.jl b p columns n).1.length=columns.length):=fX (F.rC b p columns n h_b h_columns p0 p1 p2)
theorem lF {α:Type} {K:α->Prop} {f:LV×Int->Option α} {b:(List Int)} {p:Int} {columns:LC} {n:Int} (k:∀r,(r.1.length<=columns.length+3)->(∀v∈r.1,v.2.2.1.size<=20)->(p<=r.2)->(r.2<=p+3 * columns.length+70)->(n<1->r.1.length=columns.length)->ok (f r) K) (h_b:Sm (Ty.sl (Ty.int .u8)) b:=by exact au) (h_columns:Sm (Ty.sl ay) columns:=by exact au) (p0:M.aq b:=by exact au) (p1:0<=p:=by exact au) (p2:p<=997000000000000:=by exact au):ok (aL (M.jl b p columns n) f) K:=by
 have h:=M.Da b p columns n h_b h_columns p0 p1 p2
 obtain⟨h0,h1,h2,h3,h4⟩:=h
 exact k _ h0 h1 h2 h3 h4
theorem F.qZ (b:(List Int)) (p:Int) (c:LC) (n:Int) (h_b:Sm (Ty.sl (Ty.int .u8)) b) (h_c:Sm (Ty.sl ay) c) (p0:M.aq b) (p1:0<=p) (p2:p<=996000000000000) (p3:c.length<=6) (p4:n=0):ok (F.kQ b p c n) (fun r=>r.1.length<=6/\(∀w∈r.1,M.uz w)/\p<=r.2/\r.2<=p+1000/\(∀w∈r.1,w.length=c.length)):=by
  unfold F.kQ
  have hl:=p3
  refine okG ?_
  refine az fun r1 h_2_1_0 h_2_1_1 h_2_1_2 h_2_1_3=>?_
  refine okB (A:=fun e0=>p<=e0.1/\e0.1<=p+700/\e0.2.length<=6/\(∀w∈e0.2,M.uz w)/\(∀w∈e0.2,w.length=c.length)) ?_ (fun e0 h_e0=>?_)
  ·refine okW (fun(k:Nat) (v0:Int×Int×LLV)=>0<=v0.1/\v0.1<=(k:Int)/\(v0.2.2.length:Int)+v0.1<=6/\(∀w∈v0.2.2,M.uz w)/\p<=v0.2.1/\v0.2.1+100 * v0.1<=p+700/\(∀w∈v0.2.2,w.length=c.length)) (fun k v0 hI=>?_) (6:Nat) _ ⟨au,au,au,au,au,au,au⟩
   obtain⟨i_0,i_1,i_2,i_3,i_4,i_5,i_6⟩:=hI
   unfold F.jv
   refine okD (fun c_0=>?_) (fun c_0=>?_)
   ·refine FR (fun c_1=>?_) (fun c_1=>?_)
    ·refine okG ?_
     refine okG ?_
     refine okG ?_
     refine az fun r2 h_5_5_0 h_5_5_1 h_5_5_2 h_5_5_3=>?_
     refine okD (fun c_2=>?_) (fun c_2=>?_)
     ·refine okG ?_
      refine okG ?_
      refine az fun r3 h_6_5_0 h_6_5_1 h_6_5_2 h_6_5_3=>?_
      refine okG ?_
      refine okG ?_
      refine okG ?_
      refine okL fun r4 er4=>?_
      have w_a:M.uz r4:=er4▸M.yS i_3 _
      have w_b:r4.length=c.length:=by rw[er4];exact i_6 _ (cK (t:=.sl aa) h_6_5_0 (h_6_5_1 (by omega)))
      refine okG ?_
      exact gv ⟨k-1,by omega,au,au,au,au,au,au,au⟩
     ·refine okG ?_
      refine okG ?_
      refine lF fun r5 h_7_4_0 h_7_4_1 h_7_4_2 h_7_4_3 h_7_4_4=>?_
      have w_c:r5.1.length=c.length:=h_7_4_4 (by omega)
      refine okG ?_
      exact gv ⟨k-1,by omega,au,au,au,au,au,au,au⟩
    ·refine okG ?_
     refine okG ?_
     refine okG ?_
     refine lF fun r5 h_7_4_0 h_7_4_1 h_7_4_2 h_7_4_3 h_7_4_4=>?_
     have w_c:r5.1.length=c.length:=h_7_4_4 (by omega)
     refine okG ?_
     exact gv ⟨k-1,by omega,au,au,au,au,au,au,au⟩
   ·exact fo ⟨au,au,au,au,au⟩
  ·obtain⟨e0_0,e0_1,e0_2,e0_3,e0_4⟩:=h_e0
   exact tT
theorem F.zg (b:(List Int)) (p:Int) (c:LC) (n:Int) (h_b:Sm (Ty.sl (Ty.int .u8)) b) (h_c:Sm (Ty.sl ay) c) (p0:M.aq b) (p1:0<=p) (p2:p<=996000000000000) (p3:c.length<=6) (p4:n=0):F.kQ b p c n=some (M.nR b p c n):=fY (F.qZ b p c n h_b h_c p0 p1 p2 p3 p4)
theorem M.CG (b:(List Int)) (p:Int) (c:LC) (n:Int) (h_b:Sm (Ty.sl (Ty.int .u8)) b) (h_c:Sm (Ty.sl ay) c) (p0:M.aq b) (p1:0<=p) (p2:p<=996000000000000) (p3:c.length<=6) (p4:n=0):(M.nR b p c n).1.length<=6/\(∀w∈(M.nR b p c n).1,M.uz w)/\p<=(M.nR b p c n).2/\(M.nR b p c n).2<=p+1000/\(∀w∈(M.nR b p c n).1,w.length=c.length):=fX (F.qZ b p c n h_b h_c p0 p1 p2 p3 p4)
theorem wX {α:Type} {K:α->Prop} {f:LLV×Int->Option α} {b:(List Int)} {p:Int} {c:LC} {n:Int} (k:∀r,(r.1.length<=6)->(∀w∈r.1,M.uz w)->(p<=r.2)->(r.2<=p+1000)->(∀w∈r.1,w.length=c.length)->ok (f r) K) (h_b:Sm (Ty.sl (Ty.int .u8)) b:=by exact au) (h_c:Sm (Ty.sl ay) c:=by exact au) (p0:M.aq b:=by exact au) (p1:0<=p:=by exact au) (p2:p<=996000000000000:=by exact au) (p3:c.length<=6:=by exact au) (p4:n=0:=by exact au):ok (aL (M.nR b p c n) f) K:=by
 have h:=M.CG b p c n h_b h_c p0 p1 p2 p3 p4
 obtain⟨h0,h1,h2,h3,h4⟩:=h
 exact k _ h0 h1 h2 h3 h4
theorem F.nE (b:(List Int)) (p:Int) (n:Int) (h_b:Sm (Ty.sl (Ty.int .u8)) b) (p0:M.aq b) (p1:0<=p) (p2:p<=995000000000000):ok (F.gK b p n) (fun r=>r.1.length<=6/\1<=r.1.length/\(∀t∈r.1,M.ep t)/\p<=r.2/\r.2<=p+10000/\(n<1->r.1.length<=3)/\(n<1->(∀t∈r.1,M.fq t))/\(n<1->(∀t∈r.1,M.jj t))):=by
  unfold F.gK
  refine okG ?_
  refine az fun r1 h_2_1_0 h_2_1_1 h_2_1_2 h_2_1_3=>?_
  refine okB (A:=fun e0=>p<=e0.1/\e0.1<=p+6100/\e0.2.length<=3/\1<=e0.2.length/\(∀t∈e0.2,M.ep t)/\(∀t∈e0.2,M.fq t)/\(∀t∈e0.2,M.jj t)) ?_ (fun e0 h_e0=>?_)
  ·refine okW (fun(k:Nat) (v0:Int×Int×LTb)=>0<=v0.1/\v0.1<=(k:Int)/\(v0.2.2.length:Int)+v0.1<=3/\1<=(v0.2.2.length:Int)+v0.1/\(∀t∈v0.2.2,M.ep t)/\p<=v0.2.1/\v0.2.1+2000 * v0.1<=p+6100/\(∀t∈v0.2.2,M.fq t)/\(∀t∈v0.2.2,M.jj t)) (fun k v0 hI=>?_) (3:Nat) _ ⟨au,au,au,au,au,au,au,au,au⟩
   obtain⟨i_0,i_1,i_2,i_3,i_4,i_5,i_6,i_7,i_8⟩:=hI
   unfold F.gB
   refine okD (fun c_0=>?_) (fun c_0=>?_)
   ·refine okG ?_
    refine okG ?_
    refine okG ?_
    refine so fun r2 h_5_1_0 h_5_1_1 h_5_1_2 h_5_1_3=>?_
    refine okG ?_
    refine okG ?_
    refine az fun r3 h_6_2_0 h_6_2_1 h_6_2_2 h_6_2_3=>?_
    refine okG ?_
    refine okG ?_
    refine okG ?_
    refine okG ?_
    refine okG ?_
    refine okG ?_
    refine okG ?_
    refine okG ?_
    refine wX fun r4 h_7_3_0 h_7_3_1 h_7_3_2 h_7_3_3 h_7_3_4=>?_
    have q_a:=M.JD h_6_2_0 (h_6_2_1 (by decide)) (n:=(r2.1.length:Int)) (by omega)
    have q_b:(aD r2.1 (some ((0:Int),wrap64 ((1:Int)+(r3.1.tmod (r2.1.length:Int)))))).length<=2:=M.IY q_a
    have q_c:M.fq ((aD r2.1 (some ((0:Int),wrap64 ((1:Int)+(r3.1.tmod (r2.1.length:Int)))))),(r4.1,())):=⟨Nat.le_trans q_b (by decide),by omega,fun w hw=>by rw[h_7_3_4 w hw];omega⟩
    have q_d:M.jj ((aD r2.1 (some ((0:Int),wrap64 ((1:Int)+(r3.1.tmod (r2.1.length:Int)))))),(r4.1,())):=M.Ie (M.Jf h_6_2_0 (by omega) (by omega)).1 (by omega) (M.JI h_6_2_0 (by omega) (by omega))
    refine okG ?_
    exact gv ⟨k-1,by omega,au,au,au,au,au,au,au,au,au⟩
   ·exact fo ⟨au,au,au,au,au,au,au⟩
  ·obtain⟨e0_0,e0_1,e0_2,e0_3,e0_4,e0_5,e0_6⟩:=h_e0
   refine okG ?_
   refine okG ?_
   refine cI fun r5 h_9_2_0 h_9_2_1 h_9_2_2=>?_
   refine okC (fun c_1=>?_) (fun c_1=>?_)
   ·have n_a:¬n<1:=fun q=>by rw[h_9_2_0 q] at c_1;cases c_1
    obtain⟨t_1,t_2,_⟩:=M.zn e0_5 (0:Int)
    refine okG ?_
    refine okG ?_
    refine az fun r6 h_10_1_0 h_10_1_1 h_10_1_2 h_10_1_3=>?_
    refine okD (fun c_2=>?_) (fun c_2=>?_)
    ·refine okG ?_
     exact Il
    ·refine okD (fun c_3=>?_) (fun c_3=>?_)
     ·have t_a:=M.FI (i:=0) (k:=(0:Int).toNat) (w:=[[((9:Int),((0:Int),((⟨#[]⟩:ByteArray),())))]]) e0_4 e0_5 (by exact cl) (by decide)
      refine okG ?_
      refine okG ?_ (by simp only[List.length_cons,List.length_nil,List.length_append,lim];omega)
      refine okG ?_ (by rw[List.length_set];omega)
      refine okL fun y1 ey1=>?_
      subst ey1
      exact Il
     ·have t_a:=M.FO (i:=0) (k:=(0:Int).toNat) (w:=[((1:Int),(false,()))]) e0_4 e0_5 (by decide)
      refine okG ?_
      refine okG ?_ (by simp only[List.length_cons,List.length_nil,List.length_append,lim];omega)
      refine okG ?_ (by rw[List.length_set];omega)
      refine okL fun y2 ey2=>?_
      subst ey2
      exact Il
   ·have t_b:n<1->∀t∈e0.2,M.fq t:=fun _=>e0_5
    have t_c:n<1->∀t∈e0.2,M.jj t:=fun _=>e0_6
    exact Il
theorem F.uo (b:(List Int)) (p:Int) (n:Int) (h_b:Sm (Ty.sl (Ty.int .u8)) b) (p0:M.aq b) (p1:0<=p) (p2:p<=995000000000000):F.gK b p n=some (M.ez b p n):=fY (F.nE b p n h_b p0 p1 p2)
theorem M.yX (b:(List Int)) (p:Int) (n:Int) (h_b:Sm (Ty.sl (Ty.int .u8)) b) (p0:M.aq b) (p1:0<=p) (p2:p<=995000000000000):(M.ez b p n).1.length<=6/\1<=(M.ez b p n).1.length/\(∀t∈(M.ez b p n).1,M.ep t)/\p<=(M.ez b p n).2/\(M.ez b p n).2<=p+10000/\(n<1->(M.ez b p n).1.length<=3)/\(n<1->(∀t∈(M.ez b p n).1,M.fq t))/\(n<1->(∀t∈(M.ez b p n).1,M.jj t)):=fX (F.nE b p n h_b p0 p1 p2)
theorem tF {α:Type} {K:α->Prop} {f:LTb×Int->Option α} {b:(List Int)} {p:Int} {n:Int} (k:∀r,(r.1.length<=6)->(1<=r.1.length)->(∀t∈r.1,M.ep t)->(p<=r.2)->(r.2<=p+10000)->(n<1->r.1.length<=3)->(n<1->(∀t∈r.1,M.fq t))->(n<1->(∀t∈r.1,M.jj t))->ok (f r) K) (h_b:Sm (Ty.sl (Ty.int .u8)) b:=by exact au) (p0:M.aq b:=by exact au) (p1:0<=p:=by exact au) (p2:p<=995000000000000:=by exact au):ok (aL (M.ez b p n) f) K:=by
 have h:=M.yX b p n h_b p0 p1 p2
 obtain⟨h0,h1,h2,h3,h4,h5,h6,h7⟩:=h
 exact k _ h0 h1 h2 h3 h4 h5 h6 h7
theorem F.qt (b:(List Int)) (p:Int) (columns:LC) (kind:Int) (h_b:Sm (Ty.sl (Ty.int .u8)) b) (h_columns:Sm (Ty.sl ay) columns) (p0:M.aq b) (p1:0<=p) (p2:p<=997000000000000):ok (F.jt b p columns kind) (fun r=>r.1.2.2.1.2.2.1.size<=20/\p<=r.2/\r.2<=p+20):=by
  unfold F.jt
  have hl:=h_columns.1
  refine okT (A:=fun e0=>p<=e0/\e0<=p+8) (B:=fun q0=>p<=q0.1/\q0.1<=p+10) ?_ (fun e0 h_e0=>?_) (fun q0 h_q0=>?_)
  ·refine okW (fun(k:Nat) (v0:Int×Int)=>0<=v0.1/\v0.1<=4/\4<=v0.1+(k:Int)/\p<=v0.2/\v0.2<=p+2 * v0.1) (fun k v0 hI=>?_) (4:Nat) _ ⟨au,au,au,au,au⟩
   obtain⟨i_0,i_1,i_2,i_3,i_4⟩:=hI
   unfold F.iQ
   refine FR (fun c_0=>?_) (fun c_0=>?_)
   ·refine okD (fun c_1=>?_) (fun c_1=>?_)
    ·refine okG ?_
     refine okG ?_
     refine okG ?_
     refine az fun r1 h_4_3_0 h_4_3_1 h_4_3_2 h_4_3_3=>?_
     refine okG ?_
     refine okG ?_
     refine FR (fun c_2=>?_) (fun c_2=>?_)
     ·refine okG ?_
      refine okG ?_
      refine az fun r2 h_5_9_0 h_5_9_1 h_5_9_2 h_5_9_3=>?_
      refine okD (fun c_3=>?_) (fun c_3=>?_)
      ·exact IP ⟨au,au⟩
      ·exact gv ⟨k-1,by omega,au,au,au,au,au⟩
     ·exact gv ⟨k-1,by omega,au,au,au,au,au⟩
    ·exact GU ⟨au,au⟩
   ·exact GU ⟨au,au⟩
  ·obtain⟨e0_0,e0_1⟩:=h_e0
   refine okG ?_
   refine okG ?_
   refine oS fun r3 h_7_3_0 h_7_3_1 h_7_3_2=>?_
   exact nQ
  ·obtain⟨q0_0,q0_1⟩:=h_q0
   exact nQ
theorem F.xF (b:(List Int)) (p:Int) (columns:LC) (kind:Int) (h_b:Sm (Ty.sl (Ty.int .u8)) b) (h_columns:Sm (Ty.sl ay) columns) (p0:M.aq b) (p1:0<=p) (p2:p<=997000000000000):F.jt b p columns kind=some (M.dO b p columns kind):=fY (F.qt b p columns kind h_b h_columns p0 p1 p2)
theorem M.Bo (b:(List Int)) (p:Int) (columns:LC) (kind:Int) (h_b:Sm (Ty.sl (Ty.int .u8)) b) (h_columns:Sm (Ty.sl ay) columns) (p0:M.aq b) (p1:0<=p) (p2:p<=997000000000000):(M.dO b p columns kind).1.2.2.1.2.2.1.size<=20/\p<=(M.dO b p columns kind).2/\(M.dO b p columns kind).2<=p+20:=fX (F.qt b p columns kind h_b h_columns p0 p1 p2)
theorem fF {α:Type} {K:α->Prop} {f:aE.D×Int->Option α} {b:(List Int)} {p:Int} {columns:LC} {kind:Int} (k:∀r,(r.1.2.2.1.2.2.1.size<=20)->(p<=r.2)->(r.2<=p+20)->ok (f r) K) (h_b:Sm (Ty.sl (Ty.int .u8)) b:=by exact au) (h_columns:Sm (Ty.sl ay) columns:=by exact au) (p0:M.aq b:=by exact au) (p1:0<=p:=by exact au) (p2:p<=997000000000000:=by exact au):ok (aL (M.dO b p columns kind) f) K:=by
 have h:=M.Bo b p columns kind h_b h_columns p0 p1 p2
 obtain⟨h0,h1,h2⟩:=h
 exact k _ h0 h1 h2
theorem dn {α:Type} {K:α->Prop} {f:LPt×Int->Option α} {n_:Nat} (ih:∀(b:(List Int)),∀(p:Int),∀(columns:LC),∀(kind:Int),∀(deep:Int),(Sm (Ty.sl (Ty.int .u8)) b)->(Sm (Ty.sl ay) columns)->(M.aq b)->(0<=p)->(p+40 * (M.eB deep:Int)<=996000000000000)->(deep<=3)->(deep.toNat<n_)->1<=(M.bK n_ b p columns kind deep).1.length/\(M.bK n_ b p columns kind deep).1.length<=M.eB deep/\(∀v∈(M.bK n_ b p columns kind deep).1,v.2.2.1.2.2.1.size<=20)/\p<=(M.bK n_ b p columns kind deep).2/\(M.bK n_ b p columns kind deep).2<=p+40 * M.eB deep) {b:(List Int)} {p:Int} {columns:LC} {kind:Int} {deep:Int} (k:∀r,(1<=r.1.length)->(r.1.length<=M.eB deep)->(∀v∈r.1,v.2.2.1.2.2.1.size<=20)->(p<=r.2)->(r.2<=p+40 * M.eB deep)->ok (f r) K) (h_b:Sm (Ty.sl (Ty.int .u8)) b:=by exact au) (h_columns:Sm (Ty.sl ay) columns:=by exact au) (p0:M.aq b:=by exact au) (p1:0<=p:=by exact au) (p2:p+40 * (M.eB deep:Int)<=996000000000000:=by exact au) (p3:deep<=3:=by exact au) (p4:deep.toNat<n_:=by exact au):ok (aL (M.bK n_ b p columns kind deep) f) K:=by
 have h:=ih b p columns kind deep h_b h_columns p0 p1 p2 p3 p4
 obtain⟨h0,h1,h2,h3,h4⟩:=h
 exact k _ h0 h1 h2 h3 h4
theorem F.qu (n_:Nat) (ih:∀(b:(List Int)),∀(p:Int),∀(columns:LC),∀(kind:Int),∀(deep:Int),(Sm (Ty.sl (Ty.int .u8)) b)->(Sm (Ty.sl ay) columns)->(M.aq b)->(0<=p)->(p+40 * (M.eB deep:Int)<=996000000000000)->(deep<=3)->(deep.toNat<n_)->1<=(M.bK n_ b p columns kind deep).1.length/\(M.bK n_ b p columns kind deep).1.length<=M.eB deep/\(∀v∈(M.bK n_ b p columns kind deep).1,v.2.2.1.2.2.1.size<=20)/\p<=(M.bK n_ b p columns kind deep).2/\(M.bK n_ b p columns kind deep).2<=p+40 * M.eB deep) (b:(List Int)) (p:Int) (columns:LC) (kind:Int) (deep:Int) (h_b:Sm (Ty.sl (Ty.int .u8)) b) (h_columns:Sm (Ty.sl ay) columns) (p0:M.aq b) (p1:0<=p) (p2:p+40 * (M.eB deep:Int)<=996000000000000) (p3:deep<=3) (p4:deep.toNat<(n_+1)):ok (F.lZ n_ b p columns kind deep) (fun r=>1<=r.1.length/\r.1.length<=M.eB deep/\(∀v∈r.1,v.2.2.1.2.2.1.size<=20)/\p<=r.2/\r.2<=p+40 * M.eB deep):=by
  unfold F.lZ
  have hE0:=M.Gy (d:=deep)
  have hE1:=M.Gy (d:=wrap64 (deep-(1:Int)))
  have hE2:=M.Gy (d:=wrap64 (deep-(2:Int)))
  have hE3:=M.Jp (d:=deep) p3
  have hE4:=M.Jw (d:=deep) p3
  refine Jv (fun c_0=>?_) (fun c_0=>?_)
  ·refine okG ?_
   refine az fun r1 h_1_4_0 h_1_4_1 h_1_4_2 h_1_4_3=>?_
   refine okD (fun c_1=>?_) (fun c_1=>?_)
   ·refine okG ?_
    refine okG ?_
    refine fF fun r2 h_2_3_0 h_2_3_1 h_2_3_2=>?_
    exact tT
   ·refine okD (fun c_2=>?_) (fun c_2=>?_)
    ·refine okG ?_
     refine okG ?_
     refine okG ?_
     refine okG ?_
     refine dn ih fun r3 h_4_5_0 h_4_5_1 h_4_5_2 h_4_5_3 h_4_5_4=>?_
     refine okG ?_
     refine okG ?_
     refine fF fun r4 h_4_9_0 h_4_9_1 h_4_9_2=>?_
     refine okG ?_
     refine okG ?_
     exact tT
    ·refine okD (fun c_3=>?_) (fun c_3=>?_)
     ·refine okG ?_
      refine okG ?_
      refine fF fun r5 h_6_3_0 h_6_3_1 h_6_3_2=>?_
      exact tT
     ·refine okG ?_
      refine okG ?_
      refine az fun r6 h_7_1_0 h_7_1_1 h_7_1_2 h_7_1_3=>?_
      refine okD (fun c_4=>?_) (fun c_4=>?_)
      ·refine okG ?_
       refine okG ?_
       refine okG ?_
       refine okG ?_
       refine dn ih fun r7 h_9_4_0 h_9_4_1 h_9_4_2 h_9_4_3 h_9_4_4=>?_
       refine okG ?_
       refine okG ?_
       refine okG ?_
       refine okG ?_
       refine dn ih fun r8 h_9_9_0 h_9_9_1 h_9_9_2 h_9_9_3 h_9_9_4=>?_
       refine okG ?_
       refine okG ?_
       refine okG ?_
       refine az fun r9 h_9_12_0 h_9_12_1 h_9_12_2 h_9_12_3=>?_
       refine okG ?_
       exact tT
      ·refine okD (fun c_5=>?_) (fun c_5=>?_)
       ·refine okG ?_
        refine okG ?_
        refine okG ?_
        refine okG ?_
        refine dn ih fun r10 h_11_4_0 h_11_4_1 h_11_4_2 h_11_4_3 h_11_4_4=>?_
        refine okG ?_
        exact tT
       ·refine okD (fun c_6=>?_) (fun c_6=>?_)
        ·refine okG ?_
         refine okG ?_
         refine az fun r11 h_13_3_0 h_13_3_1 h_13_3_2 h_13_3_3=>?_
         refine okG ?_
         refine okG ?_
         refine okG ?_
         refine okG ?_
         refine dn ih fun r12 h_13_7_0 h_13_7_1 h_13_7_2 h_13_7_3 h_13_7_4=>?_
         refine okG ?_
         exact tT
        ·refine okG ?_
         refine okG ?_
         refine az fun r13 h_14_1_0 h_14_1_1 h_14_1_2 h_14_1_3=>?_
         refine okG ?_
         refine okG ?_
         refine okG ?_
         refine okG ?_
         refine dn ih fun r14 h_15_5_0 h_15_5_1 h_15_5_2 h_15_5_3 h_15_5_4=>?_
         refine okG ?_
         refine okG ?_
         refine fF fun r15 h_15_9_0 h_15_9_1 h_15_9_2=>?_
         refine okG ?_
         refine okG ?_
         refine okG ?_
         refine az fun r16 h_15_13_0 h_15_13_1 h_15_13_2 h_15_13_3=>?_
         refine okG ?_
         exact tT
  ·refine okG ?_
   refine fF fun r2 h_2_3_0 h_2_3_1 h_2_3_2=>?_
   exact tT
theorem M.qi:∀(n_:Nat),∀(b:(List Int)),∀(p:Int),∀(columns:LC),∀(kind:Int),∀(deep:Int),(Sm (Ty.sl (Ty.int .u8)) b)->(Sm (Ty.sl ay) columns)->(M.aq b)->(0<=p)->(p+40 * (M.eB deep:Int)<=996000000000000)->(deep<=3)->(deep.toNat<n_)->1<=(M.bK n_ b p columns kind deep).1.length/\(M.bK n_ b p columns kind deep).1.length<=M.eB deep/\(∀v∈(M.bK n_ b p columns kind deep).1,v.2.2.1.2.2.1.size<=20)/\p<=(M.bK n_ b p columns kind deep).2/\(M.bK n_ b p columns kind deep).2<=p+40 * M.eB deep
 | 0,b,p,columns,kind,deep,h_b,h_columns,p0,p1,p2,p3,p4=>absurd p4 (Nat.not_lt_zero _)
 | n_+1,b,p,columns,kind,deep,h_b,h_columns,p0,p1,p2,p3,p4=>fX (F.qu n_ (M.qi n_) b p columns kind deep h_b h_columns p0 p1 p2 p3 p4)
theorem F.wZ (n_:Nat) (b:(List Int)) (p:Int) (columns:LC) (kind:Int) (deep:Int) (h_b:Sm (Ty.sl (Ty.int .u8)) b) (h_columns:Sm (Ty.sl ay) columns) (p0:M.aq b) (p1:0<=p) (p2:p+40 * (M.eB deep:Int)<=996000000000000) (p3:deep<=3) (p4:deep.toNat<(n_+1)):F.lZ n_ b p columns kind deep=some (M.bK (n_+1) b p columns kind deep):=fY (F.qu n_ (M.qi n_) b p columns kind deep h_b h_columns p0 p1 p2 p3 p4)
theorem vu {α:Type} {K:α->Prop} {f:LPt×Int->Option α} {n_:Nat} {b:(List Int)} {p:Int} {columns:LC} {kind:Int} {deep:Int} (k:∀r,(1<=r.1.length)->(r.1.length<=M.eB deep)->(∀v∈r.1,v.2.2.1.2.2.1.size<=20)->(p<=r.2)->(r.2<=p+40 * M.eB deep)->ok (f r) K) (h_b:Sm (Ty.sl (Ty.int .u8)) b:=by exact au) (h_columns:Sm (Ty.sl ay) columns:=by exact au) (p0:M.aq b:=by exact au) (p1:0<=p:=by exact au) (p2:p+40 * (M.eB deep:Int)<=996000000000000:=by exact au) (p3:deep<=3:=by exact au) (p4:deep.toNat<n_:=by exact au):ok (aL (M.bK n_ b p columns kind deep) f) K:=by
 have h:=M.qi n_ b p columns kind deep h_b h_columns p0 p1 p2 p3 p4
 obtain⟨h0,h1,h2,h3,h4⟩:=h
 exact k _ h0 h1 h2 h3 h4
theorem F.qo (b:(List Int)) (p:Int) (tables:LTb) (n:Int) (h_b:Sm (Ty.sl (Ty.int .u8)) b) (h_tables:Sm (Ty.sl ag) tables) (p0:M.aq b) (p1:0<=p) (p2:p<=995000000000000) (p3:(∀t∈tables,M.ep t)) (p4:(∀t∈tables,M.fq t)) (p5:1<=tables.length) (p6:tables.length<=3) (p7:(∀t∈tables,M.jj t)):ok (F.jC b p tables n) (fun r=>M.bdD r.1/\p<=r.2/\r.2<=p+3000):=by
  unfold F.jC
  have hE2:M.eB (2:Int)=27:=by decide
  refine okG ?_
  refine az fun r1 h_1_1_0 h_1_1_1 h_1_1_2 h_1_1_3=>?_
  refine okG ?_
  refine okG ?_
  refine az fun r2 h_1_6_0 h_1_6_1 h_1_6_2 h_1_6_3=>?_
  have m_1_6:=cK (t:=ag) h_1_6_0 (h_1_6_1 (by omega))
  have x_1_6:=h_1_6_1 (by omega)
  have c_1_6:1<=(nth (t:=ag) tables r2.1).1.length:=p7 _ m_1_6
  refine okG ?_
  refine okG ?_
  refine okB (A:=fun e0=>p<=e0.1/\e0.1<=p+2000/\e0.2.2.1.length<=1/\e0.2.2.2.2.1.length<=27/\(∀v∈e0.2.2.2.2.1,v.2.2.1.2.2.1.size<=20)/\e0.2.2.2.2.2.length<=2) ?_ (fun e0 h_e0=>?_)
  ·refine okW (fun(_:Nat) (_:Unit)=>True) (fun _ v0 _=>?_) 0 _ trivial
   unfold F.iO
   refine okD (fun c_3=>?_) (fun c_3=>?_)
   ·refine okG ?_
    refine okG ?_
    refine okG ?_
    refine az fun r3 h_5_3_0 h_5_3_1 h_5_3_2 h_5_3_3=>?_
    refine okG ?_
    refine okG ?_
    refine az fun r4 h_6_1_0 h_6_1_1 h_6_1_2 h_6_1_3=>?_
    refine okD (fun c_4=>?_) (fun c_4=>?_)
    ·refine okG ?_
     refine okG ?_
     refine az fun r5 h_7_5_0 h_7_5_1 h_7_5_2 h_7_5_3=>?_
     exact fo ⟨au,au,au,au,au,au⟩
    ·exact fo ⟨au,au,au,au,au,au⟩
   ·refine okD (fun c_5=>?_) (fun c_5=>?_)
    ·refine okG ?_
     refine okG ?_
     refine okG ?_
     refine okG ?_
     refine okG ?_
     refine vu fun r6 h_9_2_0 h_9_2_1 h_9_2_2 h_9_2_3 h_9_2_4=>?_
     exact fo ⟨au,au,au,au,au,au⟩
    ·refine okD (fun c_6=>?_) (fun c_6=>?_)
     ·refine okB (A:=fun e1=>p<=e1.1/\e1.1<=p+200/\e1.2.2.1.length<=1/\e1.2.2.2.length<=1) ?_ (fun e1 h_e1=>?_)
      ·refine okW (fun(k:Nat) (v1:Int×Int×Int×(List Int)×(List Int))=>0<=v1.1/\v1.1<=12/\12<=v1.1+(k:Int)/\p<=v1.2.1/\v1.2.1<=p+100+3 * v1.1/\v1.2.2.2.1.length<=1/\v1.2.2.2.2.length<=1) (fun k v1 hI=>?_) (12:Nat) _ ⟨au,au,au,au,au,au,au⟩
       obtain⟨i_0,i_1,i_2,i_3,i_4,i_5,i_6⟩:=hI
       unfold F.iL
       refine FR (fun c_0=>?_) (fun c_0=>?_)
       ·refine okD (fun c_1=>?_) (fun c_1=>?_)
        ·refine okG ?_
         refine okG ?_
         refine okG ?_
         refine az fun r7 h_14_3_0 h_14_3_1 h_14_3_2 h_14_3_3=>?_
         have m_14_3:=cK (t:=ag) h_14_3_0 (h_14_3_1 (by omega))
         have x_14_3:=h_14_3_1 (by omega)
         have c_14_3:1<=(nth (t:=ag) tables r7.1).1.length:=p7 _ m_14_3
         refine okG ?_
         refine okG ?_
         refine az fun r8 h_15_3_0 h_15_3_1 h_15_3_2 h_15_3_3=>?_
         have x_15_3:=h_15_3_1 (by omega)
         refine okG ?_
         refine okG ?_
         refine okG ?_
         refine okG ?_
         refine az fun r9 h_16_8_0 h_16_8_1 h_16_8_2 h_16_8_3=>?_
         have x_16_8:=h_16_8_1 (by omega)
         refine okG ?_
         refine okG ?_
         refine okG ?_
         refine okG ?_
         refine okD (fun c_2=>?_) (fun c_2=>?_)
         ·exact gv ⟨k-1,by omega,au,au,au,au,au,au,au⟩
         ·exact gv ⟨k-1,by omega,au,au,au,au,au,au,au⟩
        ·exact fo ⟨au,au,au,au⟩
       ·exact fo ⟨au,au,au,au⟩
      ·obtain⟨e1_0,e1_1,e1_2,e1_3⟩:=h_e1
       refine okG ?_
       refine okG ?_
       refine okG ?_
       refine az fun r10 h_20_1_0 h_20_1_1 h_20_1_2 h_20_1_3=>?_
       exact fo ⟨au,au,au,au,au,au⟩
     ·exact fo ⟨au,au,au,au,au,au⟩
  ·obtain⟨e0_0,e0_1,e0_2,e0_3,e0_4,e0_5⟩:=h_e0
   refine okG ?_
   refine okG ?_
   refine cI fun r11 h_21_2_0 h_21_2_1 h_21_2_2=>?_
   refine okC (fun c_7=>?_) (fun c_7=>?_)
   ·refine okG ?_
    refine okG ?_
    refine az fun r12 h_22_1_0 h_22_1_1 h_22_1_2 h_22_1_3=>?_
    refine okD (fun c_8=>?_) (fun c_8=>?_)
    ·refine okG ?_
     refine okG ?_
     refine az fun r13 h_25_1_0 h_25_1_1 h_25_1_2 h_25_1_3=>?_
     exact nQ
    ·refine okD (fun c_9=>?_) (fun c_9=>?_)
     ·refine okG ?_
      refine okG ?_
      refine az fun r14 h_27_1_0 h_27_1_1 h_27_1_2 h_27_1_3=>?_
      exact nQ
     ·refine okD (fun c_10=>?_) (fun c_10=>?_)
      ·refine okG ?_
       refine okG ?_
       refine az fun r15 h_29_3_0 h_29_3_1 h_29_3_2 h_29_3_3=>?_
       refine okG ?_
       exact nQ
      ·exact nQ
   ·exact nQ
theorem F.xo (b:(List Int)) (p:Int) (tables:LTb) (n:Int) (h_b:Sm (Ty.sl (Ty.int .u8)) b) (h_tables:Sm (Ty.sl ag) tables) (p0:M.aq b) (p1:0<=p) (p2:p<=995000000000000) (p3:(∀t∈tables,M.ep t)) (p4:(∀t∈tables,M.fq t)) (p5:1<=tables.length) (p6:tables.length<=3) (p7:(∀t∈tables,M.jj t)):F.jC b p tables n=some (M.nD b p tables n):=fY (F.qo b p tables n h_b h_tables p0 p1 p2 p3 p4 p5 p6 p7)
theorem M.Bi (b:(List Int)) (p:Int) (tables:LTb) (n:Int) (h_b:Sm (Ty.sl (Ty.int .u8)) b) (h_tables:Sm (Ty.sl ag) tables) (p0:M.aq b) (p1:0<=p) (p2:p<=995000000000000) (p3:(∀t∈tables,M.ep t)) (p4:(∀t∈tables,M.fq t)) (p5:1<=tables.length) (p6:tables.length<=3) (p7:(∀t∈tables,M.jj t)):M.bdD (M.nD b p tables n).1/\p<=(M.nD b p tables n).2/\(M.nD b p tables n).2<=p+3000:=fX (F.qo b p tables n h_b h_tables p0 p1 p2 p3 p4 p5 p6 p7)
theorem vQ {α:Type} {K:α->Prop} {f:ai.D×Int->Option α} {b:(List Int)} {p:Int} {tables:LTb} {n:Int} (k:∀r,(M.bdD r.1)->(p<=r.2)->(r.2<=p+3000)->ok (f r) K) (h_b:Sm (Ty.sl (Ty.int .u8)) b:=by exact au) (h_tables:Sm (Ty.sl ag) tables:=by exact au) (p0:M.aq b:=by exact au) (p1:0<=p:=by exact au) (p2:p<=995000000000000:=by exact au) (p3:(∀t∈tables,M.ep t):=by exact au) (p4:(∀t∈tables,M.fq t):=by exact au) (p5:1<=tables.length:=by exact au) (p6:tables.length<=3:=by exact au) (p7:(∀t∈tables,M.jj t):=by exact au):ok (aL (M.nD b p tables n) f) K:=by
 have h:=M.Bi b p tables n h_b h_tables p0 p1 p2 p3 p4 p5 p6 p7
 obtain⟨h0,h1,h2⟩:=h
 exact k _ h0 h1 h2
theorem F.oW (b:(List Int)) (p:Int) (tables:LTb) (n:Int) (h_b:Sm (Ty.sl (Ty.int .u8)) b) (h_tables:Sm (Ty.sl ag) tables) (p0:M.aq b) (p1:0<=p) (p2:p<=994000000000000) (p3:(∀t∈tables,M.ep t)) (p4:(∀t∈tables,M.fq t)) (p5:1<=tables.length) (p6:tables.length<=3) (p7:(∀t∈tables,M.jj t)):ok (F.iz b p tables n) (fun r=>r.1.length<=3/\(∀g∈r.1,M.bdD g)/\p<=r.2/\r.2<=p+10000):=by
  unfold F.iz
  refine okG ?_
  refine az fun r1 h_2_1_0 h_2_1_1 h_2_1_2 h_2_1_3=>?_
  have x_2_1:=h_2_1_1 (by omega)
  refine okB (A:=fun e0=>p<=e0.1/\e0.1<=p+9500/\e0.2.length<=3/\(∀g∈e0.2,M.bdD g)) ?_ (fun e0 h_e0=>?_)
  ·refine okW (fun(k:Nat) (v0:Int×Int×(List ai.D))=>0<=v0.1/\v0.1<=(k:Int)/\(v0.2.2.length:Int)+v0.1<=3/\(∀g∈v0.2.2,M.bdD g)/\p<=v0.2.1/\v0.2.1+3000 * v0.1<=p+9500) (fun k v0 hI=>?_) (3:Nat) _ ⟨au,au,au,au,au,au⟩
   obtain⟨i_0,i_1,i_2,i_3,i_4,i_5⟩:=hI
   unfold F.gV
   refine okD (fun c_0=>?_) (fun c_0=>?_)
   ·refine okG ?_
    refine okG ?_
    refine okG ?_
    refine okG ?_
    refine okG ?_
    refine okG ?_
    refine okG ?_
    refine okG ?_
    refine vQ fun r2 h_5_4_0 h_5_4_1 h_5_4_2=>?_
    refine okG ?_
    exact gv ⟨k-1,by omega,au,au,au,au,au,au⟩
   ·exact fo ⟨au,au,au,au⟩
  ·obtain⟨e0_0,e0_1,e0_2,e0_3⟩:=h_e0
   exact gS
theorem F.wo (b:(List Int)) (p:Int) (tables:LTb) (n:Int) (h_b:Sm (Ty.sl (Ty.int .u8)) b) (h_tables:Sm (Ty.sl ag) tables) (p0:M.aq b) (p1:0<=p) (p2:p<=994000000000000) (p3:(∀t∈tables,M.ep t)) (p4:(∀t∈tables,M.fq t)) (p5:1<=tables.length) (p6:tables.length<=3) (p7:(∀t∈tables,M.jj t)):F.iz b p tables n=some (M.js b p tables n):=fY (F.oW b p tables n h_b h_tables p0 p1 p2 p3 p4 p5 p6 p7)
theorem M.AA (b:(List Int)) (p:Int) (tables:LTb) (n:Int) (h_b:Sm (Ty.sl (Ty.int .u8)) b) (h_tables:Sm (Ty.sl ag) tables) (p0:M.aq b) (p1:0<=p) (p2:p<=994000000000000) (p3:(∀t∈tables,M.ep t)) (p4:(∀t∈tables,M.fq t)) (p5:1<=tables.length) (p6:tables.length<=3) (p7:(∀t∈tables,M.jj t)):(M.js b p tables n).1.length<=3/\(∀g∈(M.js b p tables n).1,M.bdD g)/\p<=(M.js b p tables n).2/\(M.js b p tables n).2<=p+10000:=fX (F.oW b p tables n h_b h_tables p0 p1 p2 p3 p4 p5 p6 p7)
theorem ve {α:Type} {K:α->Prop} {f:(List ai.D)×Int->Option α} {b:(List Int)} {p:Int} {tables:LTb} {n:Int} (k:∀r,(r.1.length<=3)->(∀g∈r.1,M.bdD g)->(p<=r.2)->(r.2<=p+10000)->ok (f r) K) (h_b:Sm (Ty.sl (Ty.int .u8)) b:=by exact au) (h_tables:Sm (Ty.sl ag) tables:=by exact au) (p0:M.aq b:=by exact au) (p1:0<=p:=by exact au) (p2:p<=994000000000000:=by exact au) (p3:(∀t∈tables,M.ep t):=by exact au) (p4:(∀t∈tables,M.fq t):=by exact au) (p5:1<=tables.length:=by exact au) (p6:tables.length<=3:=by exact au) (p7:(∀t∈tables,M.jj t):=by exact au):ok (aL (M.js b p tables n) f) K:=by
 have h:=M.AA b p tables n h_b h_tables p0 p1 p2 p3 p4 p5 p6 p7
 obtain⟨h0,h1,h2,h3⟩:=h
 exact k _ h0 h1 h2 h3
theorem F.oR (b:(List Int)) (p:Int) (h_b:Sm (Ty.sl (Ty.int .u8)) b) (p0:M.aq b) (p1:0<=p) (p2:p<=993000000000000):ok (F.iE b p) (fun r=>r.1.length<=3/\1<=r.1.length/\(∀t∈r.1,M.ep t)/\r.2.1.length<=3/\(∀g∈r.2.1,M.bdD g)/\p<=r.2.2/\r.2.2<=p+30000/\(∀t∈r.1,M.fq t)/\(∀t∈r.1,M.jj t)):=by
  unfold F.iE
  refine okG ?_
  refine tF fun r1 h_1_1_0 h_1_1_1 h_1_1_2 h_1_1_3 h_1_1_4 h_1_1_5 h_1_1_6 h_1_1_7=>?_
  have q_a:=h_1_1_5 (by decide)
  have q_b:=h_1_1_6 (by decide)
  have q_c:=h_1_1_7 (by decide)
  refine okG ?_
  refine okG ?_
  refine okG ?_
  refine okG ?_
  refine okG ?_
  refine okG ?_
  refine okG ?_
  refine okG ?_
  refine ve fun r2 h_2_2_0 h_2_2_1 h_2_2_2 h_2_2_3=>?_
  refine okB (A:=fun e0=>e0.length<=3/\1<=e0.length/\(∀t∈e0,M.ep t)/\(∀t∈e0,M.fq t)/\(∀t∈e0,M.jj t)) ?_ (fun e0 h_e0=>?_)
  ·refine okW (fun(k:Nat) (v0:Bool×LTb)=>v0.2.length<=3/\1<=v0.2.length/\(∀t∈v0.2,M.ep t)/\(∀t∈v0.2,M.fq t)/\(∀t∈v0.2,M.jj t)/\(v0.1=true->M.size v0.2<k)/\M.size v0.2<=k) (fun k v0 hI=>?_) (M.size r1.1+1:Nat) _ ⟨au,au,au,au,au,au,au⟩
   obtain⟨i_0,i_1,i_2,i_3,i_4,i_5,i_6⟩:=hI
   unfold F.hD
   refine okC (fun c_3=>?_) (fun c_3=>?_)
   ·have s_a:=i_5 c_3
    refine okB (A:=fun e2=>e2.2.length<=3/\1<=e2.2.length/\(∀t∈e2.2,M.ep t)/\(∀t∈e2.2,M.fq t)/\(∀t∈e2.2,M.jj t)/\(e2.1=true->M.size e2.2<M.size v0.2)/\M.size e2.2<=M.size v0.2) ?_ (fun e2 h_e2=>?_)
    ·refine okW (fun(k:Nat) (v2:Bool×Int×LTb)=>0<=v2.2.1/\v2.2.1<=3/\3<=v2.2.1+(k:Int)/\v2.2.2.length<=3/\1<=v2.2.2.length/\(∀t∈v2.2.2,M.ep t)/\(∀t∈v2.2.2,M.fq t)/\(∀t∈v2.2.2,M.jj t)/\(v2.1=true->M.size v2.2.2<M.size v0.2)/\M.size v2.2.2<=M.size v0.2) (fun k v2 hI=>?_) (3:Nat) _ ⟨au,au,au,au,au,au,au,au,au,au⟩
     obtain⟨i_0,i_1,i_2,i_3,i_4,i_5,i_6,i_7,i_8,i_9⟩:=hI
     unfold F.gY
     refine FR (fun c_0=>?_) (fun c_0=>?_)
     ·refine okC (fun c_1=>?_) (fun c_1=>?_)
      ·refine okG ?_
       refine okG ?_
       refine okG ?_
       refine okG ?_
       refine okD (fun c_2=>?_) (fun c_2=>?_)
       ·have b_a:=c_2
        obtain⟨b_1,b_2,b_3,b_4⟩:=M.rV b_a
        obtain⟨t_1,t_2,t_3,t_4,t_5,t_6⟩:=M.Bw b_a
        obtain⟨d_1,d_2,d_3,d_4,d_5⟩:=M.DO b_a i_5 i_6 i_7
        refine okG ?_
        refine okG ?_
        refine okG ?_
        refine okG ?_
        refine okG ?_
        refine okG ?_
        refine okG ?_
        refine okG ?_
        refine okL fun y1 ey1=>?_
        subst ey1
        rw[M.Fp b_a]
        exact gv ⟨k-1,by omega,au,au,au,au,au,au,au,au,au,au⟩
       ·exact gv ⟨k-1,by omega,au,au,au,au,au,au,au,au,au,au⟩
      ·exact fo ⟨au,au,au,au,au,au,au⟩
     ·exact fo ⟨au,au,au,au,au,au,au⟩
    ·obtain⟨e2_0,e2_1,e2_2,e2_3,e2_4,e2_5,e2_6⟩:=h_e2
     exact gv ⟨k-1,by omega,au,au,au,au,au,fun q=>by have:=e2_5 q;show M.size e2.2<k-1;omega,by show M.size e2.2<=k-1;omega⟩
   ·exact fo ⟨au,au,au,au,au⟩
  ·obtain⟨e0_0,e0_1,e0_2,e0_3,e0_4⟩:=h_e0
   exact JF
theorem F.vS (b:(List Int)) (p:Int) (h_b:Sm (Ty.sl (Ty.int .u8)) b) (p0:M.aq b) (p1:0<=p) (p2:p<=993000000000000):F.iE b p=some (M.eg b p):=fY (F.oR b p h_b p0 p1 p2)
theorem M.zT (b:(List Int)) (p:Int) (h_b:Sm (Ty.sl (Ty.int .u8)) b) (p0:M.aq b) (p1:0<=p) (p2:p<=993000000000000):(M.eg b p).1.length<=3/\1<=(M.eg b p).1.length/\(∀t∈(M.eg b p).1,M.ep t)/\(M.eg b p).2.1.length<=3/\(∀g∈(M.eg b p).2.1,M.bdD g)/\p<=(M.eg b p).2.2/\(M.eg b p).2.2<=p+30000/\(∀t∈(M.eg b p).1,M.fq t)/\(∀t∈(M.eg b p).1,M.jj t):=fX (F.oR b p h_b p0 p1 p2)
theorem nh {α:Type} {K:α->Prop} {f:LTb×(List ai.D)×Int->Option α} {b:(List Int)} {p:Int} (k:∀r,(r.1.length<=3)->(1<=r.1.length)->(∀t∈r.1,M.ep t)->(r.2.1.length<=3)->(∀g∈r.2.1,M.bdD g)->(p<=r.2.2)->(r.2.2<=p+30000)->(∀t∈r.1,M.fq t)->(∀t∈r.1,M.jj t)->ok (f r) K) (h_b:Sm (Ty.sl (Ty.int .u8)) b:=by exact au) (p0:M.aq b:=by exact au) (p1:0<=p:=by exact au) (p2:p<=993000000000000:=by exact au):ok (aL (M.eg b p) f) K:=by
 have h:=M.zT b p h_b p0 p1 p2
 obtain⟨h0,h1,h2,h3,h4,h5,h6,h7,h8⟩:=h
 exact k _ h0 h1 h2 h3 h4 h5 h6 h7 h8
theorem F.nq (b:(List Int)) (p:Int) (tables:LTb) (n:Int) (h_b:Sm (Ty.sl (Ty.int .u8)) b) (h_tables:Sm (Ty.sl ag) tables) (p0:M.aq b) (p1:0<=p) (p2:p<=996000000000000) (p3:(∀t∈tables,M.ep t)) (p4:(∀t∈tables,M.fq t)) (p5:1<=tables.length):ok (F.gM b p tables n) (fun r=>r.1.2.1.length<=5/\(∀v∈r.1.2.1,v.2.2.1.size<=20)/\p<=r.2/\r.2<=p+300):=by
  unfold F.gM
  refine okG ?_
  refine az fun r1 h_1_3_0 h_1_3_1 h_1_3_2 h_1_3_3=>?_
  refine okG ?_
  refine okG ?_
  refine az fun r2 h_1_5_0 h_1_5_1 h_1_5_2 h_1_5_3=>?_
  have t_a:=cK (t:=ag) h_1_3_0 (h_1_3_1 (by omega))
  obtain⟨t_e1,_,t_e2⟩:=p4 _ t_a
  refine okG ?_
  refine okG ?_
  refine okG ?_
  refine okG ?_
  refine lF fun r3 h_3_3_0 h_3_3_1 h_3_3_2 h_3_3_3 h_3_3_4=>?_
  have f_a:r3.1.length<=4:=by rw[h_3_3_4 (by decide)];exact t_e1
  refine okD (fun c_0=>?_) (fun c_0=>?_)
  ·refine okD (fun c_1=>?_) (fun c_1=>?_)
   ·refine okG ?_
    refine okG ?_
    refine az fun r4 h_7_6_0 h_7_6_1 h_7_6_2 h_7_6_3=>?_
    refine okG ?_
    refine okG ?_
    refine okL fun r5 er5=>?_
    have u_a:=cK (t:=.sl aa) h_7_6_0 (h_7_6_1 (by omega))
    have f_b:r5.length<=4:=by rw[er5];exact t_e2 _ u_a
    have f_c:∀v∈r5,v.2.2.1.size<=20:=by rw[er5];exact((p3 _ t_a).2.2 _ u_a).2
    refine okG ?_
    refine okG ?_
    refine cI fun r6 h_10_2_0 h_10_2_1 h_10_2_2=>?_
    refine okC (fun c_2=>?_) (fun c_2=>?_)
    ·refine okG ?_
     refine okG ?_
     refine az fun r7 h_11_1_0 h_11_1_1 h_11_1_2 h_11_1_3=>?_
     refine okD (fun c_3=>?_) (fun c_3=>?_)
     ·refine okG ?_
      refine okG ?_
      refine az fun r8 h_14_1_0 h_14_1_1 h_14_1_2 h_14_1_3=>?_
      exact gS
     ·refine okD (fun c_4=>?_) (fun c_4=>?_)
      ·refine okG ?_
       exact gS
      ·exact gS
    ·exact gS
   ·refine okG ?_
    refine okG ?_
    refine cI fun r6 h_10_2_0 h_10_2_1 h_10_2_2=>?_
    refine okC (fun c_5=>?_) (fun c_5=>?_)
    ·refine okG ?_
     refine okG ?_
     refine az fun r7 h_11_1_0 h_11_1_1 h_11_1_2 h_11_1_3=>?_
     refine okD (fun c_6=>?_) (fun c_6=>?_)
     ·refine okG ?_
      refine okG ?_
      refine az fun r8 h_14_1_0 h_14_1_1 h_14_1_2 h_14_1_3=>?_
      exact gS
     ·refine okD (fun c_7=>?_) (fun c_7=>?_)
      ·refine okG ?_
       exact gS
      ·exact gS
    ·exact gS
  ·refine okC (fun c_8=>?_) (fun c_8=>?_)
   ·refine okD (fun c_9=>?_) (fun c_9=>?_)
    ·refine okG ?_
     refine okG ?_
     refine az fun r4 h_7_6_0 h_7_6_1 h_7_6_2 h_7_6_3=>?_
     refine okG ?_
     refine okG ?_
     refine okL fun r5 er5=>?_
     have u_a:=cK (t:=.sl aa) h_7_6_0 (h_7_6_1 (by omega))
     have f_b:r5.length<=4:=by rw[er5];exact t_e2 _ u_a
     have f_c:∀v∈r5,v.2.2.1.size<=20:=by rw[er5];exact((p3 _ t_a).2.2 _ u_a).2
     refine okD (fun c_10=>?_) (fun c_10=>?_)
     ·refine okG ?_
      refine okG ?_
      refine cI fun r6 h_10_2_0 h_10_2_1 h_10_2_2=>?_
      refine okC (fun c_11=>?_) (fun c_11=>?_)
      ·refine okG ?_
       refine okG ?_
       refine az fun r7 h_11_1_0 h_11_1_1 h_11_1_2 h_11_1_3=>?_
       refine okD (fun c_12=>?_) (fun c_12=>?_)
       ·refine okG ?_
        refine okG ?_
        refine az fun r8 h_14_1_0 h_14_1_1 h_14_1_2 h_14_1_3=>?_
        exact gS
       ·refine okD (fun c_13=>?_) (fun c_13=>?_)
        ·refine okG ?_
         exact gS
        ·exact gS
      ·exact gS
     ·refine okG ?_
      refine okG ?_
      refine cI fun r6 h_10_2_0 h_10_2_1 h_10_2_2=>?_
      refine okC (fun c_14=>?_) (fun c_14=>?_)
      ·refine okG ?_
       refine okG ?_
       refine az fun r7 h_11_1_0 h_11_1_1 h_11_1_2 h_11_1_3=>?_
       refine okD (fun c_15=>?_) (fun c_15=>?_)
       ·refine okG ?_
        refine okG ?_
        refine az fun r8 h_14_1_0 h_14_1_1 h_14_1_2 h_14_1_3=>?_
        exact gS
       ·refine okD (fun c_16=>?_) (fun c_16=>?_)
        ·refine okG ?_
         exact gS
        ·exact gS
      ·exact gS
    ·refine okD (fun c_17=>?_) (fun c_17=>?_)
     ·refine okG ?_
      refine okG ?_
      refine cI fun r6 h_10_2_0 h_10_2_1 h_10_2_2=>?_
      refine okC (fun c_18=>?_) (fun c_18=>?_)
      ·refine okG ?_
       refine okG ?_
       refine az fun r7 h_11_1_0 h_11_1_1 h_11_1_2 h_11_1_3=>?_
       refine okD (fun c_19=>?_) (fun c_19=>?_)
       ·refine okG ?_
        refine okG ?_
        refine az fun r8 h_14_1_0 h_14_1_1 h_14_1_2 h_14_1_3=>?_
        exact gS
       ·refine okD (fun c_20=>?_) (fun c_20=>?_)
        ·refine okG ?_
         exact gS
        ·exact gS
      ·exact gS
     ·refine okG ?_
      refine okG ?_
      refine cI fun r6 h_10_2_0 h_10_2_1 h_10_2_2=>?_
      refine okC (fun c_21=>?_) (fun c_21=>?_)
      ·refine okG ?_
       refine okG ?_
       refine az fun r7 h_11_1_0 h_11_1_1 h_11_1_2 h_11_1_3=>?_
       refine okD (fun c_22=>?_) (fun c_22=>?_)
       ·refine okG ?_
        refine okG ?_
        refine az fun r8 h_14_1_0 h_14_1_1 h_14_1_2 h_14_1_3=>?_
        exact gS
       ·refine okD (fun c_23=>?_) (fun c_23=>?_)
        ·refine okG ?_
         exact gS
        ·exact gS
      ·exact gS
   ·refine okD (fun c_24=>?_) (fun c_24=>?_)
    ·refine okG ?_
     refine okG ?_
     refine cI fun r6 h_10_2_0 h_10_2_1 h_10_2_2=>?_
     refine okC (fun c_25=>?_) (fun c_25=>?_)
     ·refine okG ?_
      refine okG ?_
      refine az fun r7 h_11_1_0 h_11_1_1 h_11_1_2 h_11_1_3=>?_
      refine okD (fun c_26=>?_) (fun c_26=>?_)
      ·refine okG ?_
       refine okG ?_
       refine az fun r8 h_14_1_0 h_14_1_1 h_14_1_2 h_14_1_3=>?_
       exact gS
      ·refine okD (fun c_27=>?_) (fun c_27=>?_)
       ·refine okG ?_
        exact gS
       ·exact gS
     ·exact gS
    ·refine okG ?_
     refine okG ?_
     refine cI fun r6 h_10_2_0 h_10_2_1 h_10_2_2=>?_
     refine okC (fun c_28=>?_) (fun c_28=>?_)
     ·refine okG ?_
      refine okG ?_
      refine az fun r7 h_11_1_0 h_11_1_1 h_11_1_2 h_11_1_3=>?_
      refine okD (fun c_29=>?_) (fun c_29=>?_)
      ·refine okG ?_
       refine okG ?_
       refine az fun r8 h_14_1_0 h_14_1_1 h_14_1_2 h_14_1_3=>?_
       exact gS
      ·refine okD (fun c_30=>?_) (fun c_30=>?_)
       ·refine okG ?_
        exact gS
       ·exact gS
     ·exact gS
theorem F.uE (b:(List Int)) (p:Int) (tables:LTb) (n:Int) (h_b:Sm (Ty.sl (Ty.int .u8)) b) (h_tables:Sm (Ty.sl ag) tables) (p0:M.aq b) (p1:0<=p) (p2:p<=996000000000000) (p3:(∀t∈tables,M.ep t)) (p4:(∀t∈tables,M.fq t)) (p5:1<=tables.length):F.gM b p tables n=some (M.ij b p tables n):=fY (F.nq b p tables n h_b h_tables p0 p1 p2 p3 p4 p5)
theorem M.yh (b:(List Int)) (p:Int) (tables:LTb) (n:Int) (h_b:Sm (Ty.sl (Ty.int .u8)) b) (h_tables:Sm (Ty.sl ag) tables) (p0:M.aq b) (p1:0<=p) (p2:p<=996000000000000) (p3:(∀t∈tables,M.ep t)) (p4:(∀t∈tables,M.fq t)) (p5:1<=tables.length):(M.ij b p tables n).1.2.1.length<=5/\(∀v∈(M.ij b p tables n).1.2.1,v.2.2.1.size<=20)/\p<=(M.ij b p tables n).2/\(M.ij b p tables n).2<=p+300:=fX (F.nq b p tables n h_b h_tables p0 p1 p2 p3 p4 p5)
theorem mw {α:Type} {K:α->Prop} {f:ak.D×Int->Option α} {b:(List Int)} {p:Int} {tables:LTb} {n:Int} (k:∀r,(r.1.2.1.length<=5)->(∀v∈r.1.2.1,v.2.2.1.size<=20)->(p<=r.2)->(r.2<=p+300)->ok (f r) K) (h_b:Sm (Ty.sl (Ty.int .u8)) b:=by exact au) (h_tables:Sm (Ty.sl ag) tables:=by exact au) (p0:M.aq b:=by exact au) (p1:0<=p:=by exact au) (p2:p<=996000000000000:=by exact au) (p3:(∀t∈tables,M.ep t):=by exact au) (p4:(∀t∈tables,M.fq t):=by exact au) (p5:1<=tables.length:=by exact au):ok (aL (M.ij b p tables n) f) K:=by
 have h:=M.yh b p tables n h_b h_tables p0 p1 p2 p3 p4 p5
 obtain⟨h0,h1,h2,h3⟩:=h
 exact k _ h0 h1 h2 h3
theorem F.jB (code:(List Int)) (h_code:Sm (Ty.sl (Ty.int .u8)) code) (p0:M.aq code):ok (F.dY code) (fun r=>r.1.length<=3/\1<=r.1.length/\(∀t∈r.1,M.ep t)/\r.2.1.length<=3/\(∀g∈r.2.1,M.bdD g)/\r.2.2.length<=6/\(∀c∈r.2.2,M.chD c)):=by
  unfold F.dY
  refine okD (fun c_1=>?_) (fun c_1=>?_)
  ·refine okG ?_
   refine okG ?_
   refine okG ?_
   refine okG ?_
   refine okG ?_
   refine nh fun r1 h_2_1_0 h_2_1_1 h_2_1_2 h_2_1_3 h_2_1_4 h_2_1_5 h_2_1_6 h_2_1_7 h_2_1_8=>?_
   refine okG ?_
   refine okG ?_
   refine az fun r2 h_4_1_0 h_4_1_1 h_4_1_2 h_4_1_3=>?_
   refine okB (A:=fun e0=>e0.length<=6/\(∀c∈e0,M.chD c)) ?_ (fun e0 h_e0=>?_)
   ·refine okW (fun(k:Nat) (v0:Int×Int×(List ak.D))=>0<=v0.1/\v0.1<=(k:Int)/\(v0.2.2.length:Int)+v0.1<=6/\(∀c∈v0.2.2,M.chD c)/\0<=v0.2.1/\v0.2.1+300 * v0.1<=100000) (fun k v0 hI=>?_) (6:Nat) _ ⟨au,au,au,au,au,au⟩
    obtain⟨i_0,i_1,i_2,i_3,i_4,i_5⟩:=hI
    unfold F.cm
    refine okD (fun c_0=>?_) (fun c_0=>?_)
    ·refine okG ?_
     refine okG ?_
     refine okG ?_
     refine okG ?_
     refine okG ?_
     refine okG ?_
     refine okG ?_
     refine mw fun r3 h_7_3_0 h_7_3_1 h_7_3_2 h_7_3_3=>?_
     refine okG ?_
     exact gv ⟨k-1,by omega,au,au,au,au,au,au⟩
    ·exact fo ⟨au,au⟩
   ·obtain⟨e0_0,e0_1⟩:=h_e0
    exact Jr
  ·refine okG ?_
   refine okG ?_
   refine nh fun r1 h_2_1_0 h_2_1_1 h_2_1_2 h_2_1_3 h_2_1_4 h_2_1_5 h_2_1_6 h_2_1_7 h_2_1_8=>?_
   refine okG ?_
   refine okG ?_
   refine az fun r2 h_4_1_0 h_4_1_1 h_4_1_2 h_4_1_3=>?_
   refine okB (A:=fun e0=>e0.length<=6/\(∀c∈e0,M.chD c)) ?_ (fun e0 h_e0=>?_)
   ·refine okW (fun(k:Nat) (v0:Int×Int×(List ak.D))=>0<=v0.1/\v0.1<=(k:Int)/\(v0.2.2.length:Int)+v0.1<=6/\(∀c∈v0.2.2,M.chD c)/\0<=v0.2.1/\v0.2.1+300 * v0.1<=100000) (fun k v0 hI=>?_) (6:Nat) _ ⟨au,au,au,au,au,au⟩
    obtain⟨i_0,i_1,i_2,i_3,i_4,i_5⟩:=hI
    unfold F.cm
    refine okD (fun c_0=>?_) (fun c_0=>?_)
    ·refine okG ?_
     refine okG ?_
     refine okG ?_
     refine okG ?_
     refine okG ?_
     refine okG ?_
     refine okG ?_
     refine mw fun r3 h_7_3_0 h_7_3_1 h_7_3_2 h_7_3_3=>?_
     refine okG ?_
     exact gv ⟨k-1,by omega,au,au,au,au,au,au⟩
    ·exact fo ⟨au,au⟩
   ·obtain⟨e0_0,e0_1⟩:=h_e0
    exact Jr
theorem F.oY (code:(List Int)) (h_code:Sm (Ty.sl (Ty.int .u8)) code) (p0:M.aq code):F.dY code=some (M.bZ code):=fY (F.jB code h_code p0)
theorem M.lM (code:(List Int)) (h_code:Sm (Ty.sl (Ty.int .u8)) code) (p0:M.aq code):(M.bZ code).1.length<=3/\1<=(M.bZ code).1.length/\(∀t∈(M.bZ code).1,M.ep t)/\(M.bZ code).2.1.length<=3/\(∀g∈(M.bZ code).2.1,M.bdD g)/\(M.bZ code).2.2.length<=6/\(∀c∈(M.bZ code).2.2,M.chD c):=fX (F.jB code h_code p0)
theorem Bf {α:Type} {K:α->Prop} {f:LTb×(List ai.D)×(List ak.D)->Option α} {code:(List Int)} (k:∀r,(r.1.length<=3)->(1<=r.1.length)->(∀t∈r.1,M.ep t)->(r.2.1.length<=3)->(∀g∈r.2.1,M.bdD g)->(r.2.2.length<=6)->(∀c∈r.2.2,M.chD c)->ok (f r) K) (h_code:Sm (Ty.sl (Ty.int .u8)) code:=by exact au) (p0:M.aq code:=by exact au):ok (aL (M.bZ code) f) K:=by
 have h:=M.lM code h_code p0
 obtain⟨h0,h1,h2,h3,h4,h5,h6⟩:=h
 exact k _ h0 h1 h2 h3 h4 h5 h6
theorem F.xx (a:LV) (b:LV) (h_a:Sm (Ty.sl aa) a) (h_b:Sm (Ty.sl aa) b) (p0:a=b):F.pE a b=some true:=by
 subst p0
 unfold F.pE
 exact M.eq_eq (fun i h0 h1=>by
  unfold F.iP
  rw[aj h1,(beq_iff (t:=aa) rfl _ _).2 rfl]
  rfl)
theorem F.vN (a:LLV) (b:LLV) (h_a:Sm (Ty.sl (Ty.sl aa)) a) (h_b:Sm (Ty.sl (Ty.sl aa)) b) (p0:a=b):F.nZ a b=some true:=by
 subst p0
 unfold F.nZ
 exact M.eq_eq (fun i h0 h1=>by
  unfold F.gX
  rw[aj h1]
  simp only[decide_true,Bool.not_true,show ((false:Bool)==false)=true from rfl,cond_true,cond_false,eq_self,M.qN])
theorem F.tv (a:LTb) (b:LTb) (h_a:Sm (Ty.sl ag) a) (h_b:Sm (Ty.sl ag) b) (p0:a=b):F.lg a b=some true:=by
 subst p0
 unfold F.lg
 exact M.eq_eq (fun i h0 h1=>by
  unfold F.fU
  have hw:bW (F.cS a a i) (0:Int)=some (.inl ()):=by
   refine M.zB (n:=((nth (t:=ag) a i).1:List ay.D).length) (aH h_a i).1.1 (fun v v0 v1=>?_) ?_ _ 0 (Nat.zero_add _)
   ·unfold F.cS
    rw[aj h0,aj h1,decide_eq_true v1,cond_true,aj v0,aj v1,aj h1,aj v1,(beq_iff (t:=ay) rfl _ _).2 rfl]
    rfl
   ·unfold F.cS
    rw[aj h0,aj h1,decide_eq_false (Int.lt_irrefl _)]
    rfl
  rw[aj h1,M.Ds,decide_eq_true rfl]
  show bC (bW (F.cS a a i) (0:Int)) _ _=_
  rw[hw]
  rfl)
theorem F.xH (v:aa.D) (h_v:Sm aa v):F.tS v=some (M.aN v):=by
 rfl
theorem F.Ai   : F.ta  = some true:=by
 unfold F.ta
 rw[show M.aN ((1:Int),((3:Int),((⟨#[]⟩:ByteArray),())))=true from rfl,show M.aN ((9:Int),((0:Int),((⟨#[]⟩:ByteArray),())))=false from rfl]
 rfl
theorem F.qE (code:(List Int)) (h_code:Ln (Ty.sl (Ty.int .u8)) code) (p0:M.aq code):F.jH code=some true:=by
 unfold F.jH
 by_cases hc:(1048576:Int)<(code.length:Int)
 ·rw[decide_eq_true hc]
  rfl
 rw[decide_eq_false hc,cond_false]
 have hs:Sm (.sl (.int .u8)) code:=⟨by omega,fun _ _=>trivial⟩
 rw[aj hs,bS]
 obtain⟨d0,d1,d2,d3,d4,d5,d6⟩:=M.lM code hs p0
 generalize M.bZ code=r at *
 obtain⟨ts,bs,c⟩:=r
 simp only at d0 d1 d2 d3 d4 d5 d6 ⊢
 have st:Sm (.sl ag) ts:=M.EB d0 d2 (by decide)
 have sb:Sm (.sl ai) bs:=M.Cr d3 d4 (by decide)
 have hbb:∀a:Bool,Ty.beq Ty.bool a a=true:=fun a=>by cases a<;>rfl
 have sc:Sm (.sl ak) c:=M.DT d5 d6 (by decide)
 have sk:Sm (.sl ag) (M.bN ts bs c).1:=M.Eo (bonds:=bs) st sc
 have s0:Sm (.sl ag) (M.bN ts [] c).1:=M.Eo (bonds:=[]) st sc
 simp only[bS,hbb,Bool.not_true,cond_true,cond_false,show ((false:Bool)==false)=true from rfl]
 rw[aj st,aj sb,aj sc,aj sk,aj sk,M.qN]
 cases h:(M.bN ts bs c).2 with
 | false=>rfl
 | true=>
  obtain⟨k1,k2,k3⟩:=M.Dz h
  rw[k3] at s0 ⊢
  simp only[Bool.not_true,cond_false]
  have hcl:=sc.1
  rw[aj (iW _),aj (show (c.length:Int)<=oO by unfold oO;omega)]
  obtain⟨e,_⟩:=oQ (f:=F.dU code bs c (M.bN ts bs c).1 true (List.foldl (M.cU []) ts c)) (M.cU []) (fun now=>Sm (.sl ag) now) (xs:=c) st (fun x hx now hI=>by
   refine⟨?_,M.xQ hI (sc.2 x hx)⟩
   unfold F.dU
   rw[aj hI,aj (sc.2 x hx),M.Ff]
   simp only[bS]
   cases M.aQ now x<;>rfl)
  rw[e,cr,k1,k2]
  simp only[cond_true,show ((true:Bool)==true)=true from rfl]
  rw[aj s0,aj s0]
  exact M.qN
end Go.AE
