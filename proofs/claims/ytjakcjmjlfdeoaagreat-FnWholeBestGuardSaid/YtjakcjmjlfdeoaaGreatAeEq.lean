/- What the functions compute is what is said. -/
import Derived.Test.YtjakcjmjlfdeoaaGreatAeF
import Derived.Test.YtjakcjmjlfdeoaaGreatAeY
import Derived.Test.YtjakcjmjlfdeoaaGreatAeEqI
import Derived.Test.YtjakcjmjlfdeoaaGreatAeEqR
import Derived.Test.YtjakcjmjlfdeoaaGreatAeRG
import Derived.Test.YtjakcjmjlfdeoaaGreatAeRT
import Derived.Test.YtjakcjmjlfdeoaaGreatAeRB
import Derived.Test.YtjakcjmjlfdeoaaGreatAeRT
import Derived.Test.YtjakcjmjlfdeoaaGreatAeRT
import Derived.Test.YtjakcjmjlfdeoaaGreatAeEqI
namespace Go.AE
open Go Go.RowKit
set_option linter.unusedVariables false
set_option linter.unusedSimpArgs false
set_option maxHeartbeats 2000000
theorem F.yC (n:Int) (low:Int) (high:Int)  : F.qC n low high=some (M.inR n low high):=by
 unfold F.qC M.inR
 cases decide (low<=n)<;>rfl
theorem F.sZ (c:ai.D)  : F.oY c=some (!M.eP c):=by
 rfl
theorem F.lp (xs:LC) (h_xs:Sm (Ty.sl ai) xs):F.ij xs=some (M.idx (t:=ai) (fun e=>!M.eP e) xs):=by
 exact kf (t:=ai) (p:=(fun e=>!M.eP e)) (fun i h0 h1=>by simp only[F.cW,dx])
theorem F.jF (xs:LC) (h_xs:Sm (Ty.sl ai) xs):F.dZ xs=some (List.any xs (fun e=>!M.eP e)):=by
 unfold F.dZ
 exact gv (t:=ai)
theorem F.uS (columns:LC) (h_columns:Sm (Ty.sl ai) columns):F.mX columns=some (M.bN columns):=by
 unfold F.mX M.bN
 rw[kM,show decide ((columns.length:Int)<=4)=decide (columns.length<=4) from decide_eq_decide.2 (by omega)]
 rw[List.all_eq_not_any_not]
theorem F.yE (s:ByteArray) (h_s:Sm Ty.str s):F.pW s=some (M.lower (bU s)):=by
 unfold F.pW M.lower
 rw[pz (fun n=>M.inR n 97 122) () (fun x hx=>by
  obtain⟨h0,h1⟩:=Jo hx
  simp only[F.jn,sw,dx,aI (n:=x) (by omega) (by omega)])]
 cases (bU s).all fun n=>M.inR n 97 122<;>rfl
theorem F.wK (v:aa.D) (h_v:Sm aa v):F.oJ v=some (M.aX v):=by
 unfold F.oJ M.aX M.text
 simp only[kM]
 rw[show decide ((v.2.2.1.size:Int)<=6)=decide (v.2.2.1.size<=6) from decide_eq_decide.2 (by omega)]
 simp only[Ty.beq]
 cases h0:decide (v.1=(0:Int))
 ·generalize decide (v.1=(1:Int))=b1
  generalize decide (v.1=(2:Int))=b2
  generalize decide (v.1=(3:Int))=b3
  generalize decide (v.2.1=(0:Int))=c0
  generalize decide (v.2.2.1.size<=6)=c6
  generalize M.inR v.2.1 (-9999) 9999=c1
  generalize M.inR v.2.1 0 1=c3
  generalize decide (v.2.2.1=M.none_)=e0
  cases b1<;>cases b2<;>cases b3<;>cases c0<;>cases c6<;>cases c1<;>cases c3<;>cases e0<;>rfl
 ·simp only[cond_true,Bool.true_and,Bool.and_true]
theorem F.yG (v:aa.D) (h_v:Sm aa v):F.uK v=some (!M.aX v):=by
 rfl
theorem F.nu (xs:LV) (h_xs:Sm (Ty.sl aa) xs):F.jR xs=some (M.idx (t:=aa) (fun e=>!M.aX e) xs):=by
 exact kf (t:=aa) (p:=(fun e=>!M.aX e)) (fun i h0 h1=>by simp only[F.dD,dx])
theorem F.lY (xs:LV) (h_xs:Sm (Ty.sl aa) xs):F.fo xs=some (List.any xs (fun e=>!M.aX e)):=by
 unfold F.fo
 exact gv (t:=aa)
theorem F.AH (row:LV) (h_row:Sm (Ty.sl aa) row):F.tF row=some (M.zE row):=by
 unfold F.tF M.zE
 rw[kM,show decide ((row.length:Int)<=4)=decide (row.length<=4) from decide_eq_decide.2 (by omega)]
 rw[List.all_eq_not_any_not]
theorem F.yx (columns:LC) (row:LV) (h_columns:Sm (Ty.sl ai) columns) (h_row:Sm (Ty.sl aa) row):F.qb columns row=some (M.dS columns row):=by
 unfold F.qb M.dS
 cases M.bN columns
 ·rfl
 cases M.zE row
 ·rfl
 by_cases hl:row.length=columns.length
 ·rw[pz (M.Dc columns row) () (fun i hi=>by
   obtain⟨h0,h1⟩:=eZ.1 hi
   have h2:i<(columns.length:Int):=by omega
   simp only[F.ji,aj h2]
   unfold M.Dc
   cases decide ((nth (t:=aa) row i).1=(nth (t:=ai) columns i).1)<;>cases decide ((nth (t:=aa) row i).1=(0:Int))<;>cases (nth (t:=ai) columns i).2.1<;>rfl)]
  simp only[hl,Bool.not_true,decide_true,Bool.true_and,cond_true,cond_false]
  cases (aN 0 (columns.length:Int)).all (M.Dc columns row)<;>rfl
 ·have h3:¬(row.length:Int)=(columns.length:Int):=by omega
  simp[hl,h3]
theorem F.wL (r:LV) (columns:LC) (h_r:Sm (Ty.sl aa) r) (h_columns:Sm (Ty.sl ai) columns):F.tw r columns=some (!M.dS columns r):=by
 rfl
theorem F.nk (xs:LLV) (k0:LC) (h_xs:Sm (Ty.sl (Ty.sl aa)) xs) (h_k0:Sm (Ty.sl ai) k0):F.jv xs k0=some (M.idx (t:=(Ty.sl aa)) (fun e=>!M.dS k0 e) xs):=by
 exact kf (t:=(Ty.sl aa)) (p:=(fun e=>!M.dS k0 e)) (fun i h0 h1=>by simp only[F.dm,dx])
theorem F.lE (xs:LLV) (k0:LC) (h_xs:Sm (Ty.sl (Ty.sl aa)) xs) (h_k0:Sm (Ty.sl ai) k0):F.fe xs k0=some (List.any xs (fun e=>!M.dS k0 e)):=by
 unfold F.fe
 exact gv (t:=(Ty.sl aa))
theorem F.zN (columns:LC) (rows:LLV) (h_columns:Sm (Ty.sl ai) columns) (h_rows:Sm (Ty.sl (Ty.sl aa)) rows):F.rZ columns rows=some (M.kR columns rows):=by
 unfold F.rZ M.kR
 rw[kM,List.all_eq_not_any_not]
theorem F.ud (t:aq.D) (h_t:Sm aq t):F.lQ t=some (!M.dU t):=by
 unfold F.lQ M.dU
 cases hc:M.bN t.1
 ·have:M.kR t.1 t.2.1=false:=by unfold M.kR;rw[hc];rfl
  rw[this]
  simp
 by_cases h:t.2.1.length<=6
 ·have h2:¬(6:Int)<(t.2.1.length:Int):=by omega
  simp[h2,h]
 ·have h2:(6:Int)<(t.2.1.length:Int):=by omega
  simp[h2,h]
theorem F.lV (xs:LTb) (h_xs:Sm (Ty.sl aq) xs):F.iO xs=some (M.idx (t:=aq) (fun e=>!M.dU e) xs):=by
 exact kf (t:=aq) (p:=(fun e=>!M.dU e)) (fun i h0 h1=>by simp only[F.dc,dx])
theorem F.kr (xs:LTb) (h_xs:Sm (Ty.sl aq) xs):F.eG xs=some (List.any xs (fun e=>!M.dU e)):=by
 unfold F.eG
 exact gv (t:=aq)
theorem F.vP (tables:LTb) (h_tables:Sm (Ty.sl aq) tables):F.ov tables=some (M.cm tables):=by
 unfold F.ov M.cm
 rw[kM,show decide ((tables.length:Int)<=3)=decide (tables.length<=3) from decide_eq_decide.2 (by omega)]
 rw[List.all_eq_not_any_not]
theorem F.tI (p:az.D) (h_p:Sm az p):F.lP p=some (M.takes p):=by
 unfold F.lP M.takes
 generalize decide (p.1=(3:Int))=c3
 generalize decide (p.1=(4:Int))=c4
 generalize decide (p.1=(5:Int))=c5
 generalize decide (p.1=(6:Int))=c6
 generalize decide (p.1=(7:Int))=c7
 generalize decide (p.1=(8:Int))=c8
 cases c3<;>cases c4<;>cases c5<;>cases c6<;>cases c7<;>cases c8<;>rfl
theorem F.tE (p:az.D) (columns:LC) (h_p:Sm az p) (h_columns:Sm (Ty.sl ai) columns):F.lU p columns=some (M.mb p columns):=by
 unfold F.lU M.mb M.noV
 rw[fQ _ h_columns.1]
 simp only[kM,show Ty.beq aa p.2.2.1 ((0:Int),(0:Int),(⟨#[]⟩:ByteArray),())=Ty.beq aa p.2.2.1 M.zeroV from rfl]
 generalize Ty.beq aa p.2.2.1 M.zeroV=nv
 by_cases e1:p.1=(1:Int)
 ·simp only[e1,decide_true,cond_true]
 by_cases e2:p.1=(2:Int)
 ·simp only[e2,decide_true,cond_true,Int.reduceEq,decide_false,cond_false]
 by_cases e4:p.1=(4:Int)
 ·simp only[e4,decide_true,cond_true,Int.reduceEq,decide_false,cond_false]
 by_cases e3:p.1=(3:Int)
 ·simp only[e3,decide_true,cond_true,Int.reduceEq,decide_false,cond_false]
  rfl
 by_cases e5:p.1=(5:Int)
 ·simp only[e5,decide_true,cond_true,Int.reduceEq,decide_false,cond_false]
  rfl
 by_cases e6:p.1=(6:Int)
 ·simp only[e6,decide_true,cond_true,Int.reduceEq,decide_false,cond_false]
  rfl
 by_cases e7:p.1=(7:Int)
 ·simp only[e7,decide_true,cond_true,Int.reduceEq,decide_false,cond_false]
  rfl
 by_cases e8:p.1=(8:Int)
 ·simp only[e8,decide_true,cond_true,Int.reduceEq,decide_false,cond_false]
  rfl
 simp only[e1,e2,e3,e4,e5,e6,e7,e8,decide_false,cond_false,FV e3 e4 e5 e6 e7 e8]
theorem F.qR (k:Int) (kind:Int)  : F.nj k kind=some (!decide (k=kind)):=by
 rfl
theorem F.kq (xs:(List Int)) (k0:Int) (h_xs:Sm (Ty.sl (Ty.int .i64)) xs):F.gA xs k0=some (M.idx (t:=(Ty.int .i64)) (fun e=>!decide (e=k0)) xs):=by
 exact kf (t:=(Ty.int .i64)) (p:=(fun e=>!decide (e=k0))) (fun i h0 h1=>by simp only[F.cH,dx])
theorem F.jq (xs:(List Int)) (k0:Int) (h_xs:Sm (Ty.sl (Ty.int .i64)) xs):F.dA xs k0=some (List.any xs (fun e=>!decide (e=k0))):=by
 unfold F.dA
 exact gv (t:=(Ty.int .i64))
theorem F.ta (kind:Int) (ins:(List Int)) (h_ins:Sm (Ty.sl (Ty.int .i64)) ins):F.kD kind ins=some (List.all ins (fun k=>decide (k=kind))):=by
 unfold F.kD
 rw[List.all_eq_not_any_not]
theorem F.vG (p:az.D) (columns:LC) (inp:(List Int)) (h_p:Sm az p) (h_columns:Sm (Ty.sl ai) columns) (h_inp:Sm (Ty.sl (Ty.int .i64)) inp) (p0:M.mb p columns=true) (p1:(inp.length:Int)=M.takes p):F.mY p columns inp=some (M.cZ p columns inp):=by
 unfold F.mY M.cZ
 obtain⟨_,hc⟩:=zC p0
 by_cases e1:p.1=(1:Int)
 ·simp only[e1,decide_true,cond_true]
 by_cases e2:p.1=(2:Int)
 ·obtain⟨c0,c1⟩:=hc e2
  simp only[e2,decide_true,cond_true,Int.reduceEq,decide_false,cond_false]
  rw[aj c0,aj c1]
 by_cases e4:p.1=(4:Int)
 ·rw[kL (.inr (.inl e4))] at p1
  simp only[e4,decide_true,cond_true,Int.reduceEq,decide_false,cond_false]
  repeat rw[aj (by omega)]
 cases decide (p.1=(3:Int))<;>cases decide (p.1=(8:Int))<;>simp[e1,e2,e4]
theorem F.xb (columns:LC) (e:LPt) (h_columns:Sm (Ty.sl ai) columns) (h_e:Sm (Ty.sl az) e):F.ow columns e=some (M.bp columns e):=by
 unfold F.ow M.bp
 cases M.bN columns
 ·rfl
 by_cases hl:e.length<=12
 ·rw[decide_eq_false (show ¬(12:Int)<(e.length:Int) by omega),decide_eq_true hl]
  rw[tv e [] (by simp;omega)]
  cases M.iJ columns e [] with
  | none=>rfl
  | some s=>
   match s with
   | []=>rfl
   | [a]=>exact aj (by simp)
   | a::b::l=>
    have:¬((a::b::l).length:Int)=1:=by simp;omega
    simp only[this,decide_false]
    rfl
 ·rw[decide_eq_true (show (12:Int)<(e.length:Int) by omega),decide_eq_false hl]
  rfl
theorem F.tQ (s:ag.D) (h_s:Sm ag s):F.lR s=some (M.bJ s):=by
 unfold F.lR M.bJ M.two
 generalize decide (s.2.1=(0:Int))=a0
 generalize decide (s.2.2.1=(0:Int))=b0
 generalize decide (s.2.2.2.1=(0:Int))=n0
 generalize decide ((s.2.2.2.2.1.length:Int)=(0:Int))=e0
 generalize decide ((s.2.2.2.2.2.1.length:Int)=(0:Int))=l0
 by_cases h1:s.1=(1:Int)
 ·simp only[h1,Int.reduceEq,decide_true,decide_false]
  cases a0<;>cases b0<;>cases n0<;>cases e0<;>cases l0<;>rfl
 by_cases h2:s.1=(2:Int)
 ·simp only[h2,Int.reduceEq,decide_true,decide_false]
  cases a0<;>cases b0<;>cases n0<;>cases e0<;>cases l0<;>rfl
 by_cases h3:s.1=(3:Int)
 ·simp only[h3,Int.reduceEq,decide_true,decide_false]
  cases a0<;>cases b0<;>cases n0<;>cases e0<;>cases l0<;>rfl
 by_cases h4:s.1=(4:Int)
 ·simp only[h4,Int.reduceEq,decide_true,decide_false]
  cases a0<;>cases b0<;>cases n0<;>cases e0<;>cases l0<;>rfl
 by_cases h5:s.1=(5:Int)
 ·simp only[h5,Int.reduceEq,decide_true,decide_false]
  cases a0<;>cases b0<;>cases n0<;>cases e0<;>cases l0<;>rfl
 simp only[h1,h2,h3,h4,h5,decide_false]
 cases a0<;>cases b0<;>cases n0<;>cases e0<;>cases l0<;>rfl
theorem F.xV (n:Int) (p0:0<=n) (p1:n<=1099511627776):F.pY n=some ([]:List ai.D):=by
 unfold F.pY
 have e:wrap64 (n-wrap64 ((0:Int)-(0:Int)))=n:=by
  rw[show wrap64 ((0:Int)-(0:Int))=0 by decide,Int.sub_zero]
  exact aI (by omega) (by omega)
 rw[decide_eq_false (by omega),e]
 by_cases h:0<n
 ·rw[decide_eq_true h]
  simp only[cond_true,cond_false]
  rw[aj p0,aj (by unfold lim;omega)]
  rfl
 ·rw[decide_eq_false h]
  rfl
theorem F.uD (xss:LLC) (h_xss:Sm (Ty.sl (Ty.sl ai)) xss):F.nc xss=some (List.flatten xss):=by
 unfold F.nc
 exact M.qc (t:=ai) h_xss (fun z v h0 h1=>by
  unfold F.gN
  rw[aI (n:=v+(z.length:Int)) (by omega) (by omega),decide_eq_false (by omega)]
  rfl) (fun z v h1=>by
  unfold F.gR
  rw[aj (by unfold lim;omega)])
theorem F.wv (xs:LC) (h_xs:Sm (Ty.sl ai) xs):F.tj xs=some xs:=by
 exact M.sD (t:=ai)
theorem F.vj (s:ag.D) (tables:LTb) (ahead:(List aF.D)) (h_s:Sm ag s) (h_tables:Sm (Ty.sl aq) tables) (h_ahead:Sm (Ty.sl aF) ahead):F.ir s tables ahead=some (M.make s tables ahead):=by
 obtain⟨r,h1,_⟩:=vf h_s h_tables h_ahead
 unfold M.make
 rw[h1]
 rfl
theorem F.AW (tables:LTb) (plan:LS) (h_tables:Sm (Ty.sl aq) tables) (h_plan:Sm (Ty.sl ag) plan):F.mR tables plan=some (M.makes tables plan):=by
 obtain⟨r,h1,_⟩:=nX h_tables h_plan
 unfold M.makes
 rw[h1]
 rfl
theorem F.zb (tables:LTb) (plan:LS) (h_tables:Sm (Ty.sl aq) tables) (h_plan:Sm (Ty.sl ag) plan):F.si tables plan=some (M.aW tables plan):=by
 unfold F.si
 rw[bz]
 exact congrArg some (Ji h_tables h_plan)
theorem F.yB (xs:LV) (h_xs:Sm (Ty.sl aa) xs):F.uR xs=some xs:=by
 exact M.sD (t:=aa)
theorem F.wu (rows:LLV) (h_rows:Sm (Ty.sl (Ty.sl aa)) rows):F.oH rows=some rows:=by
 unfold F.oH
 rw[Ag (fun r=>r) (fun x hx s hs=>by
  have hl:=h_rows.1
  simp only[F.iE,bz,M.jg]
  rw[aj (by unfold lim;simp;omega)]),M.DM,bq,M.ia]
theorem F.yf (xs:LV) (ys:LV) (h_xs:Sm (Ty.sl aa) xs) (h_ys:Sm (Ty.sl aa) ys):F.ve xs ys=some (decide (xs=ys)):=by
 exact Je (t:=aa) (fun i h0 h1 h2=>by simp only[F.jk,aj h2,sw,dx,JP (t:=aa) rfl])
theorem F.yz (rows:LLV) (row:LV) (h_rows:Sm (Ty.sl (Ty.sl aa)) rows) (h_row:Sm (Ty.sl aa) row):F.pV rows row=some (M.fy rows row:Int):=by
 unfold F.pV M.fy
 have hl:=h_rows.1
 have key:∀(l:List (List aa.D)) (v:Int),0<=v->v+(l.length:Int)<=1048576->aQ (F.gw rows row) l v=some (.inl (v+(l.countP (fun r=>decide (r=row)):Int))):=by
  intro l
  induction l with
  | nil=>intro v _ _;show some (Sum.inl v)=some (Sum.inl (v+0));rw[Int.add_zero]
  | cons x l ih=>
   intro v h0 hb
   simp only[List.length_cons] at hb
   rw[bH,List.countP_cons,show F.gw rows row x v=cond (decide (x=row)) (some (.inl (wrap64 (v+(1:Int))))) (some (.inl v)) from rfl]
   cases decide (x=row) with
   | true=>
    rw[cond_true,aI (n:=v+(1:Int)) (by omega) (by omega),bq,ih _ (by omega) (by omega)]
    congr 2
    simp
    omega
   | false=>
    rw[cond_false,bq,ih _ h0 (by omega)]
    congr 2
 rw[key rows 0 (by omega) (by omega),bq,Int.zero_add]
theorem F.yh (rows:LLV) (row:LV) (h_rows:Sm (Ty.sl (Ty.sl aa)) rows) (h_row:Sm (Ty.sl aa) row):F.uT rows row=some (decide (0<(M.fy rows row:Int))):=by
 rfl
theorem F.xh (rows:LLV) (h_rows:Sm (Ty.sl (Ty.sl aa)) rows):F.ot rows=some (M.cX rows):=by
 unfold F.ot M.cX
 have hfold:=AY (f:=F.fX rows) rows h_rows (fun z v hz hv=>by
  unfold F.fX M.di
  have hl:=h_rows.1
  rw[aj hv.1]
  rw[show (!decide ((0:Int)<(M.fy v z:Int)))=decide ((M.fy v z:Int)=(0:Int)) by
   generalize M.fy v z=n
   by_cases h:n=0
   ·rw[decide_eq_false (by omega),decide_eq_true (by omega)];rfl
   ·rw[decide_eq_true (by omega),decide_eq_false (by omega)];rfl]
  cases decide ((M.fy v z:Int)=(0:Int)) with
  | false=>rfl
  | true=>
   simp only[cond_true]
   rw[aj (by have:=hv.2;unfold lim;simp;omega)])
 rw[hfold.1,bq,aj hfold.2,bz,M.ia]
theorem F.yu (n:Int) (p0:0<=n) (p1:n<=1099511627776):F.qw n=some ([]:List (Ty.sl aa).D):=by
 unfold F.qw
 have e:wrap64 (n-wrap64 ((0:Int)-(0:Int)))=n:=by
  rw[show wrap64 ((0:Int)-(0:Int))=0 by decide,Int.sub_zero]
  exact aI (by omega) (by omega)
 rw[decide_eq_false (by omega),e]
 by_cases h:0<n
 ·rw[decide_eq_true h]
  simp only[cond_true,cond_false]
  rw[aj p0,aj (by unfold lim;omega)]
  rfl
 ·rw[decide_eq_false h]
  rfl
theorem F.uB (xss:(List LLV)) (h_xss:Sm (Ty.sl (Ty.sl (Ty.sl aa))) xss):F.nh xss=some (List.flatten xss):=by
 unfold F.nh
 exact M.qc (t:=(Ty.sl aa)) h_xss (fun z v h0 h1=>by
  unfold F.gO
  rw[aI (n:=v+(z.length:Int)) (by omega) (by omega),decide_eq_false (by omega)]
  rfl) (fun z v h1=>by
  unfold F.gK
  rw[aj (by unfold lim;omega)])
theorem F.zd (n:Int) (p0:0<=n) (p1:n<=1099511627776):F.qU n=some ([]:List aa.D):=by
 unfold F.qU
 have e:wrap64 (n-wrap64 ((0:Int)-(0:Int)))=n:=by
  rw[show wrap64 ((0:Int)-(0:Int))=0 by decide,Int.sub_zero]
  exact aI (by omega) (by omega)
 rw[decide_eq_false (by omega),e]
 by_cases h:0<n
 ·rw[decide_eq_true h]
  simp only[cond_true,cond_false]
  rw[aj p0,aj (by unfold lim;omega)]
  rfl
 ·rw[decide_eq_false h]
  rfl
theorem F.xd (xss:LLV) (h_xss:Sm (Ty.sl (Ty.sl aa)) xss):F.oa xss=some (List.flatten xss):=by
 unfold F.oa
 exact M.qc (t:=aa) h_xss (fun z v h0 h1=>by
  unfold F.iC
  rw[aI (n:=v+(z.length:Int)) (by omega) (by omega),decide_eq_false (by omega)]
  rfl) (fun z v h1=>by
  unfold F.iH
  rw[aj (by unfold lim;omega)])
theorem F.yW (a:LV) (b:LV) (h_a:Sm (Ty.sl aa) a) (h_b:Sm (Ty.sl aa) b) (p0:a.length+b.length<=1048576):F.rJ a b=some (a++b):=by
 unfold F.rJ
 have h1:=h_a.1
 have h2:=h_b.1
 have hs:Sm (.sl aa) (a++b):=⟨by rw[List.length_append];omega,fun x hx=>by
  rcases List.mem_append.1 hx with h | h
  ·exact h_a.2 x h
  ·exact h_b.2 x h⟩
 rw[aj (show Sm (.sl (.sl aa)) [a,b] from⟨by simp,fun x hx=>by
  rcases List.mem_cons.1 hx with rfl | hx
  ·exact h_a
  ·cases List.mem_singleton.1 hx
   exact h_b⟩),bz,List.flatten_cons,List.flatten_cons,List.flatten_nil,List.append_nil,aj hs,bz,M.ia]
theorem F.yA (truth:Int)  : F.qs truth=some (M.valueOf truth):=by
 unfold F.qs M.valueOf
 cases M.inR truth 0 1<;>rfl
theorem F.Bb (vals:(List Int)) (h_vals:Sm (Ty.sl (Ty.int .i64)) vals):F.uu vals=some (M.orI vals):=by
 unfold F.uu
 suffices h:∀(A B:List Int),bD (aQ (F.iY A) B ()) (fun v0:Unit=>some (0:Int)) (fun q0:Int=>some q0)=some (M.orI B) from h vals vals
 intro A B
 induction B with
 | nil=>rfl
 | cons x l ih=>
  rw[bH]
  simp only[F.iY,M.orI]
  by_cases hx:x=0
  ·simp only[hx,decide_true,Bool.not_true,cond_false,cond_true,bq]
   exact ih
  ·simp[hx]
theorem F.wz (x:Int)  : F.oE x=some false:=by
 unfold F.oE
 simp
theorem F.uf (x:Int) (y:Int)  : F.lI x y=some (M.wA x y):=by
 unfold F.lI M.wA
 simp only[cond_false,dx]
theorem F.sX (x:ByteArray) (h_x:Sm Ty.str x):F.kK x=some false:=by
 unfold F.kK
 simp
theorem F.qQ (x:ByteArray) (y:ByteArray) (h_x:Sm Ty.str x) (h_y:Sm Ty.str y):F.js x y=some (M.Di x y):=by
 unfold F.js M.Di
 simp only[cond_false,dx]
theorem F.tc (v:aa.D) (w:aa.D) (h_v:Sm aa v) (h_w:Sm aa w):F.kH v w=some (M.order v w):=by
 unfold F.kH
 rw[aj ⟨by simp,fun _ _=>trivial⟩]
 rfl
theorem F.yy (b:Bool)  : F.pP b=some (M.bool b):=by
 unfold F.pP M.bool
 rw[dx]
theorem F.ym (kind:Int) (a:aa.D) (b:aa.D) (h_a:Sm aa a) (h_b:Sm aa b):F.qo kind a b=some (M.compare kind a b):=by
 unfold F.qo M.compare M.El
 cases hk:M.inR kind 1 4
 ·rfl
 cases M.aX a
 ·rfl
 cases M.aX b
 ·rfl
 have h4:decide (kind=1)=false->decide (kind=2)=false->decide (kind=3)=false->decide (kind=4)=true:=by
  unfold M.inR at hk
  simp at hk ⊢
  omega
 cases decide (a.1=(0:Int))<;>cases decide (b.1=(0:Int))<;>cases decide (a.1=b.1)<;>cases h1:decide (kind=1)<;>cases h2:decide (kind=2)<;>cases h3:decide (kind=3)<;>(try rw[h4 h1 h2 h3])<;>cases decide (M.order a b=0)<;>cases decide (M.order a b<0)<;>rfl
theorem F.xZ (n:Int)  : F.uJ n=some (M.inR n 0 2):=by
 rfl
theorem F.CN (a:Int) (b:Int) (alone:Int) (p0:0<=alone/\alone<=1):F.vQ a b alone=some (M.fold a b alone):=by
 unfold F.vQ M.fold
 rw[aI (n:=1-alone) (by omega) (by omega)]
 cases M.inR a 0 2
 ·rfl
 cases M.inR b 0 2
 ·rfl
 cases decide (a=alone)<;>cases decide (b=alone)<;>cases decide (a=2)<;>cases decide (b=2)<;>rfl
theorem F.AT (a:Int) (b:Int)  : F.uk a b=some (M.tr a b):=by
 unfold F.uk M.tr
 rw[aj (by decide)]
theorem F.yp (v:aa.D) (h_v:Sm aa v):F.qG v=some (M.dj v):=by
 unfold F.qG M.dj
 cases M.aX v<;>simp only[Bool.not_true,Bool.not_false,cond_true,cond_false,dx]
theorem F.CC (a:Int) (b:Int)  : F.wU a b=some (M.GY a b):=by
 unfold F.wU M.GY
 rw[aj (by decide)]
theorem F.AD (a:Int)  : F.tC a=some (M.BI a):=by
 unfold F.tC M.BI
 simp only[dx]
theorem F.tL (p:az.D) (row:LV) (inp:LV) (h_p:Sm az p) (h_row:Sm (Ty.sl aa) row) (h_inp:Sm (Ty.sl aa) inp) (p0:(inp.length:Int)=M.takes p) (p1:M.xl p row.length) (p2:1<=p.1/\p.1<=8):F.lK p row inp=some (M.fu p row inp):=by
 unfold F.lK M.fu
 have hz:(((0:Int),(0:Int),(⟨#[]⟩:ByteArray),()):aa.D)=M.zeroV:=rfl
 by_cases e1:p.1=(1:Int)
 ·simp only[e1,decide_true,cond_true]
 by_cases e2:p.1=(2:Int)
 ·obtain⟨c0,c1⟩:=p1 e2
  simp only[e2,decide_true,cond_true,Int.reduceEq,decide_false,cond_false]
  rw[aj c0,aj c1]
 by_cases e3:p.1=(3:Int)
 ·rw[kL (.inl e3)] at p0
  simp only[e3,decide_true,cond_true,Int.reduceEq,decide_false,cond_false]
  repeat rw[aj (by omega)]
  generalize nth (t:=aa) inp 0=a
  generalize nth (t:=aa) inp 1=b
  unfold M.sum
  have hv:M.aX ((1:Int),wrap64 (a.2.1+b.2.1),(⟨#[]⟩:ByteArray),())=M.inR (wrap64 (a.2.1+b.2.1)) (-9999) 9999:=by unfold M.aX;simp
  rw[hv]
  cases decide (a.1=(0:Int))<;>cases decide (b.1=(0:Int))<;>cases M.inR (wrap64 (a.2.1+b.2.1)) (-9999) 9999<;>rfl
 by_cases e4:p.1=(4:Int)
 ·rw[kL (.inr (.inl e4))] at p0
  simp only[e4,decide_true,cond_true,Int.reduceEq,decide_false,cond_false,bz]
  repeat rw[aj (by omega)]
 by_cases e5:p.1=(5:Int)
 ·rw[kL (.inr (.inr (.inl e5)))] at p0
  simp only[e5,decide_true,cond_true,Int.reduceEq,decide_false,cond_false,bz]
  repeat rw[aj (by omega)]
 by_cases e6:p.1=(6:Int)
 ·rw[kL (.inr (.inr (.inr e6)))] at p0
  simp only[e6,decide_true,cond_true,Int.reduceEq,decide_false,cond_false,bz]
  repeat rw[aj (by omega)]
 by_cases e7:p.1=(7:Int)
 ·rw[sK (.inl e7)] at p0
  simp only[e7,decide_true,cond_true,Int.reduceEq,decide_false,cond_false,bz]
  repeat rw[aj (by omega)]
 ·simp only[e1,e2,e3,e4,e5,e6,e7,decide_false,cond_false,bz]
  have e8:p.1=(8:Int):=by
   rcases JA p2 with h | h | h | h | h | h | h | h<;>first | exact h | exact absurd h (by assumption)
  rw[sK (.inr e8)] at p0
  rw[aj (by omega)]
theorem F.vF (row:LV) (e:LPt) (h_row:Sm (Ty.sl aa) row) (h_e:Sm (Ty.sl az) e) (p0:M.gy row.length e):F.mK row e=some (M.dM row e):=by
 unfold F.mK M.dM
 obtain⟨h1,h2⟩:=DP (f:=F.ez row e) h_row (fun p st hp hs hl h1 hk hc=>AL p st hp hs hl h1 hk hc) e [] h_e.2 (kF aa) (by simp;have:=p0.1;omega) p0.2
 rw[h1,bq,aj (by omega)]
theorem F.uO (row:LV) (e:LPt) (h_row:Sm (Ty.sl aa) row) (h_e:Sm (Ty.sl az) e) (p0:M.gy row.length e):F.so row e=some (M.holds row e):=by
 rfl
theorem F.Bk (row:LV) (list:(List Int)) (h_row:Sm (Ty.sl aa) row) (h_list:Sm (Ty.sl (Ty.int .i64)) list) (p0:M.BD row list):F.tW row list=some (M.taken row list):=by
 unfold F.tW
 rw[Ag (fun i=>nth (t:=aa) row i) (fun x hx s hs=>by
  have hl:=h_list.1
  obtain⟨h0,h1⟩:=p0 x hx
  simp only[F.kV]
  rw[aj h0,aj h1,aj (by unfold lim;simp;omega)])]
 show af (Sm (.sl aa) (M.taken row list)) (aH (M.taken row list) fun r:List aa.D=>some (ah r (some ((0:Int),(r.length:Int)))))=_
 rw[aj (M.HW h_row h_list)]
 simp only[bz,M.jg]
theorem F.uY (s:ag.D) (tables:LTb) (ahead:(List LLV)) (h_s:Sm ag s) (h_tables:Sm (Ty.sl aq) tables) (h_ahead:Sm (Ty.sl (Ty.sl (Ty.sl aa))) ahead) (p0:M.sO tables ahead s):F.mQ s tables ahead=some (M.bt tables ahead s):=by
 obtain⟨r1,rin,rfew,r2,r3,r4⟩:=p0
 unfold F.mQ M.bt
 by_cases h1:s.1=(1:Int)
 ·obtain⟨n0,n1⟩:=r1 h1
  have hsm:=(aO h_tables s.2.2.2.1).2.1
  have hl:=hsm.1
  simp only[h1,decide_true,cond_true]
  rw[aj n0,aj n1]
 obtain⟨⟨a0,a1⟩,⟨b0,b1⟩⟩:=rin h1
 obtain⟨fa,fb⟩:=rfew h1
 have ha:=fa.1
 have hb:=fb.1
 have sa:Sm (.sl (.sl aa)) (nth (t:=.sl (.sl aa)) ahead s.2.1):=aO h_ahead _
 have sb:Sm (.sl (.sl aa)) (nth (t:=.sl (.sl aa)) ahead s.2.2.1):=aO h_ahead _
 by_cases h2:s.1=(2:Int)
 ·simp only[h2,decide_true,cond_true,Int.reduceEq,decide_false,cond_false]
  rw[aj a0,aj a1,wF (fun x:List aa.D=>cond (M.holds x s.2.2.2.2.1) [x] []) (nth (t:=.sl (.sl aa)) ahead s.2.1) 1 (fun x _=>by cases M.holds x s.2.2.2.2.1<;>simp) [] (fun x hx v hv=>by
   unfold F.gL
   rw[aj (r2 h2 _ hx)]
   cases M.holds x s.2.2.2.2.1
   ·rw[cond_false,cond_false,List.append_nil]
   ·rw[cond_true,cond_true,aj (by simp at hv;unfold lim;simp;omega)]),xD]
  rfl
 by_cases h3:s.1=(3:Int)
 ·simp only[h3,decide_true,cond_true,Int.reduceEq,decide_false,cond_false]
  rw[aj a0,aj a1,wF (fun x:List aa.D=>[M.taken x s.2.2.2.2.2.1]) (nth (t:=.sl (.sl aa)) ahead s.2.1) 1 (fun x _=>Nat.le_refl _) [] (fun x hx v hv=>by
   unfold F.gJ
   rw[aj (r3 h3 _ hx),bz,aj (by simp at hv;unfold lim;simp;omega)]),DQ]
  rfl
 by_cases h4:s.1=(4:Int)
 ·simp only[h4,decide_true,cond_true,Int.reduceEq,decide_false,cond_false]
  rw[aj a0,aj a1,FN (t:=.sl aa) (fun r=>M.joined s.2.2.2.2.1 r (nth (t:=.sl (.sl aa)) ahead s.2.2.1)) (nth (t:=.sl (.sl aa)) ahead s.2.1) ((nth (t:=.sl (.sl aa)) ahead s.2.2.1):List (List aa.D)).length (fun r _=>M.za _ _ _) [] (fun i v i0 i1 hv=>by
   have hv9:v.length<=300 * 300:=Nat.le_trans (by simpa using hv) (Nat.mul_le_mul ha hb)
   have hrm:=jG (t:=.sl aa) i0 i1
   unfold F.gH
   rw[aj b0,aj b1,wF (fun q:List aa.D=>cond (M.holds (nth (t:=.sl aa) (nth (t:=.sl (.sl aa)) ahead s.2.1) i++q:List aa.D) s.2.2.2.2.1) [(nth (t:=.sl aa) (nth (t:=.sl (.sl aa)) ahead s.2.1) i++q:List aa.D)] []) (nth (t:=.sl (.sl aa)) ahead s.2.2.1) 1 (fun q _=>by cases M.holds (nth (t:=.sl aa) (nth (t:=.sl (.sl aa)) ahead s.2.1) i++q:List aa.D) s.2.2.2.2.1<;>simp) v (fun q hqm w hw=>by
    have l1:=fa.2 _ hrm
    have l2:=fb.2 _ hqm
    unfold F.gP
    rw[aj (show (nth (t:=.sl aa) (nth (t:=.sl (.sl aa)) ahead s.2.1) i:List aa.D).length+q.length<=1048576 by omega),bz]
    simp only[M.jg]
    rw[aj (show Sm (.sl aa) (nth (t:=.sl aa) (nth (t:=.sl (.sl aa)) ahead s.2.1) i++q) from⟨by rw[List.length_append];omega,fun x hx=>(List.mem_append.1 hx).elim ((sa.2 _ hrm).2 x) ((sb.2 _ hqm).2 x)⟩),aj (r4 h4 _ hrm _ hqm)]
    cases M.holds (nth (t:=.sl aa) (nth (t:=.sl (.sl aa)) ahead s.2.1) i++q:List aa.D) s.2.2.2.2.1
    ·rw[cond_false,cond_false,List.append_nil]
    ·rw[cond_true,cond_true,aj (by simp at hw;unfold lim;simp;omega)]),xK]
   rfl)]
  rfl
 by_cases h5:s.1=(5:Int)
 ·simp only[h5,decide_true,cond_true,Int.reduceEq,decide_false,cond_false]
  rw[aj a0,aj a1,aj b0,aj b1,aj (show Sm (.sl (.sl (.sl aa))) [(nth (t:=.sl (.sl aa)) ahead s.2.1),(nth (t:=.sl (.sl aa)) ahead s.2.2.1)] from⟨by simp,fun x hx=>by
   rcases List.mem_cons.1 hx with rfl | hx
   ·exact sa
   ·cases List.mem_singleton.1 hx
    exact sb⟩)]
  simp only[bz,List.flatten_cons,List.flatten_nil,List.append_nil,M.jg,M.ia]
 by_cases h6:s.1=(6:Int)
 ·simp only[h6,decide_true,cond_true,Int.reduceEq,decide_false,cond_false]
  rw[aj a0,aj a1]
  simp only[bz,M.jg,M.ia]
 simp only[h1,h2,h3,h4,h5,h6,decide_false,cond_false]
theorem F.wj (tables:LTb) (plan:LS) (h_tables:Sm (Ty.sl aq) tables) (h_plan:Sm (Ty.sl ag) plan) (p0:M.aW tables plan=true):F.oh tables plan=some (M.bT tables plan):=by
 unfold F.oh M.bT
 rw[p0,cond_true]
 have hl:=h_plan.1
 have hpos:=(M.dX p0).1
 obtain⟨h1,h2⟩:=GQ (f:=F.ga tables plan) h_tables h_plan p0 (fun z v h1 h2 h3=>by
  unfold F.ga M.eT
  rw[aj h1,aj h2,bz,aj (by unfold lim;simp;omega)])
 obtain⟨st,_,hR⟩:=EC h_tables h_plan p0
 have hsm:=Cw hR (by show (plan.foldl (M.eT tables) []).length<=1048576;rw[h2];exact hl)
 rw[h1,bq,h2,fQ _ hl,aj (by omega),aj (by omega),show plan.foldl (M.eT tables) []=M.aZ tables plan from rfl,aj (aO hsm _),bz,M.ia]
theorem F.wR (tables:LTb) (plan:LS) (h_tables:Sm (Ty.sl aq) tables) (h_plan:Sm (Ty.sl ag) plan):F.oc tables plan=some (M.bT tables plan):=by
 unfold F.oc
 cases hp:M.aW tables plan
 ·unfold M.bT
  rw[hp]
  rfl
 ·simp only[Bool.not_true,cond_false,bz,M.ia]
theorem F.yl (v:aa.D) (h_v:Sm aa v):F.vk v=some (M.aX v):=by
 rfl
theorem F.Be   : F.tG  = some true:=by
 unfold F.tG
 rw[show M.aX ((1:Int),((3:Int),((⟨#[]⟩:ByteArray),())))=true from rfl,show M.aX ((9:Int),((0:Int),((⟨#[]⟩:ByteArray),())))=false from rfl]
 rfl
theorem F.uH (b:(List Int)) (p:Int) (n:Int) (h_b:Sm (Ty.sl (Ty.int .u8)) b) (p0:M.ay b) (p1:0<=p) (p2:p<=1000000000000000):ok (F.oR b p n) (fun r=>0<=r.1/\(1<=n->r.1<n)/\(n<1->r.1=0)/\r.2=p+1):=by
 unfold F.oR
 have hw:wrap64 (p+1)=p+1:=aI (by omega) (by omega)
 have hw2:wrap64 (p+1-1)=p:=by rw[show p+1-1=p by omega];exact aI (by omega) (by omega)
 simp only[hw,hw2]
 refine KW (fun c0=>?_) (fun c0=>?_)
 ·refine okD (fun c1=>?_) (fun c1=>?_)
  ·exact okS ⟨by dsimp only;omega,fun h=>by dsimp only;omega,fun h=>rfl,rfl⟩
  ·have hl:1<=(b.length:Int):=by omega
   refine okD (fun c2=>?_) (fun c2=>?_)
   ·refine okG (okG (okG (okS ?_)))
    have:=M.GK (M.wZ p0 p) (n:=n) (by omega)
    exact⟨this.1,fun _=>this.2,fun h=>by omega,rfl⟩
   ·obtain⟨t0,t1⟩:=M.sM p1 hl
    have h7:wrap64 (wrap64 (p * 7)+3)=p * 7+3:=by rw[aI (n:=p * 7) (by omega) (by omega),aI (by omega) (by omega)]
    obtain⟨t2,t3⟩:=M.sM (a:=p * 7+3) (by omega) hl
    rw[h7]
    refine okG (okG (okG (okG (okG (okG (okS ?_))))))
    have:=M.Iw (M.wZ p0 (p.tmod (b.length:Int))) (M.wZ p0 ((p * 7+3).tmod (b.length:Int))) p1 p2 (M.FZ p1 hl) (n:=n) (by omega)
    exact⟨this.1,fun _=>this.2,fun h=>by omega,rfl⟩
 ·exact okS ⟨by dsimp only;omega,fun h=>by omega,fun h=>rfl,rfl⟩
theorem F.Cm (b:(List Int)) (p:Int) (n:Int) (h_b:Sm (Ty.sl (Ty.int .u8)) b) (p0:M.ay b) (p1:0<=p) (p2:p<=1000000000000000):F.oR b p n=some (M.pick b p n):=gq (F.uH b p n h_b p0 p1 p2)
theorem M.GS (b:(List Int)) (p:Int) (n:Int) (h_b:Sm (Ty.sl (Ty.int .u8)) b) (p0:M.ay b) (p1:0<=p) (p2:p<=1000000000000000):0<=(M.pick b p n).1/\(1<=n->(M.pick b p n).1<n)/\(n<1->(M.pick b p n).1=0)/\(M.pick b p n).2=p+1:=gn (F.uH b p n h_b p0 p1 p2)
theorem aA {α:Type} {K:α->Prop} {f:Int×Int->Option α} {b:(List Int)} {p:Int} {n:Int} (k:∀r,(0<=r.1)->(1<=n->r.1<n)->(n<1->r.1=0)->(r.2=p+1)->ok (f r) K) (h_b:Sm (Ty.sl (Ty.int .u8)) b:=by exact au) (p0:M.ay b:=by exact au) (p1:0<=p:=by exact au) (p2:p<=1000000000000000:=by exact au):ok (aH (M.pick b p n) f) K:=by
 have h:=M.GS b p n h_b p0 p1 p2
 obtain⟨h0,h1,h2,h3⟩:=h
 exact k _ h0 h1 h2 h3
theorem F.xE (b:(List Int)) (p:Int) (n:Int) (h_b:Sm (Ty.sl (Ty.int .u8)) b) (p0:M.ay b) (p1:0<=p) (p2:p<=999000000000000):ok (F.rW b p n) (fun r=>(n<1->r.1=false)/\p<=r.2/\r.2<=p+1):=by
  unfold F.rW
  refine Fp (fun c_0=>?_) (fun c_0=>?_)
  ·refine okG ?_
   refine aA fun r1 h_1_5_0 h_1_5_1 h_1_5_2 h_1_5_3=>?_
   exact sU
  ·exact sU
theorem F.Dz (b:(List Int)) (p:Int) (n:Int) (h_b:Sm (Ty.sl (Ty.int .u8)) b) (p0:M.ay b) (p1:0<=p) (p2:p<=999000000000000):F.rW b p n=some (M.odd b p n):=gq (F.xE b p n h_b p0 p1 p2)
theorem M.IS (b:(List Int)) (p:Int) (n:Int) (h_b:Sm (Ty.sl (Ty.int .u8)) b) (p0:M.ay b) (p1:0<=p) (p2:p<=999000000000000):(n<1->(M.odd b p n).1=false)/\p<=(M.odd b p n).2/\(M.odd b p n).2<=p+1:=gn (F.xE b p n h_b p0 p1 p2)
theorem cQ {α:Type} {K:α->Prop} {f:Bool×Int->Option α} {b:(List Int)} {p:Int} {n:Int} (k:∀r,(n<1->r.1=false)->(p<=r.2)->(r.2<=p+1)->ok (f r) K) (h_b:Sm (Ty.sl (Ty.int .u8)) b:=by exact au) (p0:M.ay b:=by exact au) (p1:0<=p:=by exact au) (p2:p<=999000000000000:=by exact au):ok (aH (M.odd b p n) f) K:=by
 have h:=M.IS b p n h_b p0 p1 p2
 obtain⟨h0,h1,h2⟩:=h
 exact k _ h0 h1 h2
theorem F.mZ (b:(List Int)) (p:Int) (n:Int) (h_b:Sm (Ty.sl (Ty.int .u8)) b) (p0:M.ay b) (p1:0<=p) (p2:p<=998000000000000):ok (F.gz b p n) (fun r=>1<=r.1.length/\r.1.length<=6/\p<=r.2/\r.2<=p+20):=by
  unfold F.gz
  refine okG ?_
  refine aA fun r1 h_2_1_0 h_2_1_1 h_2_1_2 h_2_1_3=>?_
  refine okB (A:=fun e0=>p<=e0.1/\e0.1<=p+10/\1<=e0.2.length/\e0.2.length<=3) ?_ (fun e0 h_e0=>?_)
  ·refine okW (fun(k:Nat) (v0:Int×Int×LC)=>0<=v0.1/\v0.1<=(k:Int)/\(v0.2.2.length:Int)+v0.1<=3/\1<=(v0.2.2.length:Int)+v0.1/\p<=v0.2.1/\v0.2.1+2 * v0.1<=p+10) (fun k v0 hI=>?_) (3:Nat) _ ⟨au,au,au,au,au,au⟩
   obtain⟨i_0,i_1,i_2,i_3,i_4,i_5⟩:=hI
   unfold F.gj
   refine okD (fun c_0=>?_) (fun c_0=>?_)
   ·refine okG ?_
    refine okG ?_
    refine okG ?_
    refine aA fun r2 h_5_3_0 h_5_3_1 h_5_3_2 h_5_3_3=>?_
    refine okG ?_
    refine okG ?_
    refine okG ?_
    refine okG ?_
    refine aA fun r3 h_5_7_0 h_5_7_1 h_5_7_2 h_5_7_3=>?_
    refine okG ?_
    exact fq ⟨k-1,by omega,au,au,au,au,au,au⟩
   ·exact dG ⟨au,au,au,au⟩
  ·obtain⟨e0_0,e0_1,e0_2,e0_3⟩:=h_e0
   refine okG ?_
   refine okG ?_
   refine cQ fun r4 h_6_2_0 h_6_2_1 h_6_2_2=>?_
   refine okC (fun c_1=>?_) (fun c_1=>?_)
   ·refine okG ?_
    refine okG ?_
    refine aA fun r5 h_7_2_0 h_7_2_1 h_7_2_2 h_7_2_3=>?_
    refine okG ?_
    exact ua
   ·exact ua
theorem F.tV (b:(List Int)) (p:Int) (n:Int) (h_b:Sm (Ty.sl (Ty.int .u8)) b) (p0:M.ay b) (p1:0<=p) (p2:p<=998000000000000):F.gz b p n=some (M.gp b p n):=gq (F.mZ b p n h_b p0 p1 p2)
theorem M.yc (b:(List Int)) (p:Int) (n:Int) (h_b:Sm (Ty.sl (Ty.int .u8)) b) (p0:M.ay b) (p1:0<=p) (p2:p<=998000000000000):1<=(M.gp b p n).1.length/\(M.gp b p n).1.length<=6/\p<=(M.gp b p n).2/\(M.gp b p n).2<=p+20:=gn (F.mZ b p n h_b p0 p1 p2)
theorem tf {α:Type} {K:α->Prop} {f:LC×Int->Option α} {b:(List Int)} {p:Int} {n:Int} (k:∀r,(1<=r.1.length)->(r.1.length<=6)->(p<=r.2)->(r.2<=p+20)->ok (f r) K) (h_b:Sm (Ty.sl (Ty.int .u8)) b:=by exact au) (p0:M.ay b:=by exact au) (p1:0<=p:=by exact au) (p2:p<=998000000000000:=by exact au):ok (aH (M.gp b p n) f) K:=by
 have h:=M.yc b p n h_b p0 p1 p2
 obtain⟨h0,h1,h2,h3⟩:=h
 exact k _ h0 h1 h2 h3
theorem F.qJ (b:(List Int)) (p:Int) (c:ai.D) (h_b:Sm (Ty.sl (Ty.int .u8)) b) (p0:M.ay b) (p1:0<=p) (p2:p<=998000000000000):ok (F.kg b p c) (fun r=>r.1.2.2.1.size<=20/\p<=r.2/\r.2<=p+3):=by
  unfold F.kg
  refine okC (fun c_0=>?_) (fun c_0=>?_)
  ·refine okG ?_
   refine aA fun r1 h_1_4_0 h_1_4_1 h_1_4_2 h_1_4_3=>?_
   refine okD (fun c_1=>?_) (fun c_1=>?_)
   ·exact sU
   ·refine okD (fun c_2=>?_) (fun c_2=>?_)
    ·refine okG ?_
     refine okG ?_
     refine aA fun r2 h_5_1_0 h_5_1_1 h_5_1_2 h_5_1_3=>?_
     exact sU
    ·refine okD (fun c_3=>?_) (fun c_3=>?_)
     ·refine okG ?_
      refine okG ?_
      refine aA fun r3 h_7_2_0 h_7_2_1 h_7_2_2 h_7_2_3=>?_
      refine okG ?_
      refine okG ?_
      exact sU
     ·refine okG ?_
      refine okG ?_
      refine aA fun r4 h_8_1_0 h_8_1_1 h_8_1_2 h_8_1_3=>?_
      exact sU
  ·refine okD (fun c_4=>?_) (fun c_4=>?_)
   ·refine okG ?_
    refine aA fun r2 h_5_1_0 h_5_1_1 h_5_1_2 h_5_1_3=>?_
    exact sU
   ·refine okD (fun c_5=>?_) (fun c_5=>?_)
    ·refine okG ?_
     refine aA fun r3 h_7_2_0 h_7_2_1 h_7_2_2 h_7_2_3=>?_
     refine okG ?_
     refine okG ?_
     exact sU
    ·refine okG ?_
     refine aA fun r4 h_8_1_0 h_8_1_1 h_8_1_2 h_8_1_3=>?_
     exact sU
theorem F.yj (b:(List Int)) (p:Int) (c:ai.D) (h_b:Sm (Ty.sl (Ty.int .u8)) b) (p0:M.ay b) (p1:0<=p) (p2:p<=998000000000000):F.kg b p c=some (M.kU b p c):=gq (F.qJ b p c h_b p0 p1 p2)
theorem M.CL (b:(List Int)) (p:Int) (c:ai.D) (h_b:Sm (Ty.sl (Ty.int .u8)) b) (p0:M.ay b) (p1:0<=p) (p2:p<=998000000000000):(M.kU b p c).1.2.2.1.size<=20/\p<=(M.kU b p c).2/\(M.kU b p c).2<=p+3:=gn (F.qJ b p c h_b p0 p1 p2)
theorem pn {α:Type} {K:α->Prop} {f:aa.D×Int->Option α} {b:(List Int)} {p:Int} {c:ai.D} (k:∀r,(r.1.2.2.1.size<=20)->(p<=r.2)->(r.2<=p+3)->ok (f r) K) (h_b:Sm (Ty.sl (Ty.int .u8)) b:=by exact au) (p0:M.ay b:=by exact au) (p1:0<=p:=by exact au) (p2:p<=998000000000000:=by exact au):ok (aH (M.kU b p c) f) K:=by
 have h:=M.CL b p c h_b p0 p1 p2
 obtain⟨h0,h1,h2⟩:=h
 exact k _ h0 h1 h2
theorem F.oZ (b:(List Int)) (p:Int) (n:Int) (h_b:Sm (Ty.sl (Ty.int .u8)) b) (p0:M.ay b) (p1:0<=p) (p2:p<=998000000000000):ok (F.jb b p n) (fun r=>r.1.2.2.1.size<=20/\p<=r.2/\r.2<=p+20):=by
  unfold F.jb
  refine okG ?_
  refine aA fun r1 h_2_1_0 h_2_1_1 h_2_1_2 h_2_1_3=>?_
  refine okB (A:=fun e0=>p<=e0.1/\e0.1<=p+12/\e0.2.2.2.size<=3) ?_ (fun e0 h_e0=>?_)
  ·refine okW (fun(_:Nat) (_:Unit)=>True) (fun _ v0 _=>?_) 0 _ trivial
   unfold F.iL
   refine okD (fun c_1=>?_) (fun c_1=>?_)
   ·exact dG ⟨au,au,au⟩
   ·refine okD (fun c_2=>?_) (fun c_2=>?_)
    ·refine okG ?_
     refine okG ?_
     refine okG ?_
     refine aA fun r2 h_8_1_0 h_8_1_1 h_8_1_2 h_8_1_3=>?_
     refine okG ?_
     refine okG ?_
     refine aA fun r3 h_9_1_0 h_9_1_1 h_9_1_2 h_9_1_3=>?_
     refine okD (fun c_3=>?_) (fun c_3=>?_)
     ·refine okG ?_
      refine okG ?_
      refine aA fun r4 h_10_2_0 h_10_2_1 h_10_2_2 h_10_2_3=>?_
      refine okG ?_
      refine okG ?_
      exact dG ⟨au,au,au⟩
     ·exact dG ⟨au,au,au⟩
    ·refine okD (fun c_4=>?_) (fun c_4=>?_)
     ·refine okG ?_
      refine okG ?_
      refine okG ?_
      refine aA fun r2 h_8_1_0 h_8_1_1 h_8_1_2 h_8_1_3=>?_
      refine okG ?_
      refine okG ?_
      refine aA fun r3 h_9_1_0 h_9_1_1 h_9_1_2 h_9_1_3=>?_
      refine okD (fun c_5=>?_) (fun c_5=>?_)
      ·refine okG ?_
       refine okG ?_
       refine aA fun r4 h_10_2_0 h_10_2_1 h_10_2_2 h_10_2_3=>?_
       refine okG ?_
       refine okG ?_
       exact dG ⟨au,au,au⟩
      ·exact dG ⟨au,au,au⟩
     ·refine okD (fun c_6=>?_) (fun c_6=>?_)
      ·refine okG ?_
       refine okG ?_
       refine okG ?_
       refine aA fun r2 h_8_1_0 h_8_1_1 h_8_1_2 h_8_1_3=>?_
       refine okG ?_
       refine okG ?_
       refine aA fun r3 h_9_1_0 h_9_1_1 h_9_1_2 h_9_1_3=>?_
       refine okD (fun c_7=>?_) (fun c_7=>?_)
       ·refine okG ?_
        refine okG ?_
        refine aA fun r4 h_10_2_0 h_10_2_1 h_10_2_2 h_10_2_3=>?_
        refine okG ?_
        refine okG ?_
        exact dG ⟨au,au,au⟩
       ·exact dG ⟨au,au,au⟩
      ·refine okD (fun c_8=>?_) (fun c_8=>?_)
       ·refine okG ?_
        refine okG ?_
        refine okG ?_
        refine aA fun r5 h_14_1_0 h_14_1_1 h_14_1_2 h_14_1_3=>?_
        refine okB (A:=fun e1=>p<=e1.1/\e1.1<=p+8/\e1.2.size<=3) ?_ (fun e1 h_e1=>?_)
        ·refine okW (fun(k:Nat) (v1:Int×Int×ByteArray)=>0<=v1.1/\v1.1<=(k:Int)/\(v1.2.2.size:Int)+v1.1<=3/\p<=v1.2.1/\v1.2.1+v1.1<=p+8) (fun k v1 hI=>?_) (3:Nat) _ ⟨au,au,au,au,au⟩
         obtain⟨i_0,i_1,i_2,i_3,i_4⟩:=hI
         unfold F.eY
         refine okD (fun c_0=>?_) (fun c_0=>?_)
         ·refine okG ?_
          refine okG ?_
          refine okG ?_
          refine aA fun r6 h_17_3_0 h_17_3_1 h_17_3_2 h_17_3_3=>?_
          refine okG ?_
          exact fq ⟨k-1,by omega,au,au,au,au,au⟩
         ·exact dG ⟨au,au,au⟩
        ·obtain⟨e1_0,e1_1,e1_2⟩:=h_e1
         exact dG ⟨au,au,au⟩
       ·refine okD (fun c_9=>?_) (fun c_9=>?_)
        ·refine okG ?_
         refine okG ?_
         refine okG ?_
         refine aA fun r5 h_14_1_0 h_14_1_1 h_14_1_2 h_14_1_3=>?_
         refine okB (A:=fun e1=>p<=e1.1/\e1.1<=p+8/\e1.2.size<=3) ?_ (fun e1 h_e1=>?_)
         ·refine okW (fun(k:Nat) (v1:Int×Int×ByteArray)=>0<=v1.1/\v1.1<=(k:Int)/\(v1.2.2.size:Int)+v1.1<=3/\p<=v1.2.1/\v1.2.1+v1.1<=p+8) (fun k v1 hI=>?_) (3:Nat) _ ⟨au,au,au,au,au⟩
          obtain⟨i_0,i_1,i_2,i_3,i_4⟩:=hI
          unfold F.eY
          refine okD (fun c_0=>?_) (fun c_0=>?_)
          ·refine okG ?_
           refine okG ?_
           refine okG ?_
           refine aA fun r6 h_17_3_0 h_17_3_1 h_17_3_2 h_17_3_3=>?_
           refine okG ?_
           exact fq ⟨k-1,by omega,au,au,au,au,au⟩
          ·exact dG ⟨au,au,au⟩
         ·obtain⟨e1_0,e1_1,e1_2⟩:=h_e1
          exact dG ⟨au,au,au⟩
        ·refine okG ?_
         refine okG ?_
         refine okG ?_
         refine aA fun r7 h_3_1_0 h_3_1_1 h_3_1_2 h_3_1_3=>?_
         exact dG ⟨au,au,au⟩
  ·obtain⟨e0_0,e0_1,e0_2⟩:=h_e0
   refine okG ?_
   refine okG ?_
   refine cQ fun r8 h_18_2_0 h_18_2_1 h_18_2_2=>?_
   refine okC (fun c_10=>?_) (fun c_10=>?_)
   ·refine okG ?_
    refine okG ?_
    refine aA fun r9 h_19_1_0 h_19_1_1 h_19_1_2 h_19_1_3=>?_
    refine okD (fun c_11=>?_) (fun c_11=>?_)
    ·exact sU
    ·refine okD (fun c_12=>?_) (fun c_12=>?_)
     ·refine okG ?_
      exact sU
     ·refine okD (fun c_13=>?_) (fun c_13=>?_)
      ·refine okG ?_
       refine okG ?_
       refine aA fun r10 h_26_1_0 h_26_1_1 h_26_1_2 h_26_1_3=>?_
       exact sU
      ·refine okG ?_
       exact sU
   ·exact sU
theorem F.wX (b:(List Int)) (p:Int) (n:Int) (h_b:Sm (Ty.sl (Ty.int .u8)) b) (p0:M.ay b) (p1:0<=p) (p2:p<=998000000000000):F.jb b p n=some (M.fC b p n):=gq (F.oZ b p n h_b p0 p1 p2)
theorem M.AJ (b:(List Int)) (p:Int) (n:Int) (h_b:Sm (Ty.sl (Ty.int .u8)) b) (p0:M.ay b) (p1:0<=p) (p2:p<=998000000000000):(M.fC b p n).1.2.2.1.size<=20/\p<=(M.fC b p n).2/\(M.fC b p n).2<=p+20:=gn (F.oZ b p n h_b p0 p1 p2)
theorem gI {α:Type} {K:α->Prop} {f:aa.D×Int->Option α} {b:(List Int)} {p:Int} {n:Int} (k:∀r,(r.1.2.2.1.size<=20)->(p<=r.2)->(r.2<=p+20)->ok (f r) K) (h_b:Sm (Ty.sl (Ty.int .u8)) b:=by exact au) (p0:M.ay b:=by exact au) (p1:0<=p:=by exact au) (p2:p<=998000000000000:=by exact au):ok (aH (M.fC b p n) f) K:=by
 have h:=M.AJ b p n h_b p0 p1 p2
 obtain⟨h0,h1,h2⟩:=h
 exact k _ h0 h1 h2
theorem F.rA (b:(List Int)) (p:Int) (columns:LC) (n:Int) (h_b:Sm (Ty.sl (Ty.int .u8)) b) (h_columns:Sm (Ty.sl ai) columns) (p0:M.ay b) (p1:0<=p) (p2:p<=997000000000000):ok (F.lG b p columns n) (fun r=>r.1.length<=columns.length+3/\(∀v∈r.1,v.2.2.1.size<=20)/\p<=r.2/\r.2<=p+3 * columns.length+70/\(n<1->r.1.length=columns.length)):=by
  unfold F.lG
  have hl:=h_columns.1
  refine okT (A:=fun v0=>p<=v0.1/\v0.1<=p+3 * (columns.length:Int)/\v0.2.length=columns.length/\(∀v∈v0.2,v.2.2.1.size<=20)) (B:=fun _=>False) ?_ (fun v0 h_v0=>?_) (fun _ h=>h.elim)
  ·refine JR (fun(k:Nat) (v0:Int×LV)=>p<=v0.1/\v0.1<=p+3 * (k:Int)/\v0.2.length=k/\(∀v∈v0.2,v.2.2.1.size<=20)) ⟨au,au,au,au⟩ (fun z0 hz k v0 hk hI=>?_)
   obtain⟨i_0,i_1,i_2,i_3⟩:=hI
   unfold F.jT
   refine okG ?_
   refine okG ?_
   refine okG ?_
   refine pn fun r1 h_5_6_0 h_5_6_1 h_5_6_2=>?_
   refine okG ?_
   exact fq ⟨au,au,au,au⟩
  ·obtain⟨v0_0,v0_1,v0_2,v0_3⟩:=h_v0
   refine okG ?_
   refine okG ?_
   refine cQ fun r2 h_6_2_0 h_6_2_1 h_6_2_2=>?_
   refine okC (fun c_0=>?_) (fun c_0=>?_)
   ·have n_a:¬n<1:=fun q=>by rw[h_6_2_0 q] at c_0;cases c_0
    refine okG ?_
    refine okG ?_
    refine aA fun r3 h_7_1_0 h_7_1_1 h_7_1_2 h_7_1_3=>?_
    refine okD (fun c_1=>?_) (fun c_1=>?_)
    ·refine okG ?_
     exact sV
    ·refine okD (fun c_2=>?_) (fun c_2=>?_)
     ·refine okD (fun c_3=>?_) (fun c_3=>?_)
      ·refine okG ?_
       refine okG ?_
       refine aA fun r4 h_13_4_0 h_13_4_1 h_13_4_2 h_13_4_3=>?_
       refine okG ?_
       refine okG ?_
       refine gI fun r5 h_13_6_0 h_13_6_1 h_13_6_2=>?_
       refine okG ?_
       refine okG ?_
       exact sV
      ·exact sV
     ·refine okG ?_
      refine okG ?_
      refine gI fun r6 h_8_2_0 h_8_2_1 h_8_2_2=>?_
      refine okG ?_
      refine okG ?_
      refine gI fun r7 h_8_4_0 h_8_4_1 h_8_4_2=>?_
      refine okG ?_
      refine okG ?_
      refine gI fun r8 h_8_6_0 h_8_6_1 h_8_6_2=>?_
      refine okG ?_
      exact sV
   ·exact sV
theorem F.zi (b:(List Int)) (p:Int) (columns:LC) (n:Int) (h_b:Sm (Ty.sl (Ty.int .u8)) b) (h_columns:Sm (Ty.sl ai) columns) (p0:M.ay b) (p1:0<=p) (p2:p<=997000000000000):F.lG b p columns n=some (M.jJ b p columns n):=gq (F.rA b p columns n h_b h_columns p0 p1 p2)
theorem M.Df (b:(List Int)) (p:Int) (columns:LC) (n:Int) (h_b:Sm (Ty.sl (Ty.int .u8)) b) (h_columns:Sm (Ty.sl ai) columns) (p0:M.ay b) (p1:0<=p) (p2:p<=997000000000000):(M.jJ b p columns n).1.length<=columns.length+3/\(∀v∈(M.jJ b p columns n).1,v.2.2.1.size<=20)/\p<=(M.jJ b p columns n).2/\(M.jJ b p columns n).2<=p+3 * columns.length+70/\(n<1->(M.jJ b p columns n).1.length=columns.length):=gn (F.rA b p columns n h_b h_columns p0 p1 p2)
theorem lT {α:Type} {K:α->Prop} {f:LV×Int->Option α} {b:(List Int)} {p:Int} {columns:LC} {n:Int} (k:∀r,(r.1.length<=columns.length+3)->(∀v∈r.1,v.2.2.1.size<=20)->(p<=r.2)->(r.2<=p+3 * columns.length+70)->(n<1->r.1.length=columns.length)->ok (f r) K) (h_b:Sm (Ty.sl (Ty.int .u8)) b:=by exact au) (h_columns:Sm (Ty.sl ai) columns:=by exact au) (p0:M.ay b:=by exact au) (p1:0<=p:=by exact au) (p2:p<=997000000000000:=by exact au):ok (aH (M.jJ b p columns n) f) K:=by
 have h:=M.Df b p columns n h_b h_columns p0 p1 p2
 obtain⟨h0,h1,h2,h3,h4⟩:=h
 exact k _ h0 h1 h2 h3 h4
theorem F.Bl (row:LV) (h_row:Sm (Ty.sl aa) row):F.zY row=some row:=by
 rfl
theorem F.rH (b:(List Int)) (p:Int) (c:LC) (n:Int) (h_b:Sm (Ty.sl (Ty.int .u8)) b) (h_c:Sm (Ty.sl ai) c) (p0:M.ay b) (p1:0<=p) (p2:p<=996000000000000) (p3:c.length<=6) (p4:n=0):ok (F.lz b p c n) (fun r=>r.1.length<=6/\(∀w∈r.1,M.wM w)/\p<=r.2/\r.2<=p+1000/\(∀w∈r.1,w.length=c.length)):=by
  unfold F.lz
  have hl:=p3
  refine okG ?_
  refine aA fun r1 h_2_1_0 h_2_1_1 h_2_1_2 h_2_1_3=>?_
  refine okB (A:=fun e0=>p<=e0.1/\e0.1<=p+700/\e0.2.length<=6/\(∀w∈e0.2,M.wM w)/\(∀w∈e0.2,w.length=c.length)) ?_ (fun e0 h_e0=>?_)
  ·refine okW (fun(k:Nat) (v0:Int×Int×LLV)=>0<=v0.1/\v0.1<=(k:Int)/\(v0.2.2.length:Int)+v0.1<=6/\(∀w∈v0.2.2,M.wM w)/\p<=v0.2.1/\v0.2.1+100 * v0.1<=p+700/\(∀w∈v0.2.2,w.length=c.length)) (fun k v0 hI=>?_) (6:Nat) _ ⟨au,au,au,au,au,au,au⟩
   obtain⟨i_0,i_1,i_2,i_3,i_4,i_5,i_6⟩:=hI
   unfold F.jV
   refine okD (fun c_0=>?_) (fun c_0=>?_)
   ·refine Fp (fun c_1=>?_) (fun c_1=>?_)
    ·refine okG ?_
     refine okG ?_
     refine okG ?_
     refine aA fun r2 h_5_5_0 h_5_5_1 h_5_5_2 h_5_5_3=>?_
     refine okD (fun c_2=>?_) (fun c_2=>?_)
     ·refine okG ?_
      refine okG ?_
      refine aA fun r3 h_6_5_0 h_6_5_1 h_6_5_2 h_6_5_3=>?_
      refine okG ?_
      refine okG ?_
      refine okG ?_
      refine okL fun r4 er4=>?_
      have w_a:M.wM r4:=er4▸M.zq i_3 _
      have w_b:r4.length=c.length:=by rw[er4];exact i_6 _ (jG (t:=.sl aa) h_6_5_0 (h_6_5_1 (by omega)))
      refine okG ?_
      exact fq ⟨k-1,by omega,au,au,au,au,au,au,au⟩
     ·refine okG ?_
      refine okG ?_
      refine lT fun r5 h_7_4_0 h_7_4_1 h_7_4_2 h_7_4_3 h_7_4_4=>?_
      have w_c:r5.1.length=c.length:=h_7_4_4 (by omega)
      refine okG ?_
      exact fq ⟨k-1,by omega,au,au,au,au,au,au,au⟩
    ·refine okG ?_
     refine okG ?_
     refine okG ?_
     refine lT fun r5 h_7_4_0 h_7_4_1 h_7_4_2 h_7_4_3 h_7_4_4=>?_
     have w_c:r5.1.length=c.length:=h_7_4_4 (by omega)
     refine okG ?_
     exact fq ⟨k-1,by omega,au,au,au,au,au,au,au⟩
   ·exact dG ⟨au,au,au,au,au⟩
  ·obtain⟨e0_0,e0_1,e0_2,e0_3,e0_4⟩:=h_e0
   exact sV
theorem F.Aj (b:(List Int)) (p:Int) (c:LC) (n:Int) (h_b:Sm (Ty.sl (Ty.int .u8)) b) (h_c:Sm (Ty.sl ai) c) (p0:M.ay b) (p1:0<=p) (p2:p<=996000000000000) (p3:c.length<=6) (p4:n=0):F.lz b p c n=some (M.oD b p c n):=gq (F.rH b p c n h_b h_c p0 p1 p2 p3 p4)
theorem M.Ex (b:(List Int)) (p:Int) (c:LC) (n:Int) (h_b:Sm (Ty.sl (Ty.int .u8)) b) (h_c:Sm (Ty.sl ai) c) (p0:M.ay b) (p1:0<=p) (p2:p<=996000000000000) (p3:c.length<=6) (p4:n=0):(M.oD b p c n).1.length<=6/\(∀w∈(M.oD b p c n).1,M.wM w)/\p<=(M.oD b p c n).2/\(M.oD b p c n).2<=p+1000/\(∀w∈(M.oD b p c n).1,w.length=c.length):=gn (F.rH b p c n h_b h_c p0 p1 p2 p3 p4)
theorem yg {α:Type} {K:α->Prop} {f:LLV×Int->Option α} {b:(List Int)} {p:Int} {c:LC} {n:Int} (k:∀r,(r.1.length<=6)->(∀w∈r.1,M.wM w)->(p<=r.2)->(r.2<=p+1000)->(∀w∈r.1,w.length=c.length)->ok (f r) K) (h_b:Sm (Ty.sl (Ty.int .u8)) b:=by exact au) (h_c:Sm (Ty.sl ai) c:=by exact au) (p0:M.ay b:=by exact au) (p1:0<=p:=by exact au) (p2:p<=996000000000000:=by exact au) (p3:c.length<=6:=by exact au) (p4:n=0:=by exact au):ok (aH (M.oD b p c n) f) K:=by
 have h:=M.Ex b p c n h_b h_c p0 p1 p2 p3 p4
 obtain⟨h0,h1,h2,h3,h4⟩:=h
 exact k _ h0 h1 h2 h3 h4
theorem F.nF (b:(List Int)) (p:Int) (n:Int) (h_b:Sm (Ty.sl (Ty.int .u8)) b) (p0:M.ay b) (p1:0<=p) (p2:p<=995000000000000) (p3:n=0):ok (F.iw b p n) (fun r=>r.1.length<=3/\1<=r.1.length/\(∀t∈r.1,M.iS t)/\p<=r.2/\r.2<=p+10000/\(∀t∈r.1,M.qS t)):=by
  unfold F.iw
  refine okG ?_
  refine aA fun r1 h_2_1_0 h_2_1_1 h_2_1_2 h_2_1_3=>?_
  refine okB (A:=fun e0=>p<=e0.1/\e0.1<=p+6100/\e0.2.length<=3/\1<=e0.2.length/\(∀t∈e0.2,M.iS t)/\(∀t∈e0.2,M.qS t)) ?_ (fun e0 h_e0=>?_)
  ·refine okW (fun(k:Nat) (v0:Int×Int×LTb)=>0<=v0.1/\v0.1<=(k:Int)/\(v0.2.2.length:Int)+v0.1<=3/\1<=(v0.2.2.length:Int)+v0.1/\(∀t∈v0.2.2,M.iS t)/\p<=v0.2.1/\v0.2.1+2000 * v0.1<=p+6100/\(∀t∈v0.2.2,M.qS t)) (fun k v0 hI=>?_) (3:Nat) _ ⟨au,au,au,au,au,au,au,au⟩
   obtain⟨i_0,i_1,i_2,i_3,i_4,i_5,i_6,i_7⟩:=hI
   unfold F.gT
   refine okD (fun c_0=>?_) (fun c_0=>?_)
   ·refine okG ?_
    refine okG ?_
    refine okG ?_
    refine tf fun r2 h_5_1_0 h_5_1_1 h_5_1_2 h_5_1_3=>?_
    refine okG ?_
    refine okG ?_
    refine aA fun r3 h_6_2_0 h_6_2_1 h_6_2_2 h_6_2_3=>?_
    refine okG ?_
    refine okG ?_
    refine okG ?_
    refine okG ?_
    refine okG ?_
    refine okG ?_
    refine okG ?_
    refine okG ?_
    refine yg fun r4 h_7_3_0 h_7_3_1 h_7_3_2 h_7_3_3 h_7_3_4=>?_
    have q_a:=M.Lf h_6_2_0 (h_6_2_1 (by decide)) (n:=(r2.1.length:Int)) (by omega)
    have q_b:(ah r2.1 (some ((0:Int),wrap64 ((1:Int)+(r3.1.tmod (r2.1.length:Int)))))).length<=2:=M.KD q_a
    have q_c:M.qS ((ah r2.1 (some ((0:Int),wrap64 ((1:Int)+(r3.1.tmod (r2.1.length:Int)))))),(r4.1,())):=⟨Nat.le_trans q_b (by decide),fun w hw=>by rw[h_7_3_4 w hw];omega⟩
    refine okG ?_
    exact fq ⟨k-1,by omega,au,au,au,au,au,au,au,au⟩
   ·exact dG ⟨au,au,au,au,au,au⟩
  ·obtain⟨e0_0,e0_1,e0_2,e0_3,e0_4,e0_5⟩:=h_e0
   refine okG ?_
   refine okG ?_
   refine cQ fun r5 h_9_2_0 h_9_2_1 h_9_2_2=>?_
   refine okC (fun c_1=>?_) (fun c_1=>?_)
   ·exact okN
   ·exact Lc
theorem F.uG (b:(List Int)) (p:Int) (n:Int) (h_b:Sm (Ty.sl (Ty.int .u8)) b) (p0:M.ay b) (p1:0<=p) (p2:p<=995000000000000) (p3:n=0):F.iw b p n=some (M.fP b p n):=gq (F.nF b p n h_b p0 p1 p2 p3)
theorem M.yZ (b:(List Int)) (p:Int) (n:Int) (h_b:Sm (Ty.sl (Ty.int .u8)) b) (p0:M.ay b) (p1:0<=p) (p2:p<=995000000000000) (p3:n=0):(M.fP b p n).1.length<=3/\1<=(M.fP b p n).1.length/\(∀t∈(M.fP b p n).1,M.iS t)/\p<=(M.fP b p n).2/\(M.fP b p n).2<=p+10000/\(∀t∈(M.fP b p n).1,M.qS t):=gn (F.nF b p n h_b p0 p1 p2 p3)
theorem ug {α:Type} {K:α->Prop} {f:LTb×Int->Option α} {b:(List Int)} {p:Int} {n:Int} (k:∀r,(r.1.length<=3)->(1<=r.1.length)->(∀t∈r.1,M.iS t)->(p<=r.2)->(r.2<=p+10000)->(∀t∈r.1,M.qS t)->ok (f r) K) (h_b:Sm (Ty.sl (Ty.int .u8)) b:=by exact au) (p0:M.ay b:=by exact au) (p1:0<=p:=by exact au) (p2:p<=995000000000000:=by exact au) (p3:n=0:=by exact au):ok (aH (M.fP b p n) f) K:=by
 have h:=M.yZ b p n h_b p0 p1 p2 p3
 obtain⟨h0,h1,h2,h3,h4,h5⟩:=h
 exact k _ h0 h1 h2 h3 h4 h5
theorem F.qK (b:(List Int)) (p:Int) (columns:LC) (kind:Int) (h_b:Sm (Ty.sl (Ty.int .u8)) b) (h_columns:Sm (Ty.sl ai) columns) (p0:M.ay b) (p1:0<=p) (p2:p<=997000000000000):ok (F.jL b p columns kind) (fun r=>r.1.2.2.1.2.2.1.size<=20/\p<=r.2/\r.2<=p+20):=by
  unfold F.jL
  have hl:=h_columns.1
  refine okT (A:=fun e0=>p<=e0/\e0<=p+8) (B:=fun q0=>p<=q0.1/\q0.1<=p+10) ?_ (fun e0 h_e0=>?_) (fun q0 h_q0=>?_)
  ·refine okW (fun(k:Nat) (v0:Int×Int)=>0<=v0.1/\v0.1<=4/\4<=v0.1+(k:Int)/\p<=v0.2/\v0.2<=p+2 * v0.1) (fun k v0 hI=>?_) (4:Nat) _ ⟨au,au,au,au,au⟩
   obtain⟨i_0,i_1,i_2,i_3,i_4⟩:=hI
   unfold F.jd
   refine Fp (fun c_0=>?_) (fun c_0=>?_)
   ·refine okD (fun c_1=>?_) (fun c_1=>?_)
    ·refine okG ?_
     refine okG ?_
     refine okG ?_
     refine aA fun r1 h_4_3_0 h_4_3_1 h_4_3_2 h_4_3_3=>?_
     refine okG ?_
     refine okG ?_
     refine Fp (fun c_2=>?_) (fun c_2=>?_)
     ·refine okG ?_
      refine okG ?_
      refine aA fun r2 h_5_9_0 h_5_9_1 h_5_9_2 h_5_9_3=>?_
      refine okD (fun c_3=>?_) (fun c_3=>?_)
      ·exact Ix ⟨au,au⟩
      ·exact fq ⟨k-1,by omega,au,au,au,au,au⟩
     ·exact fq ⟨k-1,by omega,au,au,au,au,au⟩
    ·exact Fv ⟨au,au⟩
   ·exact Fv ⟨au,au⟩
  ·obtain⟨e0_0,e0_1⟩:=h_e0
   refine okG ?_
   refine okG ?_
   refine pn fun r3 h_7_3_0 h_7_3_1 h_7_3_2=>?_
   exact sU
  ·obtain⟨q0_0,q0_1⟩:=h_q0
   exact sU
theorem F.yD (b:(List Int)) (p:Int) (columns:LC) (kind:Int) (h_b:Sm (Ty.sl (Ty.int .u8)) b) (h_columns:Sm (Ty.sl ai) columns) (p0:M.ay b) (p1:0<=p) (p2:p<=997000000000000):F.jL b p columns kind=some (M.dV b p columns kind):=gq (F.qK b p columns kind h_b h_columns p0 p1 p2)
theorem M.Cl (b:(List Int)) (p:Int) (columns:LC) (kind:Int) (h_b:Sm (Ty.sl (Ty.int .u8)) b) (h_columns:Sm (Ty.sl ai) columns) (p0:M.ay b) (p1:0<=p) (p2:p<=997000000000000):(M.dV b p columns kind).1.2.2.1.2.2.1.size<=20/\p<=(M.dV b p columns kind).2/\(M.dV b p columns kind).2<=p+20:=gn (F.qK b p columns kind h_b h_columns p0 p1 p2)
theorem gi {α:Type} {K:α->Prop} {f:az.D×Int->Option α} {b:(List Int)} {p:Int} {columns:LC} {kind:Int} (k:∀r,(r.1.2.2.1.2.2.1.size<=20)->(p<=r.2)->(r.2<=p+20)->ok (f r) K) (h_b:Sm (Ty.sl (Ty.int .u8)) b:=by exact au) (h_columns:Sm (Ty.sl ai) columns:=by exact au) (p0:M.ay b:=by exact au) (p1:0<=p:=by exact au) (p2:p<=997000000000000:=by exact au):ok (aH (M.dV b p columns kind) f) K:=by
 have h:=M.Cl b p columns kind h_b h_columns p0 p1 p2
 obtain⟨h0,h1,h2⟩:=h
 exact k _ h0 h1 h2
theorem dw {α:Type} {K:α->Prop} {f:LPt×Int->Option α} {n_:Nat} (ih:∀(b:(List Int)),∀(p:Int),∀(columns:LC),∀(kind:Int),∀(deep:Int),(Sm (Ty.sl (Ty.int .u8)) b)->(Sm (Ty.sl ai) columns)->(M.ay b)->(0<=p)->(p+40 * (M.eB deep:Int)<=996000000000000)->(deep<=3)->(deep.toNat<n_)->1<=(M.bF n_ b p columns kind deep).1.length/\(M.bF n_ b p columns kind deep).1.length<=M.eB deep/\(∀v∈(M.bF n_ b p columns kind deep).1,v.2.2.1.2.2.1.size<=20)/\p<=(M.bF n_ b p columns kind deep).2/\(M.bF n_ b p columns kind deep).2<=p+40 * M.eB deep) {b:(List Int)} {p:Int} {columns:LC} {kind:Int} {deep:Int} (k:∀r,(1<=r.1.length)->(r.1.length<=M.eB deep)->(∀v∈r.1,v.2.2.1.2.2.1.size<=20)->(p<=r.2)->(r.2<=p+40 * M.eB deep)->ok (f r) K) (h_b:Sm (Ty.sl (Ty.int .u8)) b:=by exact au) (h_columns:Sm (Ty.sl ai) columns:=by exact au) (p0:M.ay b:=by exact au) (p1:0<=p:=by exact au) (p2:p+40 * (M.eB deep:Int)<=996000000000000:=by exact au) (p3:deep<=3:=by exact au) (p4:deep.toNat<n_:=by exact au):ok (aH (M.bF n_ b p columns kind deep) f) K:=by
 have h:=ih b p columns kind deep h_b h_columns p0 p1 p2 p3 p4
 obtain⟨h0,h1,h2,h3,h4⟩:=h
 exact k _ h0 h1 h2 h3 h4
theorem F.qI (n_:Nat) (ih:∀(b:(List Int)),∀(p:Int),∀(columns:LC),∀(kind:Int),∀(deep:Int),(Sm (Ty.sl (Ty.int .u8)) b)->(Sm (Ty.sl ai) columns)->(M.ay b)->(0<=p)->(p+40 * (M.eB deep:Int)<=996000000000000)->(deep<=3)->(deep.toNat<n_)->1<=(M.bF n_ b p columns kind deep).1.length/\(M.bF n_ b p columns kind deep).1.length<=M.eB deep/\(∀v∈(M.bF n_ b p columns kind deep).1,v.2.2.1.2.2.1.size<=20)/\p<=(M.bF n_ b p columns kind deep).2/\(M.bF n_ b p columns kind deep).2<=p+40 * M.eB deep) (b:(List Int)) (p:Int) (columns:LC) (kind:Int) (deep:Int) (h_b:Sm (Ty.sl (Ty.int .u8)) b) (h_columns:Sm (Ty.sl ai) columns) (p0:M.ay b) (p1:0<=p) (p2:p+40 * (M.eB deep:Int)<=996000000000000) (p3:deep<=3) (p4:deep.toNat<(n_+1)):ok (F.mu n_ b p columns kind deep) (fun r=>1<=r.1.length/\r.1.length<=M.eB deep/\(∀v∈r.1,v.2.2.1.2.2.1.size<=20)/\p<=r.2/\r.2<=p+40 * M.eB deep):=by
  unfold F.mu
  have hE0:=M.Gv (d:=deep)
  have hE1:=M.Gv (d:=wrap64 (deep-(1:Int)))
  have hE2:=M.Gv (d:=wrap64 (deep-(2:Int)))
  have hE3:=M.La (d:=deep) p3
  have hE4:=M.KY (d:=deep) p3
  refine KW (fun c_0=>?_) (fun c_0=>?_)
  ·refine okG ?_
   refine aA fun r1 h_1_4_0 h_1_4_1 h_1_4_2 h_1_4_3=>?_
   refine okD (fun c_1=>?_) (fun c_1=>?_)
   ·refine okG ?_
    refine okG ?_
    refine gi fun r2 h_2_3_0 h_2_3_1 h_2_3_2=>?_
    exact sV
   ·refine okD (fun c_2=>?_) (fun c_2=>?_)
    ·refine okG ?_
     refine okG ?_
     refine okG ?_
     refine okG ?_
     refine dw ih fun r3 h_4_5_0 h_4_5_1 h_4_5_2 h_4_5_3 h_4_5_4=>?_
     refine okG ?_
     refine okG ?_
     refine gi fun r4 h_4_9_0 h_4_9_1 h_4_9_2=>?_
     refine okG ?_
     refine okG ?_
     exact sV
    ·refine okD (fun c_3=>?_) (fun c_3=>?_)
     ·refine okG ?_
      refine okG ?_
      refine gi fun r5 h_6_3_0 h_6_3_1 h_6_3_2=>?_
      exact sV
     ·refine okG ?_
      refine okG ?_
      refine aA fun r6 h_7_1_0 h_7_1_1 h_7_1_2 h_7_1_3=>?_
      refine okD (fun c_4=>?_) (fun c_4=>?_)
      ·refine okG ?_
       refine okG ?_
       refine okG ?_
       refine okG ?_
       refine dw ih fun r7 h_9_4_0 h_9_4_1 h_9_4_2 h_9_4_3 h_9_4_4=>?_
       refine okG ?_
       refine okG ?_
       refine okG ?_
       refine okG ?_
       refine dw ih fun r8 h_9_9_0 h_9_9_1 h_9_9_2 h_9_9_3 h_9_9_4=>?_
       refine okG ?_
       refine okG ?_
       refine okG ?_
       refine aA fun r9 h_9_12_0 h_9_12_1 h_9_12_2 h_9_12_3=>?_
       refine okG ?_
       exact sV
      ·refine okD (fun c_5=>?_) (fun c_5=>?_)
       ·refine okG ?_
        refine okG ?_
        refine okG ?_
        refine okG ?_
        refine dw ih fun r10 h_11_4_0 h_11_4_1 h_11_4_2 h_11_4_3 h_11_4_4=>?_
        refine okG ?_
        exact sV
       ·refine okD (fun c_6=>?_) (fun c_6=>?_)
        ·refine okG ?_
         refine okG ?_
         refine aA fun r11 h_13_3_0 h_13_3_1 h_13_3_2 h_13_3_3=>?_
         refine okG ?_
         refine okG ?_
         refine okG ?_
         refine okG ?_
         refine dw ih fun r12 h_13_7_0 h_13_7_1 h_13_7_2 h_13_7_3 h_13_7_4=>?_
         refine okG ?_
         exact sV
        ·refine okG ?_
         refine okG ?_
         refine aA fun r13 h_14_1_0 h_14_1_1 h_14_1_2 h_14_1_3=>?_
         refine okG ?_
         refine okG ?_
         refine okG ?_
         refine okG ?_
         refine dw ih fun r14 h_15_5_0 h_15_5_1 h_15_5_2 h_15_5_3 h_15_5_4=>?_
         refine okG ?_
         refine okG ?_
         refine gi fun r15 h_15_9_0 h_15_9_1 h_15_9_2=>?_
         refine okG ?_
         refine okG ?_
         refine okG ?_
         refine aA fun r16 h_15_13_0 h_15_13_1 h_15_13_2 h_15_13_3=>?_
         refine okG ?_
         exact sV
  ·refine okG ?_
   refine gi fun r2 h_2_3_0 h_2_3_1 h_2_3_2=>?_
   exact sV
theorem M.qF:∀(n_:Nat),∀(b:(List Int)),∀(p:Int),∀(columns:LC),∀(kind:Int),∀(deep:Int),(Sm (Ty.sl (Ty.int .u8)) b)->(Sm (Ty.sl ai) columns)->(M.ay b)->(0<=p)->(p+40 * (M.eB deep:Int)<=996000000000000)->(deep<=3)->(deep.toNat<n_)->1<=(M.bF n_ b p columns kind deep).1.length/\(M.bF n_ b p columns kind deep).1.length<=M.eB deep/\(∀v∈(M.bF n_ b p columns kind deep).1,v.2.2.1.2.2.1.size<=20)/\p<=(M.bF n_ b p columns kind deep).2/\(M.bF n_ b p columns kind deep).2<=p+40 * M.eB deep
 | 0,b,p,columns,kind,deep,h_b,h_columns,p0,p1,p2,p3,p4=>absurd p4 (Nat.not_lt_zero _)
 | n_+1,b,p,columns,kind,deep,h_b,h_columns,p0,p1,p2,p3,p4=>gn (F.qI n_ (M.qF n_) b p columns kind deep h_b h_columns p0 p1 p2 p3 p4)
theorem F.ye (n_:Nat) (b:(List Int)) (p:Int) (columns:LC) (kind:Int) (deep:Int) (h_b:Sm (Ty.sl (Ty.int .u8)) b) (h_columns:Sm (Ty.sl ai) columns) (p0:M.ay b) (p1:0<=p) (p2:p+40 * (M.eB deep:Int)<=996000000000000) (p3:deep<=3) (p4:deep.toNat<(n_+1)):F.mu n_ b p columns kind deep=some (M.bF (n_+1) b p columns kind deep):=gq (F.qI n_ (M.qF n_) b p columns kind deep h_b h_columns p0 p1 p2 p3 p4)
theorem dL {α:Type} {K:α->Prop} {f:LPt×Int->Option α} {n_:Nat} {b:(List Int)} {p:Int} {columns:LC} {kind:Int} {deep:Int} (k:∀r,(1<=r.1.length)->(r.1.length<=M.eB deep)->(∀v∈r.1,v.2.2.1.2.2.1.size<=20)->(p<=r.2)->(r.2<=p+40 * M.eB deep)->ok (f r) K) (h_b:Sm (Ty.sl (Ty.int .u8)) b:=by exact au) (h_columns:Sm (Ty.sl ai) columns:=by exact au) (p0:M.ay b:=by exact au) (p1:0<=p:=by exact au) (p2:p+40 * (M.eB deep:Int)<=996000000000000:=by exact au) (p3:deep<=3:=by exact au) (p4:deep.toNat<n_:=by exact au):ok (aH (M.bF n_ b p columns kind deep) f) K:=by
 have h:=M.qF n_ b p columns kind deep h_b h_columns p0 p1 p2 p3 p4
 obtain⟨h0,h1,h2,h3,h4⟩:=h
 exact k _ h0 h1 h2 h3 h4
theorem F.Ct (n:Int) (low:Int) (high:Int)  : F.wY n low high=some (M.inR n low high):=by
 unfold F.wY M.inR
 cases decide (low<=n)<;>rfl
theorem F.we (s:ag.D) (h_s:Sm ag s):F.oB s=some (M.bJ s):=by
 unfold F.oB M.bJ M.two
 generalize decide (s.2.1=(0:Int))=a0
 generalize decide (s.2.2.1=(0:Int))=b0
 generalize decide (s.2.2.2.1=(0:Int))=n0
 generalize decide ((s.2.2.2.2.1.length:Int)=(0:Int))=e0
 generalize decide ((s.2.2.2.2.2.1.length:Int)=(0:Int))=l0
 by_cases h1:s.1=(1:Int)
 ·simp only[h1,Int.reduceEq,decide_true,decide_false]
  cases a0<;>cases b0<;>cases n0<;>cases e0<;>cases l0<;>rfl
 by_cases h2:s.1=(2:Int)
 ·simp only[h2,Int.reduceEq,decide_true,decide_false]
  cases a0<;>cases b0<;>cases n0<;>cases e0<;>cases l0<;>rfl
 by_cases h3:s.1=(3:Int)
 ·simp only[h3,Int.reduceEq,decide_true,decide_false]
  cases a0<;>cases b0<;>cases n0<;>cases e0<;>cases l0<;>rfl
 by_cases h4:s.1=(4:Int)
 ·simp only[h4,Int.reduceEq,decide_true,decide_false]
  cases a0<;>cases b0<;>cases n0<;>cases e0<;>cases l0<;>rfl
 by_cases h5:s.1=(5:Int)
 ·simp only[h5,Int.reduceEq,decide_true,decide_false]
  cases a0<;>cases b0<;>cases n0<;>cases e0<;>cases l0<;>rfl
 simp only[h1,h2,h3,h4,h5,decide_false]
 cases a0<;>cases b0<;>cases n0<;>cases e0<;>cases l0<;>rfl
theorem F.uX (columns:LC) (h_columns:Sm (Ty.sl ai) columns):F.mU columns=some (M.bN columns):=by
 unfold F.mU M.bN
 rw[pz M.eP () (fun x _=>by simp only[F.gQ,sw,dx]<;>rfl),show decide ((columns.length:Int)<=4)=decide (columns.length<=4) from decide_eq_decide.2 (by omega)]
 cases columns.all M.eP<;>simp
theorem F.zU (s:ByteArray) (h_s:Sm Ty.str s):F.rM s=some (M.text s):=by
 unfold F.rM M.text M.lower
 have key:∀c:Int,(cond ((decide (c<97))==false) (cond (decide (122<c)) (some (Sum.inr ())) (some (Sum.inl ()))) (some (Sum.inr ())):Option (Sum Unit Unit))=some (cond (M.inR c 97 122) (.inl ()) (.inr ())):=by
  intro c
  unfold M.inR
  by_cases h2:c<97
  ·simp[h2,show ¬ 97<=c by omega]
  ·by_cases h3:122<c
   ·simp[h2,h3,show 97<=c by omega,show ¬c<=122 by omega]
   ·simp[h2,h3,show 97<=c by omega,show c<=122 by omega]
 rw[pz (fun i=>M.inR (nth (t:=.int .u8) (bU s) i) 97 122) () (fun i hi=>by
  obtain⟨h0,h1⟩:=eZ.1 hi
  simp only[F.ke,Cr h0 h1]
  exact key _)]
 rw[<-lX,Ht (t:=.int .u8) (bU s) (fun n=>M.inR n 97 122),show decide (((bU s).length:Int)<=6)=decide ((bU s).length<=6) from decide_eq_decide.2 (by omega)]
 cases (bU s).all fun n=>M.inR n 97 122<;>simp
theorem F.xY (v:aa.D) (h_v:Sm aa v):F.qA v=some (M.aX v):=by
 unfold F.qA M.aX
 simp only[kM]
 simp only[dx]
theorem F.zG (columns:LC) (kinds:(List Int)) (p:az.D) (h_columns:Sm (Ty.sl ai) columns) (h_kinds:Sm (Ty.sl (Ty.int .i64)) kinds) (h_p:Sm az p) (p0:kinds.length<=1000):F.lC columns kinds p=some (M.xg columns kinds p):=by
 obtain⟨o,s,e,_⟩:=vH (columns:=columns) p p0 h_columns.1
 unfold M.xg
 rw[e]
 rfl
theorem F.wS (columns:LC) (e:LPt) (h_columns:Sm (Ty.sl ai) columns) (h_e:Sm (Ty.sl az) e):F.oP columns e=some (M.bp columns e):=by
 unfold F.oP M.bp
 cases M.bN columns
 ·rfl
 by_cases hl:e.length<=12
 ·rw[decide_eq_false (show ¬(12:Int)<(e.length:Int) by omega),decide_eq_true hl]
  obtain⟨o,s,h1,h2⟩:=AF (columns:=columns) (E:=e) (by omega) h_columns.1 e.length 0 [] (by omega) (by omega) (by simp;omega)
  rw[show (0:Int)=((0:Nat):Int) from rfl,h1]
  rw[List.drop_zero] at h2
  unfold oK at h2
  cases hk:M.iJ columns e [] with
  | none=>
   rw[hk] at h2
   simp only at h2
   subst h2
   rfl
  | some s'=>
   rw[hk] at h2
   obtain⟨rfl,rfl⟩:=h2
   match s with
   | []=>rfl
   | [a]=>exact aj (by simp)
   | a::b::l=>
    have:¬((a::b::l).length:Int)=1:=by simp;omega
    simp only[Option.bind_some,this,decide_false]
    rfl
 ·rw[decide_eq_true (show (12:Int)<(e.length:Int) by omega),decide_eq_false hl]
  rfl
theorem F.uA (tables:LTb) (ahead:LLC) (s:ag.D) (h_tables:Sm (Ty.sl aq) tables) (h_ahead:Sm (Ty.sl (Ty.sl ai)) ahead) (h_s:Sm ag s):F.hH tables ahead s=some (M.gf tables ahead s):=by
 obtain⟨r,h1,_⟩:=zx h_tables h_ahead h_s
 unfold M.gf
 rw[h1]
 rfl
theorem F.zX (ahead:(List Int)) (s:ag.D) (h_ahead:Sm (Ty.sl (Ty.int .i64)) ahead) (h_s:Sm ag s) (p0:M.gd (ahead.length:Int) s):F.qY ahead s=some (M.aK ahead s):=by
 unfold F.qY M.aK
 by_cases h1:s.1=(1:Int)
 ·simp only[h1,decide_true,cond_true]
 obtain⟨⟨a0,a1⟩,⟨b0,b1⟩⟩:=p0 h1
 rw[decide_eq_false h1]
 repeat rw[aj a0]
 repeat rw[aj a1]
 repeat rw[aj b0]
 repeat rw[aj b1]
 cases decide (s.1=(4:Int))<;>cases decide (s.1=(5:Int))<;>rfl
theorem F.AP (tables:LTb) (plan:LS) (h_tables:Sm (Ty.sl aq) tables) (h_plan:Sm (Ty.sl ag) plan):F.tX tables plan=some (M.cz tables plan):=by
 unfold F.tX M.cz M.fE
 obtain⟨o,h1,h2⟩:=M.Cb (f:=F.iT tables plan) (M.aS tables) (fun t=>t) (fun n (st:dy)=>st.1.length=n/\st.2.length=n/\∀x∈st.1,x.length<=1048576) plan plan [] ([],[]) rfl ⟨rfl,rfl,fun x h=>by cases h⟩ (fun m st hm hI=>by
  obtain⟨l1,l2,hx⟩:=hI
  have hp:=h_plan.1
  have hc:Sm (.sl (.sl ai)) st.1:=⟨by omega,fun x h=>M.zn (hx x h)⟩
  have hstep:=aO h_plan (m:Int)
  have hl6:=KZ h_tables hc hstep
  unfold F.iT M.aS
  rw[aj hc,bz,<-hl6]
  cases hb:(M.gf tables st.1 (nth (t:=ag) plan (m:Int))).2 with
  | false=>exact⟨.inr (),rfl,rfl⟩
  | true=>
   rw[hb,cond_true] at hl6
   have hin:=M.iz hl6.symm
   have hsm:=M.xj h_tables hx hl6.symm
   have e12:(st.1.length:Int)=(st.2.length:Int):=by omega
   rw[e12] at hin
   simp only[Bool.not_true,cond_false,cond_true]
   rw[aj (by unfold lim;simp;omega),aj (show Sm (.sl (.int .i64)) st.2 from⟨by omega,fun x _=>trivial⟩),aj hin,aj (by unfold lim;simp;omega),aj (by simp;omega)]
   have hn:nth (t:=.int .i64) (st.2++[M.aK st.2 (nth (t:=ag) plan (m:Int))]) (m:Int)=M.aK st.2 (nth (t:=ag) plan (m:Int)):=by
    unfold nth
    rw[List.getD_eq_getElem?_getD]
    simp[<-l2]
   rw[hn]
   cases hd:decide ((300:Int)<M.aK st.2 (nth (t:=ag) plan (m:Int))) with
   | true=>exact⟨.inr (),rfl,rfl⟩
   | false=>
    refine⟨_,rfl,rfl,by simp[l1],by simp[l2],fun x h=>?_⟩
    rcases List.mem_append.1 h with h | h
    ·exact hx x h
    ·cases List.mem_singleton.1 h
     exact hsm)
 rw[show (aN (0:Int) (plan.length:Int))=aN ((([]:List ag.D).length:Nat):Int) (plan.length:Int) from rfl,h1]
 match o with
 | .inl st=>
  simp only at h2
  rw[h2.1]
  rfl
 | .inr _=>
  simp only at h2
  rw[h2]
  rfl
theorem F.qN (b:(List Int)) (p:Int) (tables:LTb) (h_b:Sm (Ty.sl (Ty.int .u8)) b) (h_tables:Sm (Ty.sl aq) tables) (p0:M.ay b) (p1:0<=p) (p2:p<=995000000000000) (p3:(∀t∈tables,M.iS t)):ok (F.jW b p tables) (fun r=>r.1.length<=6/\1<=r.1.length/\(∀s∈r.1,M.iQ s)/\p<=r.2/\r.2<=p+100000):=by
  unfold F.jW
  have hE:=M.Gv (d:=(2:Int))
  have hE2:M.eB (2:Int)=27:=by decide
  refine okG ?_
  refine aA fun r1 h_1_3_0 h_1_3_1 h_1_3_2 h_1_3_3=>?_
  refine okG ?_
  refine okG ?_
  refine aA fun r2 h_2_1_0 h_2_1_1 h_2_1_2 h_2_1_3=>?_
  refine okT (A:=fun e0=>p<=e0.1/\e0.1<=p+16000/\e0.2.length<=6/\1<=e0.2.length/\(∀s∈e0.2,M.iQ s)) (B:=fun q0=>p<=q0.1/\q0.1<=p+16000/\q0.2.length<=6/\1<=q0.2.length/\(∀s∈q0.2,M.iQ s)) ?_ (fun e0 h_e0=>?_) (fun q0 h_q0=>?_)
  ·refine okW (fun(k:Nat) (v0:Int×Int×LS)=>0<=v0.1/\v0.1<=(k:Int)/\(v0.2.2.length:Int)+v0.1<=6/\1<=v0.2.2.length/\(∀s∈v0.2.2,M.iQ s)/\p<=v0.2.1/\v0.2.1+3000 * v0.1<=p+16000) (fun k v0 hI=>?_) (6:Nat) _ ⟨au,au,au,au,au,au,au⟩
   obtain⟨i_0,i_1,i_2,i_3,i_4,i_5,i_6⟩:=hI
   unfold F.jh
   refine okD (fun c_11=>?_) (fun c_11=>?_)
   ·refine okG ?_ (M.qZ (n:=1000) (by first | omega | (simp only[List.length_append,List.length_cons,List.length_nil];omega)) (by exact cl) (by decide))
    refine okL fun r3 er3=>?_
    have k_a:=M.CW p3 er3
    refine okC (fun c_12=>?_) (fun c_12=>?_)
    ·exact Ix ⟨au,au,au,au,au⟩
    ·have l_a:=M.Dv er3 c_12
     have l_b:r3.1.length<=6:=by omega
     refine okG ?_
     refine okG ?_
     refine okG ?_
     refine aA fun r4 h_9_3_0 h_9_3_1 h_9_3_2 h_9_3_3=>?_
     have t_a:=M.Kx h_9_3_0 (h_9_3_1 (by decide)) (n:=(v0.2.2.length:Int)) (by omega) (by omega)
     refine okD (fun c_13=>?_) (fun c_13=>?_)
     ·refine okG ?_
      refine okG ?_
      refine aA fun r5 h_12_3_0 h_12_3_1 h_12_3_2 h_12_3_3=>?_
      refine okG ?_
      refine okG ?_
      refine aA fun r6 h_13_1_0 h_13_1_1 h_13_1_2 h_13_1_3=>?_
      refine okB (A:=fun e2=>v0.2.1<=e2.1/\e2.1<=v0.2.1+2000/\e2.2.2.2.2.2.1.length<=81/\(∀v∈e2.2.2.2.2.2.1,v.2.2.1.2.2.1.size<=20)/\e2.2.2.2.2.2.2.length<=3) ?_ (fun e2 h_e2=>?_)
      ·refine okW (fun(_:Nat) (_:Unit)=>True) (fun _ v2 _=>?_) 0 _ trivial
       unfold F.eJ
       refine okD (fun c_3=>?_) (fun c_3=>?_)
       ·refine okG ?_
        refine okG ?_
        refine okG ?_ (M.mj rfl (M.mz k_a _) (by decide))
        refine okG ?_
        refine okG ?_
        refine okG ?_
        refine okG ?_
        refine okG ?_
        refine dL fun r7 h_15_6_0 h_15_6_1 h_15_6_2 h_15_6_3 h_15_6_4=>?_
        exact dG ⟨au,au,au,au,au⟩
       ·refine okD (fun c_4=>?_) (fun c_4=>?_)
        ·refine okG ?_
         refine okG ?_
         refine okG ?_
         refine aA fun r8 h_18_1_0 h_18_1_1 h_18_1_2 h_18_1_3=>?_
         refine okB (A:=fun e3=>v0.2.1<=e3.1/\e3.1<=v0.2.1+30/\e3.2.length<=3) ?_ (fun e3 h_e3=>?_)
         ·refine okW (fun(k:Nat) (v3:Int×Int×(List Int))=>0<=v3.1+1/\v3.1+1<=(k:Int)/\(v3.2.2.length:Int)+v3.1<=2/\v0.2.1<=v3.2.1/\v3.2.1+v3.1<=v0.2.1+20) (fun k v3 hI=>?_) (3:Nat) _ ⟨au,au,au,au,au⟩
          obtain⟨i_0,i_1,i_2,i_3,i_4⟩:=hI
          unfold F.gB
          refine Fp (fun c_0=>?_) (fun c_0=>?_)
          ·refine okG ?_
           refine okG ?_
           refine okD (fun c_1=>?_) (fun c_1=>?_)
           ·refine okG ?_
            refine okG ?_
            refine okG ?_
            refine aA fun r9 h_21_8_0 h_21_8_1 h_21_8_2 h_21_8_3=>?_
            refine okG ?_ (by simp only[List.length_cons,List.length_nil,List.length_append,lim];omega)
            exact fq ⟨k-1,by omega,au,au,au,au,au⟩
           ·exact dG ⟨au,au,au⟩
          ·exact dG ⟨au,au,au⟩
         ·obtain⟨e3_0,e3_1,e3_2⟩:=h_e3
          exact dG ⟨au,au,au,au,au⟩
        ·refine okD (fun c_5=>?_) (fun c_5=>?_)
         ·refine okG ?_
          refine okG ?_
          refine okG ?_
          refine aA fun r10 h_24_2_0 h_24_2_1 h_24_2_2 h_24_2_3=>?_
          refine okG ?_
          refine okG ?_
          refine okG ?_
          refine okG ?_
          refine okG ?_ (M.jl1 k_a)
          refine okG ?_ (M.jl2 k_a)
          refine okD (fun c_6=>?_) (fun c_6=>?_)
          ·refine okG ?_ (M.jl3 k_a)
           refine okG ?_
           refine okG ?_
           refine okG ?_
           refine okG ?_
           refine dL fun r11 h_27_4_0 h_27_4_1 h_27_4_2 h_27_4_3 h_27_4_4=>?_
           exact dG ⟨au,au,au,au,au⟩
          ·exact dG ⟨au,au,au,au,au⟩
         ·refine okD (fun c_7=>?_) (fun c_7=>?_)
          ·refine okG ?_
           refine okG ?_
           refine okG ?_
           refine aA fun r10 h_24_2_0 h_24_2_1 h_24_2_2 h_24_2_3=>?_
           refine okG ?_
           refine okG ?_
           refine okG ?_
           refine okG ?_
           refine okG ?_ (M.jl1 k_a)
           refine okG ?_ (M.jl2 k_a)
           refine okD (fun c_8=>?_) (fun c_8=>?_)
           ·refine okG ?_ (M.jl3 k_a)
            refine okG ?_
            refine okG ?_
            refine okG ?_
            refine okG ?_
            refine dL fun r11 h_27_4_0 h_27_4_1 h_27_4_2 h_27_4_3 h_27_4_4=>?_
            exact dG ⟨au,au,au,au,au⟩
           ·exact dG ⟨au,au,au,au,au⟩
          ·refine okD (fun c_9=>?_) (fun c_9=>?_)
           ·refine okG ?_ (by unfold ja;omega)
            refine okT (A:=fun v5=>(0:Int)<=0/\(0:Int)<=0) (B:=fun _=>False) ?_ (fun v5 h_v5=>?_) (fun _ h=>h.elim)
            ·refine JR (fun(k:Nat) (v5:Int×Int×Int×Int)=>(0:Int)<=0/\(0:Int)<=0) ⟨au,au⟩ (fun z5 hz k v5 hk hI=>?_)
             obtain⟨i_0,i_1⟩:=hI
             unfold F.gu
             refine okG ?_ (M.Cu l_b k_a (by decide))
             refine okL fun r12 er12=>?_
             refine okC (fun c_2=>?_) (fun c_2=>?_)
             ·exact fq ⟨au,au⟩
             ·exact fq ⟨au,au⟩
            ·obtain⟨v5_0,v5_1⟩:=h_v5
             exact dG ⟨au,au,au,au,au⟩
           ·refine okD (fun c_10=>?_) (fun c_10=>?_)
            ·exact dG ⟨au,au,au,au,au⟩
            ·exact dG ⟨au,au,au,au,au⟩
      ·obtain⟨e2_0,e2_1,e2_2,e2_3,e2_4⟩:=h_e2
       refine okG ?_ (by simp only[List.length_cons,List.length_nil,List.length_append,lim];omega)
       refine okG ?_ (by simp only[List.length_cons,List.length_nil,List.length_append,lim];omega)
       refine okG ?_ (M.qZ (n:=1000) (by first | omega | (simp only[List.length_append,List.length_cons,List.length_nil];omega)) (by exact cl) (by decide))
       refine okL fun r13 er13=>?_
       refine okC (fun c_14=>?_) (fun c_14=>?_)
       ·refine okG ?_ (by simp only[List.length_cons,List.length_nil,List.length_append,lim];omega)
        exact fq ⟨k-1,by omega,au,au,au,au,au,au,au⟩
       ·exact fq ⟨k-1,by omega,au,au,au,au,au,au,au⟩
     ·refine okG ?_
      refine okG ?_
      refine aA fun r5 h_12_3_0 h_12_3_1 h_12_3_2 h_12_3_3=>?_
      refine okG ?_
      refine okG ?_
      refine aA fun r6 h_13_1_0 h_13_1_1 h_13_1_2 h_13_1_3=>?_
      refine okB (A:=fun e2=>v0.2.1<=e2.1/\e2.1<=v0.2.1+2000/\e2.2.2.2.2.2.1.length<=81/\(∀v∈e2.2.2.2.2.2.1,v.2.2.1.2.2.1.size<=20)/\e2.2.2.2.2.2.2.length<=3) ?_ (fun e2 h_e2=>?_)
      ·refine okW (fun(_:Nat) (_:Unit)=>True) (fun _ v2 _=>?_) 0 _ trivial
       unfold F.eJ
       refine okD (fun c_3=>?_) (fun c_3=>?_)
       ·refine okG ?_
        refine okG ?_
        refine okG ?_ (M.mj rfl (M.mz k_a _) (by decide))
        refine okG ?_
        refine okG ?_
        refine okG ?_
        refine okG ?_
        refine okG ?_
        refine dL fun r7 h_15_6_0 h_15_6_1 h_15_6_2 h_15_6_3 h_15_6_4=>?_
        exact dG ⟨au,au,au,au,au⟩
       ·refine okD (fun c_4=>?_) (fun c_4=>?_)
        ·refine okG ?_
         refine okG ?_
         refine okG ?_
         refine aA fun r8 h_18_1_0 h_18_1_1 h_18_1_2 h_18_1_3=>?_
         refine okB (A:=fun e3=>v0.2.1<=e3.1/\e3.1<=v0.2.1+30/\e3.2.length<=3) ?_ (fun e3 h_e3=>?_)
         ·refine okW (fun(k:Nat) (v3:Int×Int×(List Int))=>0<=v3.1+1/\v3.1+1<=(k:Int)/\(v3.2.2.length:Int)+v3.1<=2/\v0.2.1<=v3.2.1/\v3.2.1+v3.1<=v0.2.1+20) (fun k v3 hI=>?_) (3:Nat) _ ⟨au,au,au,au,au⟩
          obtain⟨i_0,i_1,i_2,i_3,i_4⟩:=hI
          unfold F.gB
          refine Fp (fun c_0=>?_) (fun c_0=>?_)
          ·refine okG ?_
           refine okG ?_
           refine okD (fun c_1=>?_) (fun c_1=>?_)
           ·refine okG ?_
            refine okG ?_
            refine okG ?_
            refine aA fun r9 h_21_8_0 h_21_8_1 h_21_8_2 h_21_8_3=>?_
            refine okG ?_ (by simp only[List.length_cons,List.length_nil,List.length_append,lim];omega)
            exact fq ⟨k-1,by omega,au,au,au,au,au⟩
           ·exact dG ⟨au,au,au⟩
          ·exact dG ⟨au,au,au⟩
         ·obtain⟨e3_0,e3_1,e3_2⟩:=h_e3
          exact dG ⟨au,au,au,au,au⟩
        ·refine okD (fun c_5=>?_) (fun c_5=>?_)
         ·refine okG ?_
          refine okG ?_
          refine okG ?_
          refine aA fun r10 h_24_2_0 h_24_2_1 h_24_2_2 h_24_2_3=>?_
          refine okG ?_
          refine okG ?_
          refine okG ?_
          refine okG ?_
          refine okG ?_ (M.jl1 k_a)
          refine okG ?_ (M.jl2 k_a)
          refine okD (fun c_6=>?_) (fun c_6=>?_)
          ·refine okG ?_ (M.jl3 k_a)
           refine okG ?_
           refine okG ?_
           refine okG ?_
           refine okG ?_
           refine dL fun r11 h_27_4_0 h_27_4_1 h_27_4_2 h_27_4_3 h_27_4_4=>?_
           exact dG ⟨au,au,au,au,au⟩
          ·exact dG ⟨au,au,au,au,au⟩
         ·refine okD (fun c_7=>?_) (fun c_7=>?_)
          ·refine okG ?_
           refine okG ?_
           refine okG ?_
           refine aA fun r10 h_24_2_0 h_24_2_1 h_24_2_2 h_24_2_3=>?_
           refine okG ?_
           refine okG ?_
           refine okG ?_
           refine okG ?_
           refine okG ?_ (M.jl1 k_a)
           refine okG ?_ (M.jl2 k_a)
           refine okD (fun c_8=>?_) (fun c_8=>?_)
           ·refine okG ?_ (M.jl3 k_a)
            refine okG ?_
            refine okG ?_
            refine okG ?_
            refine okG ?_
            refine dL fun r11 h_27_4_0 h_27_4_1 h_27_4_2 h_27_4_3 h_27_4_4=>?_
            exact dG ⟨au,au,au,au,au⟩
           ·exact dG ⟨au,au,au,au,au⟩
          ·refine okD (fun c_9=>?_) (fun c_9=>?_)
           ·refine okG ?_ (by unfold ja;omega)
            refine okT (A:=fun v5=>(0:Int)<=0/\(0:Int)<=0) (B:=fun _=>False) ?_ (fun v5 h_v5=>?_) (fun _ h=>h.elim)
            ·refine JR (fun(k:Nat) (v5:Int×Int×Int×Int)=>(0:Int)<=0/\(0:Int)<=0) ⟨au,au⟩ (fun z5 hz k v5 hk hI=>?_)
             obtain⟨i_0,i_1⟩:=hI
             unfold F.gu
             refine okG ?_ (M.Cu l_b k_a (by decide))
             refine okL fun r12 er12=>?_
             refine okC (fun c_2=>?_) (fun c_2=>?_)
             ·exact fq ⟨au,au⟩
             ·exact fq ⟨au,au⟩
            ·obtain⟨v5_0,v5_1⟩:=h_v5
             exact dG ⟨au,au,au,au,au⟩
           ·refine okD (fun c_10=>?_) (fun c_10=>?_)
            ·exact dG ⟨au,au,au,au,au⟩
            ·exact dG ⟨au,au,au,au,au⟩
      ·obtain⟨e2_0,e2_1,e2_2,e2_3,e2_4⟩:=h_e2
       refine okG ?_ (by simp only[List.length_cons,List.length_nil,List.length_append,lim];omega)
       refine okG ?_ (by simp only[List.length_cons,List.length_nil,List.length_append,lim];omega)
       refine okG ?_ (M.qZ (n:=1000) (by first | omega | (simp only[List.length_append,List.length_cons,List.length_nil];omega)) (by exact cl) (by decide))
       refine okL fun r13 er13=>?_
       refine okC (fun c_15=>?_) (fun c_15=>?_)
       ·refine okG ?_ (by simp only[List.length_cons,List.length_nil,List.length_append,lim];omega)
        exact fq ⟨k-1,by omega,au,au,au,au,au,au,au⟩
       ·exact fq ⟨k-1,by omega,au,au,au,au,au,au,au⟩
   ·exact Fv ⟨au,au,au,au,au⟩
  ·obtain⟨e0_0,e0_1,e0_2,e0_3,e0_4⟩:=h_e0
   exact sV
  ·obtain⟨q0_0,q0_1,q0_2,q0_3,q0_4⟩:=h_q0
   exact sV
theorem F.xU (b:(List Int)) (p:Int) (tables:LTb) (h_b:Sm (Ty.sl (Ty.int .u8)) b) (h_tables:Sm (Ty.sl aq) tables) (p0:M.ay b) (p1:0<=p) (p2:p<=995000000000000) (p3:(∀t∈tables,M.iS t)):F.jW b p tables=some (M.lf b p tables):=gq (F.qN b p tables h_b h_tables p0 p1 p2 p3)
theorem M.De (b:(List Int)) (p:Int) (tables:LTb) (h_b:Sm (Ty.sl (Ty.int .u8)) b) (h_tables:Sm (Ty.sl aq) tables) (p0:M.ay b) (p1:0<=p) (p2:p<=995000000000000) (p3:(∀t∈tables,M.iS t)):(M.lf b p tables).1.length<=6/\1<=(M.lf b p tables).1.length/\(∀s∈(M.lf b p tables).1,M.iQ s)/\p<=(M.lf b p tables).2/\(M.lf b p tables).2<=p+100000:=gn (F.qN b p tables h_b h_tables p0 p1 p2 p3)
theorem wQ {α:Type} {K:α->Prop} {f:LS×Int->Option α} {b:(List Int)} {p:Int} {tables:LTb} (k:∀r,(r.1.length<=6)->(1<=r.1.length)->(∀s∈r.1,M.iQ s)->(p<=r.2)->(r.2<=p+100000)->ok (f r) K) (h_b:Sm (Ty.sl (Ty.int .u8)) b:=by exact au) (h_tables:Sm (Ty.sl aq) tables:=by exact au) (p0:M.ay b:=by exact au) (p1:0<=p:=by exact au) (p2:p<=995000000000000:=by exact au) (p3:(∀t∈tables,M.iS t):=by exact au):ok (aH (M.lf b p tables) f) K:=by
 have h:=M.De b p tables h_b h_tables p0 p1 p2 p3
 obtain⟨h0,h1,h2,h3,h4⟩:=h
 exact k _ h0 h1 h2 h3 h4
theorem F.pM (b:(List Int)) (p:Int) (h_b:Sm (Ty.sl (Ty.int .u8)) b) (p0:M.ay b) (p1:0<=p) (p2:p<=994000000000000):ok (F.iX b p) (fun r=>r.1.length<=3/\1<=r.1.length/\(∀t∈r.1,M.iS t)/\r.2.1.length<=6/\1<=r.2.1.length/\(∀s∈r.2.1,M.iQ s)/\p<=r.2.2/\r.2.2<=p+200000/\(∀t∈r.1,M.qS t)):=by
 unfold F.iX
 refine okG ?_
 refine okG ?_
 refine ug fun r1 h_1_1_0 h_1_1_1 h_1_1_2 h_1_1_3 h_1_1_4 h_1_1_5=>?_
 refine okG ?_
 refine okG ?_
 refine okG ?_
 refine okG ?_
 refine wQ fun r2 h_2_2_0 h_2_2_1 h_2_2_2 h_2_2_3 h_2_2_4=>?_
 refine okG ?_
 refine okG ?_
 refine aA fun r3 h_3_6_0 h_3_6_1 h_3_6_2 h_3_6_3=>?_
 have m_a:=M.Lb (n:=(r2.1.length:Int)) (by omega)
 have w_a:wrap64 ((1:Int)+r3.1)=1+r3.1:=aI (by omega) (by omega)
 refine okG ?_
 refine okG ?_
 refine okS ?_
 dsimp only
 exact⟨au,au,au,Nat.le_trans (M.Db _ _) (by omega),M.Jz (by omega) (by omega) (by omega),au,au,au,au⟩
theorem F.vR (b:(List Int)) (p:Int) (h_b:Sm (Ty.sl (Ty.int .u8)) b) (p0:M.ay b) (p1:0<=p) (p2:p<=994000000000000):F.iX b p=some (M.eO b p):=gq (F.pM b p h_b p0 p1 p2)
theorem M.Bm (b:(List Int)) (p:Int) (h_b:Sm (Ty.sl (Ty.int .u8)) b) (p0:M.ay b) (p1:0<=p) (p2:p<=994000000000000):(M.eO b p).1.length<=3/\1<=(M.eO b p).1.length/\(∀t∈(M.eO b p).1,M.iS t)/\(M.eO b p).2.1.length<=6/\1<=(M.eO b p).2.1.length/\(∀s∈(M.eO b p).2.1,M.iQ s)/\p<=(M.eO b p).2.2/\(M.eO b p).2.2<=p+200000/\(∀t∈(M.eO b p).1,M.qS t):=gn (F.pM b p h_b p0 p1 p2)
theorem ny {α:Type} {K:α->Prop} {f:LTb×LS×Int->Option α} {b:(List Int)} {p:Int} (k:∀r,(r.1.length<=3)->(1<=r.1.length)->(∀t∈r.1,M.iS t)->(r.2.1.length<=6)->(1<=r.2.1.length)->(∀s∈r.2.1,M.iQ s)->(p<=r.2.2)->(r.2.2<=p+200000)->(∀t∈r.1,M.qS t)->ok (f r) K) (h_b:Sm (Ty.sl (Ty.int .u8)) b:=by exact au) (p0:M.ay b:=by exact au) (p1:0<=p:=by exact au) (p2:p<=994000000000000:=by exact au):ok (aH (M.eO b p) f) K:=by
 have h:=M.Bm b p h_b p0 p1 p2
 obtain⟨h0,h1,h2,h3,h4,h5,h6,h7,h8⟩:=h
 exact k _ h0 h1 h2 h3 h4 h5 h6 h7 h8
theorem F.nB (b:(List Int)) (p:Int) (tables:LTb) (n:Int) (h_b:Sm (Ty.sl (Ty.int .u8)) b) (h_tables:Sm (Ty.sl aq) tables) (p0:M.ay b) (p1:0<=p) (p2:p<=994000000000000) (p3:tables.length<=3):ok (F.hG b p tables n) (fun r=>r.1.length<=4/\(∀g∈r.1,M.gdD g)/\p<=r.2/\r.2<=p+100000):=by
  unfold F.hG
  have hE2:M.eB (2:Int)=27:=by decide
  have hR:(aN (0:Int) (tables.length:Int)).length=tables.length:=by simp[aN]
  refine okT (A:=fun v0=>p<=v0.1/\v0.1<=p+2000 * ((aN (0:Int) (tables.length:Int)).length:Int)/\v0.2.length<=(aN (0:Int) (tables.length:Int)).length/\(∀g∈v0.2,M.gdD g)) (B:=fun _=>False) ?_ (fun v0 h_v0=>?_) (fun _ h=>h.elim)
  ·refine JR (fun(k:Nat) (v0:Int×LG)=>p<=v0.1/\v0.1<=p+2000 * (k:Int)/\v0.2.length<=k/\(∀g∈v0.2,M.gdD g)) ⟨au,au,au,au⟩ (fun z0 hz k v0 hk hI=>?_)
   obtain⟨i_0,i_1,i_2,i_3⟩:=hI
   unfold F.gS
   refine okG ?_
   refine okG ?_
   refine okG ?_
   refine aA fun r1 h_5_1_0 h_5_1_1 h_5_1_2 h_5_1_3=>?_
   refine okD (fun c_0=>?_) (fun c_0=>?_)
   ·refine okG ?_
    refine okG ?_
    refine okG ?_
    refine okG ?_
    refine dL fun r2 h_6_8_0 h_6_8_1 h_6_8_2 h_6_8_3 h_6_8_4=>?_
    refine okG ?_
    exact fq ⟨au,au,au,au⟩
   ·exact fq ⟨au,au,au,au⟩
  ·obtain⟨v0_0,v0_1,v0_2,v0_3⟩:=h_v0
   refine Fp (fun c_1=>?_) (fun c_1=>?_)
   ·refine okG ?_
    refine okG ?_
    refine cQ fun r3 h_7_6_0 h_7_6_1 h_7_6_2=>?_
    refine okC (fun c_2=>?_) (fun c_2=>?_)
    ·refine okG ?_
     refine okG ?_
     refine aA fun r4 h_8_1_0 h_8_1_1 h_8_1_2 h_8_1_3=>?_
     refine okD (fun c_3=>?_) (fun c_3=>?_)
     ·refine okG ?_
      refine okG ?_
      refine aA fun r5 h_11_2_0 h_11_2_1 h_11_2_2 h_11_2_3=>?_
      refine okG ?_
      refine okL fun y1 ey1=>?_
      subst ey1
      exact ua
     ·refine okD (fun c_4=>?_) (fun c_4=>?_)
      ·refine okG ?_
       refine okG ?_
       refine okG ?_
       refine aA fun r6 h_13_11_0 h_13_11_1 h_13_11_2 h_13_11_3=>?_
       refine okG ?_
       refine okG ?_
       refine okL fun y2 ey2=>?_
       subst ey2
       exact ua
      ·refine okG ?_
       refine okG ?_
       exact ua
    ·exact ua
   ·exact ua
theorem F.vz (b:(List Int)) (p:Int) (tables:LTb) (n:Int) (h_b:Sm (Ty.sl (Ty.int .u8)) b) (h_tables:Sm (Ty.sl aq) tables) (p0:M.ay b) (p1:0<=p) (p2:p<=994000000000000) (p3:tables.length<=3):F.hG b p tables n=some (M.fV b p tables n):=gq (F.nB b p tables n h_b h_tables p0 p1 p2 p3)
theorem M.zy (b:(List Int)) (p:Int) (tables:LTb) (n:Int) (h_b:Sm (Ty.sl (Ty.int .u8)) b) (h_tables:Sm (Ty.sl aq) tables) (p0:M.ay b) (p1:0<=p) (p2:p<=994000000000000) (p3:tables.length<=3):(M.fV b p tables n).1.length<=4/\(∀g∈(M.fV b p tables n).1,M.gdD g)/\p<=(M.fV b p tables n).2/\(M.fV b p tables n).2<=p+100000:=gn (F.nB b p tables n h_b h_tables p0 p1 p2 p3)
theorem mO {α:Type} {K:α->Prop} {f:LG×Int->Option α} {b:(List Int)} {p:Int} {tables:LTb} {n:Int} (k:∀r,(r.1.length<=4)->(∀g∈r.1,M.gdD g)->(p<=r.2)->(r.2<=p+100000)->ok (f r) K) (h_b:Sm (Ty.sl (Ty.int .u8)) b:=by exact au) (h_tables:Sm (Ty.sl aq) tables:=by exact au) (p0:M.ay b:=by exact au) (p1:0<=p:=by exact au) (p2:p<=994000000000000:=by exact au) (p3:tables.length<=3:=by exact au):ok (aH (M.fV b p tables n) f) K:=by
 have h:=M.zy b p tables n h_b h_tables p0 p1 p2 p3
 obtain⟨h0,h1,h2,h3⟩:=h
 exact k _ h0 h1 h2 h3
theorem F.nD (b:(List Int)) (p:Int) (tables:LTb) (n:Int) (h_b:Sm (Ty.sl (Ty.int .u8)) b) (h_tables:Sm (Ty.sl aq) tables) (p0:M.ay b) (p1:0<=p) (p2:p<=996000000000000) (p3:(∀t∈tables,M.iS t)) (p4:(∀t∈tables,M.qS t)) (p5:1<=tables.length) (p6:n=0):ok (F.ig b p tables n) (fun r=>r.1.2.1.length<=4/\(∀v∈r.1.2.1,v.2.2.1.size<=20)/\p<=r.2/\r.2<=p+200):=by
  unfold F.ig
  refine okG ?_
  refine aA fun r1 h_1_3_0 h_1_3_1 h_1_3_2 h_1_3_3=>?_
  refine okG ?_
  refine okG ?_
  refine aA fun r2 h_1_5_0 h_1_5_1 h_1_5_2 h_1_5_3=>?_
  have t_a:=jG (t:=aq) h_1_3_0 (h_1_3_1 (by omega))
  obtain⟨t_e1,t_e2⟩:=p4 _ t_a
  refine okG ?_
  refine okG ?_
  refine okG ?_
  refine okG ?_
  refine lT fun r3 h_3_3_0 h_3_3_1 h_3_3_2 h_3_3_3 h_3_3_4=>?_
  have f_a:r3.1.length<=4:=by rw[h_3_3_4 (by decide)];exact t_e1
  refine okD (fun c_0=>?_) (fun c_0=>?_)
  ·refine okD (fun c_1=>?_) (fun c_1=>?_)
   ·refine okG ?_
    refine okG ?_
    refine aA fun r4 h_7_6_0 h_7_6_1 h_7_6_2 h_7_6_3=>?_
    refine okG ?_
    refine okG ?_
    refine okL fun r5 er5=>?_
    have u_a:=jG (t:=.sl aa) h_7_6_0 (h_7_6_1 (by omega))
    have f_b:r5.length<=4:=by rw[er5];exact t_e2 _ u_a
    have f_c:∀v∈r5,v.2.2.1.size<=20:=by rw[er5];exact((p3 _ t_a).2.2 _ u_a).2
    refine okG ?_
    refine okG ?_
    refine cQ fun r6 h_10_2_0 h_10_2_1 h_10_2_2=>?_
    refine okC (fun c_2=>?_) (fun c_2=>?_)
    ·exact okN
    ·exact ua
   ·refine okG ?_
    refine okG ?_
    refine cQ fun r6 h_10_2_0 h_10_2_1 h_10_2_2=>?_
    refine okC (fun c_3=>?_) (fun c_3=>?_)
    ·exact okN
    ·exact ua
  ·refine okC (fun c_4=>?_) (fun c_4=>?_)
   ·refine okD (fun c_5=>?_) (fun c_5=>?_)
    ·refine okG ?_
     refine okG ?_
     refine aA fun r4 h_7_6_0 h_7_6_1 h_7_6_2 h_7_6_3=>?_
     refine okG ?_
     refine okG ?_
     refine okL fun r5 er5=>?_
     have u_a:=jG (t:=.sl aa) h_7_6_0 (h_7_6_1 (by omega))
     have f_b:r5.length<=4:=by rw[er5];exact t_e2 _ u_a
     have f_c:∀v∈r5,v.2.2.1.size<=20:=by rw[er5];exact((p3 _ t_a).2.2 _ u_a).2
     refine okD (fun c_6=>?_) (fun c_6=>?_)
     ·refine okG ?_
      refine okG ?_
      refine cQ fun r6 h_10_2_0 h_10_2_1 h_10_2_2=>?_
      refine okC (fun c_7=>?_) (fun c_7=>?_)
      ·exact okN
      ·exact ua
     ·refine okG ?_
      refine okG ?_
      refine cQ fun r6 h_10_2_0 h_10_2_1 h_10_2_2=>?_
      refine okC (fun c_8=>?_) (fun c_8=>?_)
      ·exact okN
      ·exact ua
    ·refine okD (fun c_9=>?_) (fun c_9=>?_)
     ·refine okG ?_
      refine okG ?_
      refine cQ fun r6 h_10_2_0 h_10_2_1 h_10_2_2=>?_
      refine okC (fun c_10=>?_) (fun c_10=>?_)
      ·exact okN
      ·exact ua
     ·refine okG ?_
      refine okG ?_
      refine cQ fun r6 h_10_2_0 h_10_2_1 h_10_2_2=>?_
      refine okC (fun c_11=>?_) (fun c_11=>?_)
      ·exact okN
      ·exact ua
   ·refine okD (fun c_12=>?_) (fun c_12=>?_)
    ·refine okG ?_
     refine okG ?_
     refine cQ fun r6 h_10_2_0 h_10_2_1 h_10_2_2=>?_
     refine okC (fun c_13=>?_) (fun c_13=>?_)
     ·exact okN
     ·exact ua
    ·refine okG ?_
     refine okG ?_
     refine cQ fun r6 h_10_2_0 h_10_2_1 h_10_2_2=>?_
     refine okC (fun c_14=>?_) (fun c_14=>?_)
     ·exact okN
     ·exact ua
theorem F.uE (b:(List Int)) (p:Int) (tables:LTb) (n:Int) (h_b:Sm (Ty.sl (Ty.int .u8)) b) (h_tables:Sm (Ty.sl aq) tables) (p0:M.ay b) (p1:0<=p) (p2:p<=996000000000000) (p3:(∀t∈tables,M.iS t)) (p4:(∀t∈tables,M.qS t)) (p5:1<=tables.length) (p6:n=0):F.ig b p tables n=some (M.fW b p tables n):=gq (F.nD b p tables n h_b h_tables p0 p1 p2 p3 p4 p5 p6)
theorem M.Am (b:(List Int)) (p:Int) (tables:LTb) (n:Int) (h_b:Sm (Ty.sl (Ty.int .u8)) b) (h_tables:Sm (Ty.sl aq) tables) (p0:M.ay b) (p1:0<=p) (p2:p<=996000000000000) (p3:(∀t∈tables,M.iS t)) (p4:(∀t∈tables,M.qS t)) (p5:1<=tables.length) (p6:n=0):(M.fW b p tables n).1.2.1.length<=4/\(∀v∈(M.fW b p tables n).1.2.1,v.2.2.1.size<=20)/\p<=(M.fW b p tables n).2/\(M.fW b p tables n).2<=p+200:=gn (F.nD b p tables n h_b h_tables p0 p1 p2 p3 p4 p5 p6)
theorem nq {α:Type} {K:α->Prop} {f:ck.D×Int->Option α} {b:(List Int)} {p:Int} {tables:LTb} {n:Int} (k:∀r,(r.1.2.1.length<=4)->(∀v∈r.1.2.1,v.2.2.1.size<=20)->(p<=r.2)->(r.2<=p+200)->ok (f r) K) (h_b:Sm (Ty.sl (Ty.int .u8)) b:=by exact au) (h_tables:Sm (Ty.sl aq) tables:=by exact au) (p0:M.ay b:=by exact au) (p1:0<=p:=by exact au) (p2:p<=996000000000000:=by exact au) (p3:(∀t∈tables,M.iS t):=by exact au) (p4:(∀t∈tables,M.qS t):=by exact au) (p5:1<=tables.length:=by exact au) (p6:n=0:=by exact au):ok (aH (M.fW b p tables n) f) K:=by
 have h:=M.Am b p tables n h_b h_tables p0 p1 p2 p3 p4 p5 p6
 obtain⟨h0,h1,h2,h3⟩:=h
 exact k _ h0 h1 h2 h3
theorem F.mc (code:(List Int)) (h_code:Sm (Ty.sl (Ty.int .u8)) code) (p0:M.ay code):ok (F.fU code) (fun r=>r.1.length<=3/\1<=r.1.length/\(∀t∈r.1,M.iS t)/\r.2.1.length<=4/\(∀g∈r.2.1,M.gdD g)/\r.2.2.1.length<=6/\(∀s∈r.2.2.1,M.iQ s)/\r.2.2.2.2.1.length<=4):=by
  unfold F.fU
  refine okD (fun c_0=>?_) (fun c_0=>?_)
  ·refine okG ?_
   refine okG ?_
   refine okG ?_
   refine okG ?_
   refine okG ?_
   refine ny fun r1 h_2_1_0 h_2_1_1 h_2_1_2 h_2_1_3 h_2_1_4 h_2_1_5 h_2_1_6 h_2_1_7 h_2_1_8=>?_
   refine okG ?_
   refine okG ?_
   refine okG ?_
   refine okG ?_
   refine mO fun r2 h_3_3_0 h_3_3_1 h_3_3_2 h_3_3_3=>?_
   refine okG ?_
   refine okG ?_
   refine okG ?_
   refine okG ?_
   refine okG ?_
   refine okG ?_
   refine nq fun r3 h_3_7_0 h_3_7_1 h_3_7_2 h_3_7_3=>?_
   exact KR
  ·refine okG ?_
   refine okG ?_
   refine ny fun r1 h_2_1_0 h_2_1_1 h_2_1_2 h_2_1_3 h_2_1_4 h_2_1_5 h_2_1_6 h_2_1_7 h_2_1_8=>?_
   refine okG ?_
   refine okG ?_
   refine okG ?_
   refine okG ?_
   refine mO fun r2 h_3_3_0 h_3_3_1 h_3_3_2 h_3_3_3=>?_
   refine okG ?_
   refine okG ?_
   refine okG ?_
   refine okG ?_
   refine okG ?_
   refine okG ?_
   refine nq fun r3 h_3_7_0 h_3_7_1 h_3_7_2 h_3_7_3=>?_
   exact KR
theorem F.sR (code:(List Int)) (h_code:Sm (Ty.sl (Ty.int .u8)) code) (p0:M.ay code):F.fU code=some (M.cT code):=gq (F.mc code h_code p0)
theorem M.pg (code:(List Int)) (h_code:Sm (Ty.sl (Ty.int .u8)) code) (p0:M.ay code):(M.cT code).1.length<=3/\1<=(M.cT code).1.length/\(∀t∈(M.cT code).1,M.iS t)/\(M.cT code).2.1.length<=4/\(∀g∈(M.cT code).2.1,M.gdD g)/\(M.cT code).2.2.1.length<=6/\(∀s∈(M.cT code).2.2.1,M.iQ s)/\(M.cT code).2.2.2.2.1.length<=4:=gn (F.mc code h_code p0)
theorem Ei {α:Type} {K:α->Prop} {f:LTb×LG×LS×ck.D->Option α} {code:(List Int)} (k:∀r,(r.1.length<=3)->(1<=r.1.length)->(∀t∈r.1,M.iS t)->(r.2.1.length<=4)->(∀g∈r.2.1,M.gdD g)->(r.2.2.1.length<=6)->(∀s∈r.2.2.1,M.iQ s)->(r.2.2.2.2.1.length<=4)->ok (f r) K) (h_code:Sm (Ty.sl (Ty.int .u8)) code:=by exact au) (p0:M.ay code:=by exact au):ok (aH (M.cT code) f) K:=by
 have h:=M.pg code h_code p0
 obtain⟨h0,h1,h2,h3,h4,h5,h6,h7⟩:=h
 exact k _ h0 h1 h2 h3 h4 h5 h6 h7
theorem F.vZ (tables:LTb) (guards:LG) (h_tables:Sm (Ty.sl aq) tables) (h_guards:Sm (Ty.sl aL) guards):F.oN tables guards=some (M.cF tables guards):=by
 unfold F.oN M.cF
 rw[pz (M.sG tables guards) () (fun i hi=>by
  obtain⟨i0,i1⟩:=eZ.1 hi
  have hl:=h_guards.1
  have hw:wrap64 (i-(1:Int))=i-1:=aI (by omega) (by omega)
  simp only[F.iF,hw,fQ _ h_tables.1]
  unfold M.sG
  generalize M.inR (nth (t:=aL) guards i).1 0 ((tables.length:Int)-1)=c1
  generalize decide (M.bp (nth (t:=aq) tables (nth (t:=aL) guards i).1).1 (nth (t:=aL) guards i).2.1=3)=c2
  generalize decide ((nth (t:=aL) guards i).1<=(nth (t:=aL) guards (i-1)).1)=c3
  by_cases h0:0<i
  ·have g1:0<=i-1:=by omega
   have g2:i-1<(guards.length:Int):=by omega
   rw[decide_eq_true h0]
   repeat rw[aj g1]
   repeat rw[aj g2]
   cases c1<;>cases c2<;>cases c3<;>rfl
  ·rw[decide_eq_false h0]
   cases c1<;>cases c2<;>cases c3<;>rfl)]
 cases M.cm tables<;>cases (aN 0 (guards.length:Int)).all (M.sG tables guards)<;>rfl
theorem F.AB (xs:LPt) (h_xs:Sm (Ty.sl az) xs):F.xm xs=some xs:=by
 exact M.sD (t:=az)
theorem F.ya (xs:(List Int)) (h_xs:Sm (Ty.sl (Ty.int .i64)) xs):F.uU xs=some xs:=by
 exact M.sD (t:=(Ty.int .i64))
theorem F.zK (kind:Int)  : F.rL kind=some (M.two kind):=by
 unfold F.rL M.two
 cases decide (kind=(4:Int))<;>rfl
theorem F.yF (guards:LG) (n:Int) (h_guards:Sm (Ty.sl aL) guards):F.qd guards n=some (M.guardOf guards n):=by
 unfold F.qd M.guardOf
 have key:∀l:List aL.D,aQ (F.gD guards n) l ()=some (match l.find? (fun g:aL.D=>decide (g.1=n)) with | some g=>.inr g.2.1 | none=>.inl ()):=by
  intro l
  induction l with
  | nil=>rfl
  | cons x l ih=>
   rw[bH,List.find?_cons]
   unfold F.gD
   cases decide (x.1=n) with
   | true=>rfl
   | false=>exact ih
 rw[key]
 cases guards.find? (fun g:aL.D=>decide (g.1=n))<;>rfl
theorem F.wE (plan:LS) (h_plan:Sm (Ty.sl ag) plan):F.og plan=some plan:=by
 unfold F.og
 rw[Ag (fun r=>r) (fun x hx s hs=>by
  have hl:=h_plan.1
  simp only[F.iG,bz,M.jg]
  rw[aj (by unfold lim;simp;omega)]),M.DM,bq,M.ia]
theorem F.sY (tables:LTb) (guards:LG) (plan:LS) (h_tables:Sm (Ty.sl aq) tables) (h_guards:Sm (Ty.sl aL) guards) (h_plan:Sm (Ty.sl ag) plan):F.kE tables guards plan=some (M.cU tables guards plan):=by
 unfold F.kE M.cU
 cases hg:M.cF tables guards
 ·rfl
 cases hp:M.aW tables plan
 ·rfl
 have p0:=M.dX hp
 have hl:=h_plan.1
 have e1:(plan.length:Int).toNat=plan.length:=by simp
 simp only[Bool.not_true,cond_true,cond_false,bz,Bool.and_self,show ((false:Bool)==false)=true from rfl]
 rw[e1]
 have hfold:=M.sk (f:=F.eM tables guards plan) (M.ct guards plan) (fun k v=>v.2.length=plan.length/\(v.1.length:Int)<=2 * k/\∀s∈v.1,Sm ag s) plan.length (s:=([],List.replicate plan.length (0:Int))) ⟨by simp,by simp,fun s h=>by cases h⟩ (fun k v k0 k1 hI=>by
   have hnext:(M.ct guards plan v k).2.length=plan.length/\((M.ct guards plan v k).1.length:Int)<=2 * (k+1)/\∀s∈(M.ct guards plan v k).1,Sm ag s:=by
    have:=M.Jm (guards:=guards) (plan:=plan) (v:=v) (k:=k)
    refine⟨this.2.trans hI.1,?_,M.Gn h_guards h_plan hI.2.2⟩
    have h1:=this.1
    have h2:=hI.2.1
    omega
   refine⟨?_,hnext⟩
   clear hnext
   have hl:=h_plan.1
   obtain⟨hI1,hI2,hI3⟩:=hI
   have hin:=p0.2 k k0 k1
   have hs1:k<(v.2.length:Int):=by rw[hI1];exact k1
   have hv6:v.1.length<=4000000:=by omega
   have hlim:∀s:ag.D,(v.1.length+[s].length) * 80<=lim:=fun s=>by unfold lim;simp;omega
   have hlim2:∀s s':ag.D,((v.1++[s]).length+[s'].length) * 80<=lim:=fun s s'=>by unfold lim;simp;omega
   have hw1:∀s:ag.D,wrap64 (((v.1++[s]).length:Int)-1)=((v.1++[s]).length:Int)-1:=fun s=>aI (by simp<;>omega) (by simp<;>omega)
   have hw2:∀s s':ag.D,wrap64 (((v.1++[s]++[s']).length:Int)-1)=((v.1++[s]++[s']).length:Int)-1:=fun s s'=>aI (by simp<;>omega) (by simp<;>omega)
   unfold F.eM M.ct M.me M.eS M.ren
   simp only[bz,M.jg]
   by_cases h1:(nth (t:=ag) plan k).1=(1:Int)
   ·have ht:M.two (nth (t:=ag) plan k).1=false:=by rw[h1];rfl
    rw[ht]
    simp only[h1,decide_true,Bool.not_true,Bool.true_and,cond_true,cond_false]
    rw[aj (hlim _)]
    cases (M.guardOf guards (nth (t:=ag) plan k).2.2.2.1).2
    ·simp only[cond_false,show ((false:Bool)==true)=false from rfl]
     rw[aj hs1,hw1]
    ·simp only[cond_true,show ((true:Bool)==true)=true from rfl]
     rw[aj (hlim2 _ _),aj hs1,hw1,hw2]
   ·obtain⟨⟨a0,a1⟩,⟨b0,b1⟩⟩:=hin h1
    have a2:(nth (t:=ag) plan k).2.1<(v.2.length:Int):=by rw[hI1];exact Int.lt_trans a1 k1
    have b2:(nth (t:=ag) plan k).2.2.1<(v.2.length:Int):=by rw[hI1];exact Int.lt_trans b1 k1
    rw[decide_eq_false h1]
    simp only[Bool.not_false,Bool.false_and,cond_true,cond_false]
    rw[aj a0,aj a2]
    cases M.two (nth (t:=ag) plan k).1
    ·simp only[cond_false]
     rw[aj (hlim _)]
     cases (M.guardOf guards (nth (t:=ag) plan k).2.2.2.1).2<;>simp only[cond_true,cond_false,show ((false:Bool)==true)=false from rfl,show ((true:Bool)==true)=true from rfl]<;>rw[aj hs1,hw1]
    ·simp only[cond_true]
     rw[aj b0,aj b2,aj (hlim _)]
     cases (M.guardOf guards (nth (t:=ag) plan k).2.2.2.1).2<;>simp only[cond_true,cond_false,show ((false:Bool)==true)=false from rfl,show ((true:Bool)==true)=true from rfl]<;>rw[aj hs1,hw1])
 rw[hfold.1,bq]
 show cond (decide (6<((M.grown guards plan).1.length:Int))) _ (af (Sm (.sl ag) (M.grown guards plan).1) (some ((M.grown guards plan).1.take ((M.grown guards plan).1.length:Int).toNat,true)))=_
 rw[aj ⟨by have:=hfold.2.2.1;have h6:=M.rP hp;show (M.grown guards plan).1.length<=1048576;have e:(M.grown guards plan).1=((aN 0 (plan.length:Int)).foldl (M.ct guards plan) ([],List.replicate plan.length (0:Int))).1:=rfl;rw[e];omega,hfold.2.2.2⟩,M.ia,dx]
theorem F.xX (a:LV) (b:LV) (h_a:Sm (Ty.sl aa) a) (h_b:Sm (Ty.sl aa) b) (p0:a=b):F.qi a b=some true:=by
 subst p0
 unfold F.qi
 exact M.eq_eq (fun i h0 h1=>by
  unfold F.jm
  rw[aj h1,(beq_iff (t:=aa) rfl _ _).2 rfl]
  rfl)
theorem F.wP (a:LLV) (b:LLV) (h_a:Sm (Ty.sl (Ty.sl aa)) a) (h_b:Sm (Ty.sl (Ty.sl aa)) b) (p0:a=b):F.oz a b=some true:=by
 subst p0
 unfold F.oz
 exact M.eq_eq (fun i h0 h1=>by
  unfold F.iM
  rw[aj h1]
  simp only[decide_true,Bool.not_true,show ((false:Bool)==false)=true from rfl,cond_true,cond_false,eq_self,M.xy])
theorem F.AX (plan:LS) (h_plan:Sm (Ty.sl ag) plan) (p0:M.jU plan):F.uj plan=some (M.gY plan):=by
 unfold F.uj M.gY
 have hl:=h_plan.1
 have hw:wrap64 ((plan.length:Int)-(1:Int))=(plan.length:Int)-1:=fQ _ hl
 have h0:=p0.1
 rw[hw,aj (by omega),aj (by simp;omega),bz]
 have e1:(plan.length:Int).toNat=plan.length:=by simp
 have e2:((plan.length:Int)-1).toNat=plan.length-1:=by omega
 rw[e1,e2,(M.zJ (M.eg plan) (fun u:List Bool=>u.length=plan.length) plan.length (fun k u k0 k1 hI=>by
   refine⟨?_,by rw[M.pT];exact hI⟩
   unfold F.lg M.eg
   have hin:=p0.2 k k0 k1
   have hu:k<(u.length:Int):=by rw[hI];exact k1
   simp only
   rw[decide_eq_true k0,cond_true,aj k0,aj k1,aj hu,aI (n:=k-1) (by omega) (by omega)]
   cases nth (t:=.bool) u k
   ·rfl
   by_cases h1:(nth (t:=ag) plan k).1=(1:Int)
   ·rw[decide_eq_true h1]
    rfl
   obtain⟨⟨a0,a1⟩,⟨b0,b1⟩⟩:=hin h1
   have a2:(nth (t:=ag) plan k).2.1<(u.length:Int):=by rw[hI];exact Int.lt_trans a1 k1
   have b2:(nth (t:=ag) plan k).2.2.1<((u.set (nth (t:=ag) plan k).2.1.toNat true).length:Int):=by rw[List.length_set,hI];exact Int.lt_trans b1 k1
   rw[decide_eq_false h1]
   simp only[Bool.not_false,Bool.and_true,cond_true,bz,show ((true:Bool)==true)=true from rfl]
   rw[aj a0,aj a2]
   repeat rw[aj b0]
   repeat rw[aj b2]
   unfold M.two
   cases decide ((nth (t:=ag) plan k).1=(4:Int))<;>cases decide ((nth (t:=ag) plan k).1=(5:Int))<;>rfl) (fun u hI=>rfl) plan.length _ (Nat.le_refl _) (by simp)).1]
 rfl
theorem F.CE (plan:LS) (h_plan:Sm (Ty.sl ag) plan) (p0:M.jU plan):F.vY plan=some (M.tidy plan):=by
 unfold F.vY M.tidy
 have hl:=h_plan.1
 have e1:(plan.length:Int).toNat=plan.length:=by simp
 rw[bz,M.BV,aj (by unfold ja;omega),e1]
 have hfold:=M.sk (f:=F.jO plan (plan.length:Int) (M.gY plan)) (fun(v:List ag.D×List Int) k=>((M.cr plan (M.gY plan) (v.2,v.1) k).2,(M.cr plan (M.gY plan) (v.2,v.1) k).1)) (fun k v=>v.2.length=plan.length/\(v.1.length:Int)<=k/\∀s∈v.1,Sm ag s) plan.length (s:=([],List.replicate plan.length (0:Int))) ⟨by simp,by simp,fun s h=>by cases h⟩ (fun k v k0 k1 hI=>by
   have hnext:=M.DV (need:=M.gY plan) h_plan (st:=(v.2,v.1)) k0 hI
   refine⟨?_,hnext⟩
   clear hnext
   have hin:=p0.2 k k0 k1
   obtain⟨hI1,hI2,hI3⟩:=hI
   have hs1:k<(v.2.length:Int):=by rw[hI1];exact k1
   have hnd:k<((M.gY plan).length:Int):=by rw[M.BV];exact k1
   have hl:=h_plan.1
   unfold F.jO M.cr M.ren
   rw[aj hnd]
   cases nth (t:=.bool) (M.gY plan) k
   ·rfl
   simp only[cond_true]
   rw[aj hs1,aj k1]
   simp only[bz,M.jg]
   have hlim:∀s:ag.D,(v.1.length+[s].length) * 80<=lim:=fun s=>by unfold lim;simp;omega
   by_cases h1:(nth (t:=ag) plan k).1=(1:Int)
   ·have ht:M.two (1:Int)=false:=rfl
    rw[decide_eq_true h1,h1,ht]
    simp only[Bool.not_true,cond_true,cond_false]
    rw[aj (hlim _),<-h1]
   obtain⟨⟨a0,a1⟩,⟨b0,b1⟩⟩:=hin h1
   have a2:(nth (t:=ag) plan k).2.1<((v.2.set k.toNat (v.1.length:Int)).length:Int):=by rw[List.length_set,hI1];exact Int.lt_trans a1 k1
   have b2:(nth (t:=ag) plan k).2.2.1<((v.2.set k.toNat (v.1.length:Int)).length:Int):=by rw[List.length_set,hI1];exact Int.lt_trans b1 k1
   rw[decide_eq_false h1,M.eI (t:=.int .i64) k0 a0 (Int.ne_of_gt a1)]
   simp only[Bool.not_false,cond_true,cond_false]
   rw[aj a0,aj a2]
   cases M.two (nth (t:=ag) plan k).1
   ·simp only[cond_false]
    rw[aj (hlim _)]
   ·simp only[cond_true]
    rw[M.eI (t:=.int .i64) k0 b0 (Int.ne_of_gt b1),aj b0,aj b2,aj (hlim _)])
 rw[hfold.1,bq,M.yS (M.cr plan (M.gY plan)) (fun(v:List ag.D×List Int) k=>((M.cr plan (M.gY plan) (v.2,v.1) k).2,(M.cr plan (M.gY plan) (v.2,v.1) k).1)) (fun a b x=>rfl)]
 simp only[M.ia]
theorem F.AN (n:Int) (p0:0<=n) (p1:n<=1099511627776):F.tZ n=some ([]:List az.D):=by
 unfold F.tZ
 have e:wrap64 (n-wrap64 ((0:Int)-(0:Int)))=n:=by
  rw[show wrap64 ((0:Int)-(0:Int))=0 by decide,Int.sub_zero]
  exact aI (by omega) (by omega)
 rw[decide_eq_false (by omega),e]
 by_cases h:0<n
 ·rw[decide_eq_true h]
  simp only[cond_true,cond_false]
  rw[aj p0,aj (by unfold lim;omega)]
  rfl
 ·rw[decide_eq_false h]
  rfl
theorem F.yo (xss:(List LPt)) (h_xss:Sm (Ty.sl (Ty.sl az)) xss):F.qu xss=some (List.flatten xss):=by
 unfold F.qu
 exact M.qc (t:=az) h_xss (fun z v h0 h1=>by
  unfold F.jc
  rw[aI (n:=v+(z.length:Int)) (by omega) (by omega),decide_eq_false (by omega)]
  rfl) (fun z v h1=>by
  unfold F.jf
  rw[aj (by unfold lim;omega)])
theorem F.CS (a:LPt) (b:LPt) (h_a:Sm (Ty.sl az) a) (h_b:Sm (Ty.sl az) b):F.wW a b=some (M.jK a b):=by
 unfold F.wW
 have hA:Sm az M.EN:=⟨trivial,trivial,⟨trivial,trivial,Nat.zero_le _,trivial⟩,trivial⟩
 have hS:Sm (.sl (.sl az)) [a,b,[M.EN]]:=by
  refine⟨show 3<=1048576 by decide,fun x hx=>?_⟩
  rcases List.mem_cons.1 hx with rfl | hx
  ·exact h_a
  rcases List.mem_cons.1 hx with rfl | hx
  ·exact h_b
  rw[List.mem_singleton.1 hx]
  exact⟨show 1<=1048576 by decide,fun y hy=>by rw[List.mem_singleton.1 hy];exact hA⟩
 refine(aj hS).trans ?_
 show some (List.flatten [a,b,[M.EN]])=some (a++b++[M.EN])
 simp
theorem F.vq (e:LPt) (to:(List Int)) (h_e:Sm (Ty.sl az) e) (h_to:Sm (Ty.sl (Ty.int .i64)) to) (p0:M.oF e to.length):F.mN e to=some (M.lZ e to):=by
 unfold F.mN
 have hl:=h_e.1
 rw[bz,aj (by unfold ja;omega)]
 have:=vl (t:=az) (ρ:=Unit) (M.oo to) e.length (f:=F.fA e to (e.length:Int) (e.length:Int) (e.length:Int)) e [] (by simp) (fun x hx A R hA=>by
  unfold F.fA
  rw[aj (by omega),JW]
  unfold M.oo
  by_cases h2:x.1=(2:Int)
  ·obtain⟨c0,c1⟩:=p0 x hx h2
   rw[decide_eq_true h2]
   simp only[cond_true]
   rw[aj c0,aj c1,aj (by omega),bz,Kc]
  ·rw[decide_eq_false h2]
   rfl)
 simp only[List.length_nil,List.nil_append] at this
 rw[show ((0:Nat):Int)=0 from rfl] at this
 rw[this,bq]
 show some ((M.lZ e to).take _)=some (M.lZ e to)
 rw[List.take_of_length_le (by unfold M.lZ;simp)]
theorem F.Cy (all:(List aF.D)) (plan:LS) (at_:Int) (rule:Int) (h_all:Sm (Ty.sl aF) all) (h_plan:Sm (Ty.sl ag) plan) (p0:M.oW plan at_) (p1:1<=rule/\rule<=7):F.wT all plan at_ rule=some (M.cu plan at_ rule):=by
 unfold F.wT M.cu
 obtain⟨⟨a0,a1⟩,hsafe⟩:=p0
 rw[aj a0,aj a1]
 have sS:=aO h_plan at_
 obtain⟨_,_,_,_,_,⟨sl,_⟩,_⟩:=sS

 generalize hs:nth (t:=ag) plan at_=s at *
 generalize hj:nth (t:=ag) plan s.2.1=j at *
 obtain⟨q1,q2,q3⟩:=hsafe
 unfold M.iP
 by_cases r1:rule=(1:Int)
 ·have hO:iN (Ty.int .i64) (br (br (br (br (br (br (br ([]:List (Int×Int)) (1:Int) (2:Int)) (2:Int) (2:Int)) (3:Int) (2:Int)) (4:Int) (2:Int)) (5:Int) (2:Int)) (6:Int) (3:Int)) (7:Int) (6:Int)) rule=(2:Int):=by rw[r1];rfl
  have hI:iN (Ty.int .i64) (br (br (br (br (br (br (br ([]:List (Int×Int)) (1:Int) (2:Int)) (2:Int) (4:Int)) (3:Int) (3:Int)) (4:Int) (6:Int)) (5:Int) (5:Int)) (6:Int) (3:Int)) (7:Int) (6:Int)) rule=(2:Int):=by rw[r1];rfl
  rw[decide_eq_true r1,hO,hI]
  by_cases s2:s.1=(2:Int)
  ·have h1:¬s.1=(1:Int):=by rw[s2];decide
   rw[decide_eq_true s2]
   simp only[Bool.not_true,cond_true,Bool.true_and,show ((false:Bool)==false)=true from rfl]
   rw[aj (q1 h1).1,aj (q1 h1).2]
   by_cases j2:j.1=(2:Int)
   ·rw[decide_eq_true j2]
    simp only[Bool.not_true,cond_false,cond_true]
    rfl
   ·rw[decide_eq_false j2]
    rfl
  ·rw[decide_eq_false s2]
   rfl
 rw[decide_eq_false r1]
 simp only[cond_false]
 by_cases r2:rule=(2:Int)
 ·have hO:iN (Ty.int .i64) (br (br (br (br (br (br (br ([]:List (Int×Int)) (1:Int) (2:Int)) (2:Int) (2:Int)) (3:Int) (2:Int)) (4:Int) (2:Int)) (5:Int) (2:Int)) (6:Int) (3:Int)) (7:Int) (6:Int)) rule=(2:Int):=by rw[r2];rfl
  have hI:iN (Ty.int .i64) (br (br (br (br (br (br (br ([]:List (Int×Int)) (1:Int) (2:Int)) (2:Int) (4:Int)) (3:Int) (3:Int)) (4:Int) (6:Int)) (5:Int) (5:Int)) (6:Int) (3:Int)) (7:Int) (6:Int)) rule=(4:Int):=by rw[r2];rfl
  rw[decide_eq_true r2,hO,hI]
  by_cases s2:s.1=(2:Int)
  ·have h1:¬s.1=(1:Int):=by rw[s2];decide
   rw[decide_eq_true s2]
   simp only[Bool.not_true,cond_true,Bool.true_and,show ((false:Bool)==false)=true from rfl]
   rw[aj (q1 h1).1,aj (q1 h1).2]
   by_cases j2:j.1=(4:Int)
   ·rw[decide_eq_true j2]
    simp only[Bool.not_true,cond_false,cond_true]
    rfl
   ·rw[decide_eq_false j2]
    rfl
  ·rw[decide_eq_false s2]
   rfl
 rw[decide_eq_false r2]
 simp only[cond_false]
 by_cases r3:rule=(3:Int)
 ·have hO:iN (Ty.int .i64) (br (br (br (br (br (br (br ([]:List (Int×Int)) (1:Int) (2:Int)) (2:Int) (2:Int)) (3:Int) (2:Int)) (4:Int) (2:Int)) (5:Int) (2:Int)) (6:Int) (3:Int)) (7:Int) (6:Int)) rule=(2:Int):=by rw[r3];rfl
  have hI:iN (Ty.int .i64) (br (br (br (br (br (br (br ([]:List (Int×Int)) (1:Int) (2:Int)) (2:Int) (4:Int)) (3:Int) (3:Int)) (4:Int) (6:Int)) (5:Int) (5:Int)) (6:Int) (3:Int)) (7:Int) (6:Int)) rule=(3:Int):=by rw[r3];rfl
  rw[decide_eq_true r3,hO,hI]
  by_cases s2:s.1=(2:Int)
  ·have h1:¬s.1=(1:Int):=by rw[s2];decide
   rw[decide_eq_true s2]
   simp only[Bool.not_true,cond_true,Bool.true_and,show ((false:Bool)==false)=true from rfl]
   rw[aj (q1 h1).1,aj (q1 h1).2]
   by_cases j2:j.1=(3:Int)
   ·rw[decide_eq_true j2]
    simp only[Bool.not_true,cond_false,cond_true]
    rw[aj (q2 s2 j2),bz,M.jg]
    rfl
   ·rw[decide_eq_false j2]
    rfl
  ·rw[decide_eq_false s2]
   rfl
 rw[decide_eq_false r3]
 simp only[cond_false]
 by_cases r4:rule=(4:Int)
 ·have hO:iN (Ty.int .i64) (br (br (br (br (br (br (br ([]:List (Int×Int)) (1:Int) (2:Int)) (2:Int) (2:Int)) (3:Int) (2:Int)) (4:Int) (2:Int)) (5:Int) (2:Int)) (6:Int) (3:Int)) (7:Int) (6:Int)) rule=(2:Int):=by rw[r4];rfl
  have hI:iN (Ty.int .i64) (br (br (br (br (br (br (br ([]:List (Int×Int)) (1:Int) (2:Int)) (2:Int) (4:Int)) (3:Int) (3:Int)) (4:Int) (6:Int)) (5:Int) (5:Int)) (6:Int) (3:Int)) (7:Int) (6:Int)) rule=(6:Int):=by rw[r4];rfl
  rw[decide_eq_true r4,hO,hI]
  by_cases s2:s.1=(2:Int)
  ·have h1:¬s.1=(1:Int):=by rw[s2];decide
   rw[decide_eq_true s2]
   simp only[Bool.not_true,cond_true,Bool.true_and,show ((false:Bool)==false)=true from rfl]
   rw[aj (q1 h1).1,aj (q1 h1).2]
   by_cases j2:j.1=(6:Int)
   ·rw[decide_eq_true j2]
    simp only[Bool.not_true,cond_false,cond_true]
    rfl
   ·rw[decide_eq_false j2]
    rfl
  ·rw[decide_eq_false s2]
   rfl
 rw[decide_eq_false r4]
 simp only[cond_false]
 by_cases r5:rule=(5:Int)
 ·have hO:iN (Ty.int .i64) (br (br (br (br (br (br (br ([]:List (Int×Int)) (1:Int) (2:Int)) (2:Int) (2:Int)) (3:Int) (2:Int)) (4:Int) (2:Int)) (5:Int) (2:Int)) (6:Int) (3:Int)) (7:Int) (6:Int)) rule=(2:Int):=by rw[r5];rfl
  have hI:iN (Ty.int .i64) (br (br (br (br (br (br (br ([]:List (Int×Int)) (1:Int) (2:Int)) (2:Int) (4:Int)) (3:Int) (3:Int)) (4:Int) (6:Int)) (5:Int) (5:Int)) (6:Int) (3:Int)) (7:Int) (6:Int)) rule=(5:Int):=by rw[r5];rfl
  rw[decide_eq_true r5,hO,hI]
  by_cases s2:s.1=(2:Int)
  ·have h1:¬s.1=(1:Int):=by rw[s2];decide
   rw[decide_eq_true s2]
   simp only[Bool.not_true,cond_true,Bool.true_and,show ((false:Bool)==false)=true from rfl]
   rw[aj (q1 h1).1,aj (q1 h1).2]
   by_cases j2:j.1=(5:Int)
   ·rw[decide_eq_true j2]
    simp only[Bool.not_true,cond_false,cond_true]
    rfl
   ·rw[decide_eq_false j2]
    rfl
  ·rw[decide_eq_false s2]
   rfl
 rw[decide_eq_false r5]
 simp only[cond_false]
 by_cases r6:rule=(6:Int)
 ·have hO:iN (Ty.int .i64) (br (br (br (br (br (br (br ([]:List (Int×Int)) (1:Int) (2:Int)) (2:Int) (2:Int)) (3:Int) (2:Int)) (4:Int) (2:Int)) (5:Int) (2:Int)) (6:Int) (3:Int)) (7:Int) (6:Int)) rule=(3:Int):=by rw[r6];rfl
  have hI:iN (Ty.int .i64) (br (br (br (br (br (br (br ([]:List (Int×Int)) (1:Int) (2:Int)) (2:Int) (4:Int)) (3:Int) (3:Int)) (4:Int) (6:Int)) (5:Int) (5:Int)) (6:Int) (3:Int)) (7:Int) (6:Int)) rule=(3:Int):=by rw[r6];rfl
  rw[decide_eq_true r6,hO,hI]
  by_cases s2:s.1=(3:Int)
  ·have h1:¬s.1=(1:Int):=by rw[s2];decide
   rw[decide_eq_true s2]
   simp only[Bool.not_true,cond_true,Bool.true_and,show ((false:Bool)==false)=true from rfl]
   rw[aj (q1 h1).1,aj (q1 h1).2]
   by_cases j2:j.1=(3:Int)
   ·rw[decide_eq_true j2]
    simp only[Bool.not_true,cond_false,cond_true]
    rw[uo (fun z=>nth (t:=.int .i64) j.2.2.2.2.2.1 z) s.2.2.2.2.2.1 [] (fun z hz v hv=>by
     simp only[List.length_nil,Nat.zero_add] at hv
     have hz2:=q3 s2 j2 z hz
     unfold F.mB
     rw[hs,hj,aj hz2.1,aj hz2.2,aj (by unfold lim;simp;omega)]),bq]
    rfl
   ·rw[decide_eq_false j2]
    rfl
  ·rw[decide_eq_false s2]
   rfl
 rw[decide_eq_false r6]
 simp only[cond_false]
 by_cases r7:rule=(7:Int)
 ·have hO:iN (Ty.int .i64) (br (br (br (br (br (br (br ([]:List (Int×Int)) (1:Int) (2:Int)) (2:Int) (2:Int)) (3:Int) (2:Int)) (4:Int) (2:Int)) (5:Int) (2:Int)) (6:Int) (3:Int)) (7:Int) (6:Int)) rule=(6:Int):=by rw[r7];rfl
  have hI:iN (Ty.int .i64) (br (br (br (br (br (br (br ([]:List (Int×Int)) (1:Int) (2:Int)) (2:Int) (4:Int)) (3:Int) (3:Int)) (4:Int) (6:Int)) (5:Int) (5:Int)) (6:Int) (3:Int)) (7:Int) (6:Int)) rule=(6:Int):=by rw[r7];rfl
  rw[decide_eq_true r7,hO,hI]
  by_cases s2:s.1=(6:Int)
  ·have h1:¬s.1=(1:Int):=by rw[s2];decide
   rw[decide_eq_true s2]
   simp only[Bool.not_true,cond_true,Bool.true_and,show ((false:Bool)==false)=true from rfl]
   rw[aj (q1 h1).1,aj (q1 h1).2]
   by_cases j2:j.1=(6:Int)
   ·rw[decide_eq_true j2]
    simp only[Bool.not_true,cond_false,cond_true]
    rfl
   ·rw[decide_eq_false j2]
    rfl
  ·rw[decide_eq_false s2]
   rfl
 exact absurd p1 (by omega)
theorem F.zo (tables:LTb) (plan:LS) (at_:Int) (rule:Int) (h_tables:Sm (Ty.sl aq) tables) (h_plan:Sm (Ty.sl ag) plan) (p0:M.aW tables plan=true) (p1:0<=at_) (p2:at_<(plan.length:Int)) (p3:1<=rule/\rule<=7):F.sn tables plan at_ rule=some (M.gZ tables plan at_ rule):=by
 have facts:=M.tN p0 h_plan p1 p2
 have h6:=M.rP p0
 have refs:=(M.dX p0).2
 unfold F.sn M.gZ
 rw[bz,aj (HY h_tables h_plan),aj facts.1,bz]
 have hn:=facts.2.2.2.2 rule
 have h3:(M.cu plan at_ rule).length<=3:=M.yI _ _ _ _
 generalize M.cu plan at_ rule=N at *
 cases decide ((N.length:Int)=(0:Int)) with
 | true=>rfl
 | false=>
  simp only[cond_false,bz]
  have ht:(plan.take at_.toNat).length<=6:=Nat.le_trans (List.length_take_le' _ _) h6
  rw[aj p1,aj (Int.le_of_lt p2),Iq,aj (by unfold lim;simp;omega),aI (n:=at_+(1:Int)) (by omega) (by omega),aj (by omega),aj (by omega),yX plan (by omega) (by omega),show (at_+1).toNat=at_.toNat+1 by omega]
  rw[uo (M.shift at_ (wrap64 ((N.length:Int)-1))) (plan.drop (at_.toNat+1)) (plan.take at_.toNat++N) (fun z hz v hv=>by
   have hmem:=List.mem_of_mem_drop hz
   obtain⟨k,hk,e⟩:=List.getElem_of_mem hmem
   have hin:=refs (k:Int) (by omega) (by omega)
   have e2:nth (t:=ag) plan (k:Int)=z:=by
    rw[jH (by omega) (by omega)]
    simpa using e
   rw[e2] at hin
   have hlv:v.length<=20:=by
    simp only[List.length_append,List.length_drop] at hv
    omega
   have hlim:∀s:ag.D,(v.length+[s].length) * 80<=lim:=fun s=>by unfold lim;simp;omega
   have hw:∀x:Int,0<=x->x<(k:Int)->wrap64 (wrap64 (x+(N.length:Int))-(1:Int))=wrap64 (x+wrap64 ((N.length:Int)-1)):=fun x x0 x1=>by
    rw[aI (n:=x+(N.length:Int)) (by omega) (by omega),aI (n:=(N.length:Int)-1) (by omega) (by omega),show x+(N.length:Int)-1=x+((N.length:Int)-1) by omega]
   have hc:∀x:Int,decide (at_<=x)=!decide (x<at_):=fun x=>by
    by_cases h:x<at_
    ·rw[decide_eq_true h,decide_eq_false (by omega)];rfl
    ·rw[decide_eq_false h,decide_eq_true (by omega)];rfl
   unfold F.jI M.shift
   simp only[bz,M.jg]
   rw[hc z.2.1,hc z.2.2.1]
   by_cases h1:z.1=(1:Int)
   ·have h2:M.two z.1=false:=by rw[h1];rfl
    rw[decide_eq_true h1,h2]
    exact aj (hlim _)
   ·obtain⟨⟨z0,z1⟩,w0,w1⟩:=hin h1
    rw[decide_eq_false h1,hw _ z0 z1,hw _ w0 w1]
    cases M.two z.1<;>cases decide (z.2.1<at_)<;>cases decide (z.2.2.1<at_)<;>simp only[cond_true,cond_false,Bool.and_self,Bool.and_true,Bool.true_and,Bool.and_false,Bool.false_and,Bool.or_self,Bool.or_true,Bool.true_or,Bool.or_false,Bool.false_or,Bool.not_true,Bool.not_false,show ((true:Bool)==true)=true from rfl,show ((false:Bool)==true)=false from rfl,show ((false:Bool)==false)=true from rfl,show ((true:Bool)==false)=false from rfl]<;>rw[aj (hlim _)]),bq]
  show af (Sm (.sl ag) (M.cv plan at_ N)) (cond (!(M.aW tables (M.cv plan at_ N))) (some (plan,false)) (some (M.cv plan at_ N,true)))=_
  rw[aj (M.IL h_plan h6 hn h3),dx,sw]
theorem F.Ap (tables:LTb) (plan:LS) (h_tables:Sm (Ty.sl aq) tables) (h_plan:Sm (Ty.sl ag) plan) (p0:M.aW tables plan=true):F.ri tables plan=some (M.better tables plan):=by
 unfold F.ri M.better M.jN
 have hg:M.Good tables plan:=⟨p0,h_plan⟩
 have key:∀(n:Nat) (k:Int),(8-k).toNat=n->1<=k->cN (F.ff tables plan) k=some (match jo (M.mL tables plan) (aN k 8) with | some q=>.inr q | none=>.inl ()):=by
  intro n
  induction n with
  | zero=>
   intro k hk k1
   rw[eV,M.FI _ k 8 (by omega)]
   unfold F.ff
   rw[decide_eq_false (by omega)]
   rfl
  | succ n ih=>
   intro k hk k1
   have e:F.ff tables plan k=some (match M.mL tables plan k with | some q=>.inr (.inr q) | none=>.inl (k+1)):=by
    unfold F.ff M.mL
    rw[decide_eq_true (show k<=7 by omega),cond_true,aI (n:=k+1) (by omega) (by omega),EZ (M.pN tables plan k) (fun i hi=>by
     obtain⟨i0,i1⟩:=eZ.1 hi
     have hq:=M.xA hg i0 i1 k
     unfold F.jP M.pN
     rw[aj p0,aj (⟨k1,by omega⟩:1<=k/\k<=7),bz]
     cases (M.gZ tables plan i k).2 with
     | false=>rfl
     | true=>
      simp only[cond_true]
      rw[aj hq.2,aj (M.dX hq.1),bz])]
    cases jo (M.pN tables plan k) (aN 0 (plan.length:Int))<;>rfl
   rw[eV,M.Du _ k 8 (by omega),e]
   cases M.mL tables plan k with
   | some q=>rfl
   | none=>exact ih (k+1) (by omega) (by omega)
 rw[key 7 1 rfl (by decide)]
 cases jo (M.mL tables plan) (aN 1 8)<;>rfl
theorem F.vV (tables:LTb) (plan:LS) (h_tables:Sm (Ty.sl aq) tables) (h_plan:Sm (Ty.sl ag) plan):F.ou tables plan=some (M.gX tables plan):=by
 unfold F.ou M.gX
 cases hp:M.aW tables plan
 ·rfl
 have hg:=M.oV ⟨hp,h_plan⟩
 simp only[Bool.not_true,cond_false,cond_true]
 rw[aj (M.dX hp),bz]
 have key:∀(n:Nat) (k:Int) (p:List ag.D),(12-k).toNat=n->M.Good tables p->Cg (aQ (F.eW tables plan) (aN k 12) p) (fun v=>v)=some (M.nK tables n p):=by
  intro n
  induction n with
  | zero=>
   intro k p hk hg
   rw[cD (by omega)]
   rfl
  | succ n ih=>
   intro k p hk hg
   rw[ep (by omega),bH]
   unfold M.nK
   have e:F.eW tables plan k p=some (match M.jN tables p with | some q=>.inl q | none=>.inr p):=by
    unfold F.eW M.better
    rw[aj hg.2,aj hg.1,bz]
    cases M.jN tables p<;>rfl
   rw[e]
   cases hb:M.jN tables p with
   | none=>rfl
   | some q=>exact ih (k+1) q (by omega) (M.rQ hg hb)
 rw[key 12 0 _ rfl hg]
 rfl
theorem F.nY (code:(List Int)) (h_code:Ln (Ty.sl (Ty.int .u8)) code) (p0:M.ay code):F.gG code=some true:=by
 unfold F.gG
 by_cases hc:(1048576:Int)<(code.length:Int)
 ·rw[decide_eq_true hc]
  rfl
 rw[decide_eq_false hc,cond_false]
 have hs:Sm (.sl (.int .u8)) code:=⟨by omega,fun _ _=>trivial⟩
 rw[aj hs,bz]
 obtain⟨d0,d1,d2,d3,d4,d5,d6,d7⟩:=M.pg code hs p0
 generalize M.cT code=r at *
 obtain⟨ts,gs,plan,c⟩:=r
 simp only at d0 d1 d2 d3 d4 d5 d6 d7 ⊢
 have st:Sm (.sl aq) ts:=M.Gh d0 d2 (by decide)
 have sg:Sm (.sl aL) gs:=M.BS d3 d4 (by decide)
 have sp:Sm (.sl ag) plan:=M.qZ d5 d6 (by decide)
 simp only[bz,M.jg]
 rw[aj st,aj sg,aj sp]
 have sq:Sm (.sl ag) (M.cU ts gs plan).1:=M.Fx sg sp
 cases h:(M.cU ts gs plan).2 with
 | false=>rfl
 | true=>
  have hp:=(M.CY h).1
  generalize (M.cU ts gs plan).1=q at *
  have g2:=(M.AS sq hp).2
  have sb:Sm (.sl ag) (M.gX ts q):=M.Ek sq
  have sr:Sm (.sl (.sl aa)) (M.bT ts q):=Dq st sq
  rw[g2,decide_eq_true (show (c.2.1.length:Int)<=(4:Int) by omega)]
  simp only[Bool.not_true,show ((true:Bool)==true)=true from rfl,show ((false:Bool)==false)=true from rfl,cond_true]
  rw[aj sq,aj sb,aj sr,aj sr,M.xy]
end Go.AE
