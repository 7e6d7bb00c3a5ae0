/- What the functions compute is what is said. -/
import Derived.Test.YtiplhefglgpdoaaGreatAeF
import Derived.Test.YtiplhefglgpdoaaGreatAeMR
import Derived.Test.YtiplhefglgpdoaaGreatAeEqI
import Derived.Test.YtiplhefglgpdoaaGreatAeEqR
import Derived.Test.YtiplhefglgpdoaaGreatAeRG
import Derived.Test.YtiplhefglgpdoaaGreatAeEqV
import Derived.Test.YtiplhefglgpdoaaGreatAeEqP
namespace Go.AE
open Go Go.RowKit
set_option linter.unusedVariables false
set_option linter.unusedSimpArgs false
set_option maxHeartbeats 2000000
theorem F.wZ (n:Int) (low:Int) (high:Int)  : F.pS n low high=some (M.inR n low high):=by
 unfold F.pS M.inR
 cases decide (low<=n)<;>rfl
theorem F.wT (s:ByteArray) (h_s:Sm Ty.str s):F.oR s=some (M.lower (bU s)):=by
 unfold F.oR M.lower
 rw[gJ (fun n=>M.inR n 97 122) () (fun x hx=>by
  obtain⟨h0,h1⟩:=Gn hx
  simp only[F.iK,oh,cC,aK (n:=x) (by omega) (by omega)])]
 cases (bU s).all fun n=>M.inR n 97 122<;>rfl
theorem F.vI (v:aa.D) (h_v:Sm aa v):F.nW v=some (M.aW v):=by
 unfold F.nW M.aW M.text
 simp only[jK]
 rw[show decide ((v.2.2.1.size:Int)<=6)=decide (v.2.2.1.size<=6) from decide_eq_decide.2 (by omega)]
 simp only[Ty.beq]
 cases h0:decide (v.1=(0:Int))
 ·generalize decide (v.1=(1:Int))=b1
  generalize decide (v.1=(2:Int))=b2
  generalize decide (v.1=(3:Int))=b3
  generalize decide (v.2.1=(0:Int))=c0
  generalize decide (v.2.2.1.size<=6)=c6
  generalize M.inR v.2.1 (-9999) 9999=c1
  generalize M.inR v.2.1 0 1=c3
  generalize decide (v.2.2.1=M.none_)=e0
  cases b1<;>cases b2<;>cases b3<;>cases c0<;>cases c6<;>cases c1<;>cases c3<;>cases e0<;>rfl
 ·simp only[cond_true,Bool.true_and,Bool.and_true]
theorem F.wX (v:aa.D) (h_v:Sm aa v):F.tH v=some (M.aW v):=by
 rfl
theorem F.zn   : F.sN  = some true:=by
 unfold F.sN
 rw[show M.aW ((1:Int),((3:Int),((⟨#[]⟩:ByteArray),())))=true from rfl,show M.aW ((9:Int),((0:Int),((⟨#[]⟩:ByteArray),())))=false from rfl]
 rfl
theorem F.ua (a:LPt) (b:LPt) (h_a:Sm (Ty.sl aC) a) (h_b:Sm (Ty.sl aC) b) (p0:a=b):F.lU a b=some true:=by
 subst p0
 unfold F.lU
 exact M.eq_eq (fun i h0 h1=>by
  unfold F.gf
  rw[aj h1,(beq_iff (t:=aC) rfl _ _).2 rfl]
  rfl)
theorem F.uX (a:(List Int)) (b:(List Int)) (h_a:Sm (Ty.sl (Ty.int .i64)) a) (h_b:Sm (Ty.sl (Ty.int .i64)) b) (p0:a=b):F.nj a b=some true:=by
 subst p0
 unfold F.nj
 exact M.eq_eq (fun i h0 h1=>by
  unfold F.gZ
  rw[aj h1]
  simp only[decide_true,Bool.not_true,show ((false:Bool)==false)=true from rfl,cond_true,cond_false,eq_self,M.kL])
theorem F.th (a:LS) (b:LS) (h_a:Sm (Ty.sl ah) a) (h_b:Sm (Ty.sl ah) b) (p0:a=b):F.lY a b=some true:=by
 subst p0
 unfold F.lY
 exact M.eq_eq (fun i h0 h1=>by
  unfold F.gj
  rw[aj h1]
  simp only[decide_true,Bool.not_true,show ((false:Bool)==false)=true from rfl,cond_true,cond_false,eq_self,M.kL])
theorem F.rH (c:ag.D)  : F.oa c=some (!M.dV c):=by
 rfl
theorem F.kH (xs:LC) (h_xs:Sm (Ty.sl ag) xs):F.gL xs=some (M.idx (t:=ag) (fun e=>!M.dV e) xs):=by
 exact hY (t:=ag) (p:=(fun e=>!M.dV e)) (fun i h0 h1=>by simp only[F.cH,cC])
theorem F.je (xs:LC) (h_xs:Sm (Ty.sl ag) xs):F.dF xs=some (List.any xs (fun e=>!M.dV e)):=by
 unfold F.dF
 exact fV (t:=ag)
theorem F.tD (columns:LC) (h_columns:Sm (Ty.sl ag) columns):F.mD columns=some (M.bE columns):=by
 unfold F.mD M.bE
 rw[jK,show decide ((columns.length:Int)<=4)=decide (columns.length<=4) from decide_eq_decide.2 (by omega)]
 rw[List.all_eq_not_any_not]
theorem F.wM (v:aa.D) (h_v:Sm aa v):F.tI v=some (!M.aW v):=by
 rfl
theorem F.mJ (xs:LV) (h_xs:Sm (Ty.sl aa) xs):F.jt xs=some (M.idx (t:=aa) (fun e=>!M.aW e) xs):=by
 exact hY (t:=aa) (p:=(fun e=>!M.aW e)) (fun i h0 h1=>by simp only[F.dg,cC])
theorem F.kW (xs:LV) (h_xs:Sm (Ty.sl aa) xs):F.eM xs=some (List.any xs (fun e=>!M.aW e)):=by
 unfold F.eM
 exact fV (t:=aa)
theorem F.zy (row:LV) (h_row:Sm (Ty.sl aa) row):F.sn row=some (M.ov row):=by
 unfold F.sn M.ov
 rw[jK,show decide ((row.length:Int)<=4)=decide (row.length<=4) from decide_eq_decide.2 (by omega)]
 rw[List.all_eq_not_any_not]
theorem F.xm (columns:LC) (row:LV) (h_columns:Sm (Ty.sl ag) columns) (h_row:Sm (Ty.sl aa) row):F.oU columns row=some (M.cA columns row):=by
 unfold F.oU M.cA
 cases M.bE columns
 ·rfl
 cases M.ov row
 ·rfl
 by_cases hl:row.length=columns.length
 ·rw[gJ (M.sI columns row) () (fun i hi=>by
   obtain⟨h0,h1⟩:=eY.1 hi
   have h2:i<(columns.length:Int):=by omega
   simp only[F.iH,aj h2]
   unfold M.sI
   cases decide ((nth (t:=aa) row i).1=(nth (t:=ag) columns i).1)<;>cases decide ((nth (t:=aa) row i).1=(0:Int))<;>cases (nth (t:=ag) columns i).2.1<;>rfl)]
  simp only[hl,Bool.not_true,decide_true,Bool.true_and,cond_true,cond_false]
  cases (aQ 0 (columns.length:Int)).all (M.sI columns row)<;>rfl
 ·have h3:¬(row.length:Int)=(columns.length:Int):=by omega
  simp[hl,h3]
theorem F.vQ (r:LV) (columns:LC) (h_r:Sm (Ty.sl aa) r) (h_columns:Sm (Ty.sl ag) columns):F.rX r columns=some (!M.cA columns r):=by
 rfl
theorem F.mI (xs:LLV) (k0:LC) (h_xs:Sm (Ty.sl (Ty.sl aa)) xs) (h_k0:Sm (Ty.sl ag) k0):F.iU xs k0=some (M.idx (t:=(Ty.sl aa)) (fun e=>!M.cA k0 e) xs):=by
 exact hY (t:=(Ty.sl aa)) (p:=(fun e=>!M.cA k0 e)) (fun i h0 h1=>by simp only[F.cX,cC])
theorem F.kg (xs:LLV) (k0:LC) (h_xs:Sm (Ty.sl (Ty.sl aa)) xs) (h_k0:Sm (Ty.sl ag) k0):F.eG xs k0=some (List.any xs (fun e=>!M.cA k0 e)):=by
 unfold F.eG
 exact fV (t:=(Ty.sl aa))
theorem F.yM (columns:LC) (rows:LLV) (h_columns:Sm (Ty.sl ag) columns) (h_rows:Sm (Ty.sl (Ty.sl aa)) rows):F.qQ columns rows=some (M.gb columns rows):=by
 unfold F.qQ M.gb
 rw[jK,List.all_eq_not_any_not]
theorem F.sW (t:ax.D) (h_t:Sm ax t):F.kY t=some (!M.cY t):=by
 unfold F.kY M.cY
 cases hc:M.bE t.1
 ·have:M.gb t.1 t.2.1=false:=by unfold M.gb;rw[hc];rfl
  rw[this]
  simp
 by_cases h:t.2.1.length<=6
 ·have h2:¬(6:Int)<(t.2.1.length:Int):=by omega
  simp[h2,h]
 ·have h2:(6:Int)<(t.2.1.length:Int):=by omega
  simp[h2,h]
theorem F.kO (xs:LTb) (h_xs:Sm (Ty.sl ax) xs):F.iq xs=some (M.idx (t:=ax) (fun e=>!M.cY e) xs):=by
 exact hY (t:=ax) (p:=(fun e=>!M.cY e)) (fun i h0 h1=>by simp only[F.cL,cC])
theorem F.ju (xs:LTb) (h_xs:Sm (Ty.sl ax) xs):F.dQ xs=some (List.any xs (fun e=>!M.cY e)):=by
 unfold F.dQ
 exact fV (t:=ax)
theorem F.uV (tables:LTb) (h_tables:Sm (Ty.sl ax) tables):F.nr tables=some (M.bN tables):=by
 unfold F.nr M.bN
 rw[jK,show decide ((tables.length:Int)<=3)=decide (tables.length<=3) from decide_eq_decide.2 (by omega)]
 rw[List.all_eq_not_any_not]
theorem F.sO (p:aC.D) (h_p:Sm aC p):F.lf p=some (M.takes p):=by
 unfold F.lf M.takes
 generalize decide (p.1=(3:Int))=c3
 generalize decide (p.1=(4:Int))=c4
 generalize decide (p.1=(5:Int))=c5
 generalize decide (p.1=(6:Int))=c6
 generalize decide (p.1=(7:Int))=c7
 generalize decide (p.1=(8:Int))=c8
 cases c3<;>cases c4<;>cases c5<;>cases c6<;>cases c7<;>cases c8<;>rfl
theorem F.sx (p:aC.D) (columns:LC) (h_p:Sm aC p) (h_columns:Sm (Ty.sl ag) columns):F.kM p columns=some (M.lz p columns):=by
 unfold F.kM M.lz M.noV
 rw[fy _ h_columns.1]
 simp only[jK,show Ty.beq aa p.2.2.1 ((0:Int),(0:Int),(⟨#[]⟩:ByteArray),())=Ty.beq aa p.2.2.1 M.zeroV from rfl]
 generalize Ty.beq aa p.2.2.1 M.zeroV=nv
 by_cases e1:p.1=(1:Int)
 ·simp only[e1,decide_true,cond_true]
 by_cases e2:p.1=(2:Int)
 ·simp only[e2,decide_true,cond_true,Int.reduceEq,decide_false,cond_false]
 by_cases e4:p.1=(4:Int)
 ·simp only[e4,decide_true,cond_true,Int.reduceEq,decide_false,cond_false]
 by_cases e3:p.1=(3:Int)
 ·simp only[e3,decide_true,cond_true,Int.reduceEq,decide_false,cond_false]
  rfl
 by_cases e5:p.1=(5:Int)
 ·simp only[e5,decide_true,cond_true,Int.reduceEq,decide_false,cond_false]
  rfl
 by_cases e6:p.1=(6:Int)
 ·simp only[e6,decide_true,cond_true,Int.reduceEq,decide_false,cond_false]
  rfl
 by_cases e7:p.1=(7:Int)
 ·simp only[e7,decide_true,cond_true,Int.reduceEq,decide_false,cond_false]
  rfl
 by_cases e8:p.1=(8:Int)
 ·simp only[e8,decide_true,cond_true,Int.reduceEq,decide_false,cond_false]
  rfl
 simp only[e1,e2,e3,e4,e5,e6,e7,e8,decide_false,cond_false,Eb e3 e4 e5 e6 e7 e8]
theorem F.qf (k:Int) (kind:Int)  : F.mC k kind=some (!decide (k=kind)):=by
 rfl
theorem F.jv (xs:(List Int)) (k0:Int) (h_xs:Sm (Ty.sl (Ty.int .i64)) xs):F.fU xs k0=some (M.idx (t:=(Ty.int .i64)) (fun e=>!decide (e=k0)) xs):=by
 exact hY (t:=(Ty.int .i64)) (p:=(fun e=>!decide (e=k0))) (fun i h0 h1=>by simp only[F.cz,cC])
theorem F.iP (xs:(List Int)) (k0:Int) (h_xs:Sm (Ty.sl (Ty.int .i64)) xs):F.dc xs k0=some (List.any xs (fun e=>!decide (e=k0))):=by
 unfold F.dc
 exact fV (t:=(Ty.int .i64))
theorem F.rJ (kind:Int) (ins:(List Int)) (h_ins:Sm (Ty.sl (Ty.int .i64)) ins):F.jB kind ins=some (List.all ins (fun k=>decide (k=kind))):=by
 unfold F.jB
 rw[List.all_eq_not_any_not]
theorem F.tG (p:aC.D) (columns:LC) (inp:(List Int)) (h_p:Sm aC p) (h_columns:Sm (Ty.sl ag) columns) (h_inp:Sm (Ty.sl (Ty.int .i64)) inp) (p0:M.lz p columns=true) (p1:(inp.length:Int)=M.takes p):F.mw p columns inp=some (M.cI p columns inp):=by
 unfold F.mw M.cI
 obtain⟨_,hc⟩:=xX p0
 by_cases e1:p.1=(1:Int)
 ·simp only[e1,decide_true,cond_true]
 by_cases e2:p.1=(2:Int)
 ·obtain⟨c0,c1⟩:=hc e2
  simp only[e2,decide_true,cond_true,Int.reduceEq,decide_false,cond_false]
  rw[aj c0,aj c1]
 by_cases e4:p.1=(4:Int)
 ·rw[jM (.inr (.inl e4))] at p1
  simp only[e4,decide_true,cond_true,Int.reduceEq,decide_false,cond_false]
  repeat rw[aj (by omega)]
 cases decide (p.1=(3:Int))<;>cases decide (p.1=(8:Int))<;>simp[e1,e2,e4]
theorem F.uP (columns:LC) (e:LPt) (h_columns:Sm (Ty.sl ag) columns) (h_e:Sm (Ty.sl aC) e):F.nH columns e=some (M.bT columns e):=by
 unfold F.nH M.bT
 cases M.bE columns
 ·rfl
 by_cases hl:e.length<=12
 ·rw[decide_eq_false (show ¬(12:Int)<(e.length:Int) by omega),decide_eq_true hl]
  rw[rW e [] (by simp;omega)]
  cases M.jd columns e [] with
  | none=>rfl
  | some s=>
   match s with
   | []=>rfl
   | [a]=>exact aj (by simp)
   | a::b::l=>
    have:¬((a::b::l).length:Int)=1:=by simp;omega
    simp only[this,decide_false]
    rfl
 ·rw[decide_eq_true (show (12:Int)<(e.length:Int) by omega),decide_eq_false hl]
  rfl
theorem F.vz (xs:LC) (h_xs:Sm (Ty.sl ag) xs):F.rQ xs=some xs:=by
 exact M.rF (t:=ag)
theorem F.sC (s:ah.D) (h_s:Sm ah s):F.lp s=some (M.bI s):=by
 unfold F.lp M.bI M.two
 generalize decide (s.2.1=(0:Int))=a0
 generalize decide (s.2.2.1=(0:Int))=b0
 generalize decide (s.2.2.2.1=(0:Int))=n0
 generalize decide ((s.2.2.2.2.1.length:Int)=(0:Int))=e0
 generalize decide ((s.2.2.2.2.2.1.length:Int)=(0:Int))=l0
 by_cases h1:s.1=(1:Int)
 ·simp only[h1,Int.reduceEq,decide_true,decide_false]
  cases a0<;>cases b0<;>cases n0<;>cases e0<;>cases l0<;>rfl
 by_cases h2:s.1=(2:Int)
 ·simp only[h2,Int.reduceEq,decide_true,decide_false]
  cases a0<;>cases b0<;>cases n0<;>cases e0<;>cases l0<;>rfl
 by_cases h3:s.1=(3:Int)
 ·simp only[h3,Int.reduceEq,decide_true,decide_false]
  cases a0<;>cases b0<;>cases n0<;>cases e0<;>cases l0<;>rfl
 by_cases h4:s.1=(4:Int)
 ·simp only[h4,Int.reduceEq,decide_true,decide_false]
  cases a0<;>cases b0<;>cases n0<;>cases e0<;>cases l0<;>rfl
 by_cases h5:s.1=(5:Int)
 ·simp only[h5,Int.reduceEq,decide_true,decide_false]
  cases a0<;>cases b0<;>cases n0<;>cases e0<;>cases l0<;>rfl
 simp only[h1,h2,h3,h4,h5,decide_false]
 cases a0<;>cases b0<;>cases n0<;>cases e0<;>cases l0<;>rfl
theorem F.wU (n:Int) (p0:0<=n) (p1:n<=1099511627776):F.oW n=some ([]:List ag.D):=by
 unfold F.oW
 have e:wrap64 (n-wrap64 ((0:Int)-(0:Int)))=n:=by
  rw[show wrap64 ((0:Int)-(0:Int))=0 by decide,Int.sub_zero]
  exact aK (by omega) (by omega)
 rw[decide_eq_false (by omega),e]
 by_cases h:0<n
 ·rw[decide_eq_true h]
  simp only[cond_true,cond_false]
  rw[aj p0,aj (by unfold lim;omega)]
  rfl
 ·rw[decide_eq_false h]
  rfl
theorem F.tr (xss:LLC) (h_xss:Sm (Ty.sl (Ty.sl ag)) xss):F.mj xss=some (List.flatten xss):=by
 unfold F.mj
 exact M.sB (t:=ag) h_xss (fun z v h0 h1=>by
  unfold F.gk
  rw[aK (n:=v+(z.length:Int)) (by omega) (by omega),decide_eq_false (by omega)]
  rfl) (fun z v h1=>by
  unfold F.gz
  rw[aj (by unfold lim;omega)])
theorem F.uo (s:ah.D) (tables:LTb) (ahead:(List aG.D)) (h_s:Sm ah s) (h_tables:Sm (Ty.sl ax) tables) (h_ahead:Sm (Ty.sl aG) ahead):F.gG s tables ahead=some (M.make s tables ahead):=by
 obtain⟨r,h1,_⟩:=ug h_s h_tables h_ahead
 unfold M.make
 rw[h1]
 rfl
theorem F.zz (tables:LTb) (plan:LS) (h_tables:Sm (Ty.sl ax) tables) (h_plan:Sm (Ty.sl ah) plan):F.lV tables plan=some (M.makes tables plan):=by
 obtain⟨r,h1,_⟩:=rR h_tables h_plan
 unfold M.makes
 rw[h1]
 rfl
theorem F.zl (tables:LTb) (plan:LS) (h_tables:Sm (Ty.sl ax) tables) (h_plan:Sm (Ty.sl ah) plan):F.qm tables plan=some (M.bQ tables plan):=by
 unfold F.qm
 rw[bC]
 exact congrArg some (FJ h_tables h_plan)
theorem F.wW (a:LV) (b:LV) (h_a:Sm (Ty.sl aa) a) (h_b:Sm (Ty.sl aa) b) (p0:a=b):F.pe a b=some true:=by
 subst p0
 unfold F.pe
 exact M.eq_eq (fun i h0 h1=>by
  unfold F.iJ
  rw[aj h1,(beq_iff (t:=aa) rfl _ _).2 rfl]
  rfl)
theorem F.vf (a:LLV) (b:LLV) (h_a:Sm (Ty.sl (Ty.sl aa)) a) (h_b:Sm (Ty.sl (Ty.sl aa)) b) (p0:a=b):F.nB a b=some true:=by
 subst p0
 unfold F.nB
 exact M.eq_eq (fun i h0 h1=>by
  unfold F.gX
  rw[aj h1]
  simp only[decide_true,Bool.not_true,show ((false:Bool)==false)=true from rfl,cond_true,cond_false,eq_self,M.kL])
theorem F.wO (truth:Int)  : F.oJ truth=some (M.valueOf truth):=by
 unfold F.oJ M.valueOf
 cases M.inR truth 0 1<;>rfl
theorem F.xu (b:Bool)  : F.pK b=some (M.bool b):=by
 unfold F.pK M.bool
 rw[cC]
theorem F.zU (vals:(List Int)) (h_vals:Sm (Ty.sl (Ty.int .i64)) vals):F.sX vals=some (M.orI vals):=by
 unfold F.sX
 suffices h:∀(A B:List Int),bt (aO (F.iy A) B ()) (fun v0:Unit=>some (0:Int)) (fun q0:Int=>some q0)=some (M.orI B) from h vals vals
 intro A B
 induction B with
 | nil=>rfl
 | cons x l ih=>
  rw[bS]
  simp only[F.iy,M.orI]
  by_cases hx:x=0
  ·simp only[hx,decide_true,Bool.not_true,cond_false,cond_true,bq]
   exact ih
  ·simp[hx]
theorem F.vC (x:Int)  : F.nE x=some false:=by
 unfold F.nE
 simp
theorem F.sG (x:Int) (y:Int)  : F.kU x y=some (M.vj x y):=by
 unfold F.kU M.vj
 simp only[cond_false,cC]
theorem F.rM (x:ByteArray) (h_x:Sm Ty.str x):F.jG x=some false:=by
 unfold F.jG
 simp
theorem F.qe (x:ByteArray) (y:ByteArray) (h_x:Sm Ty.str x) (h_y:Sm Ty.str y):F.iS x y=some (M.Ci x y):=by
 unfold F.iS M.Ci
 simp only[cond_false,cC]
theorem F.rL (v:aa.D) (w:aa.D) (h_v:Sm aa v) (h_w:Sm aa w):F.jz v w=some (M.order v w):=by
 unfold F.jz
 rw[aj ⟨by simp,fun _ _=>trivial⟩]
 rfl
theorem F.wL (kind:Int) (a:aa.D) (b:aa.D) (h_a:Sm aa a) (h_b:Sm aa b):F.pI kind a b=some (M.compare kind a b):=by
 unfold F.pI M.compare M.BT
 cases hk:M.inR kind 1 4
 ·rfl
 cases M.aW a
 ·rfl
 cases M.aW b
 ·rfl
 have h4:decide (kind=1)=false->decide (kind=2)=false->decide (kind=3)=false->decide (kind=4)=true:=by
  unfold M.inR at hk
  simp at hk ⊢
  omega
 cases decide (a.1=(0:Int))<;>cases decide (b.1=(0:Int))<;>cases decide (a.1=b.1)<;>cases h1:decide (kind=1)<;>cases h2:decide (kind=2)<;>cases h3:decide (kind=3)<;>(try rw[h4 h1 h2 h3])<;>cases decide (M.order a b=0)<;>cases decide (M.order a b<0)<;>rfl
theorem F.xd (n:Int)  : F.tJ n=some (M.inR n 0 2):=by
 rfl
theorem F.By (a:Int) (b:Int) (alone:Int) (p0:0<=alone/\alone<=1):F.uQ a b alone=some (M.fold a b alone):=by
 unfold F.uQ M.fold
 rw[aK (n:=1-alone) (by omega) (by omega)]
 cases M.inR a 0 2
 ·rfl
 cases M.inR b 0 2
 ·rfl
 cases decide (a=alone)<;>cases decide (b=alone)<;>cases decide (a=2)<;>cases decide (b=2)<;>rfl
theorem F.zP (a:Int) (b:Int)  : F.sQ a b=some (M.zV a b):=by
 unfold F.sQ M.zV
 rw[aj (by decide)]
theorem F.xq (v:aa.D) (h_v:Sm aa v):F.pT v=some (M.eI v):=by
 unfold F.pT M.eI
 cases M.aW v<;>simp only[Bool.not_true,Bool.not_false,cond_true,cond_false,cC]
theorem F.Bh (a:Int) (b:Int)  : F.vu a b=some (M.EG a b):=by
 unfold F.vu M.EG
 rw[aj (by decide)]
theorem F.zA (a:Int)  : F.sD a=some (M.An a):=by
 unfold F.sD M.An
 simp only[cC]
theorem F.sF (p:aC.D) (row:LV) (inp:LV) (h_p:Sm aC p) (h_row:Sm (Ty.sl aa) row) (h_inp:Sm (Ty.sl aa) inp) (p0:(inp.length:Int)=M.takes p) (p1:M.vV p row.length) (p2:1<=p.1/\p.1<=8):F.lq p row inp=some (M.iW p row inp):=by
 unfold F.lq M.iW
 have hz:(((0:Int),(0:Int),(⟨#[]⟩:ByteArray),()):aa.D)=M.zeroV:=rfl
 by_cases e1:p.1=(1:Int)
 ·simp only[e1,decide_true,cond_true]
 by_cases e2:p.1=(2:Int)
 ·obtain⟨c0,c1⟩:=p1 e2
  simp only[e2,decide_true,cond_true,Int.reduceEq,decide_false,cond_false]
  rw[aj c0,aj c1]
 by_cases e3:p.1=(3:Int)
 ·rw[jM (.inl e3)] at p0
  simp only[e3,decide_true,cond_true,Int.reduceEq,decide_false,cond_false]
  repeat rw[aj (by omega)]
  generalize nth (t:=aa) inp 0=a
  generalize nth (t:=aa) inp 1=b
  unfold M.sum
  have hv:M.aW ((1:Int),wrap64 (a.2.1+b.2.1),(⟨#[]⟩:ByteArray),())=M.inR (wrap64 (a.2.1+b.2.1)) (-9999) 9999:=by unfold M.aW;simp
  rw[hv]
  cases decide (a.1=(0:Int))<;>cases decide (b.1=(0:Int))<;>cases M.inR (wrap64 (a.2.1+b.2.1)) (-9999) 9999<;>rfl
 by_cases e4:p.1=(4:Int)
 ·rw[jM (.inr (.inl e4))] at p0
  simp only[e4,decide_true,cond_true,Int.reduceEq,decide_false,cond_false,bC]
  repeat rw[aj (by omega)]
 by_cases e5:p.1=(5:Int)
 ·rw[jM (.inr (.inr (.inl e5)))] at p0
  simp only[e5,decide_true,cond_true,Int.reduceEq,decide_false,cond_false,bC]
  repeat rw[aj (by omega)]
 by_cases e6:p.1=(6:Int)
 ·rw[jM (.inr (.inr (.inr e6)))] at p0
  simp only[e6,decide_true,cond_true,Int.reduceEq,decide_false,cond_false,bC]
  repeat rw[aj (by omega)]
 by_cases e7:p.1=(7:Int)
 ·rw[rj (.inl e7)] at p0
  simp only[e7,decide_true,cond_true,Int.reduceEq,decide_false,cond_false,bC]
  repeat rw[aj (by omega)]
 ·simp only[e1,e2,e3,e4,e5,e6,e7,decide_false,cond_false,bC]
  have e8:p.1=(8:Int):=by
   rcases Ht p2 with h | h | h | h | h | h | h | h<;>first | exact h | exact absurd h (by assumption)
  rw[rj (.inr e8)] at p0
  rw[aj (by omega)]
theorem F.ud (row:LV) (e:LPt) (h_row:Sm (Ty.sl aa) row) (h_e:Sm (Ty.sl aC) e) (p0:M.cJ row.length e):F.mA row e=some (M.lT row e):=by
 unfold F.mA M.lT
 obtain⟨h1,h2⟩:=Cr (f:=F.dL row e) h_row (fun p st hp hs hl h1 hk hc=>zm p st hp hs hl h1 hk hc) e [] h_e.2 (gR aa) (by simp;have:=p0.1;omega) p0.2
 rw[h1,bq,aj (by omega)]
theorem F.ux (row:LV) (e:LPt) (h_row:Sm (Ty.sl aa) row) (h_e:Sm (Ty.sl aC) e) (p0:M.cJ row.length e):F.qT row e=some (M.holds row e):=by
 rfl
theorem F.xj (xs:LV) (h_xs:Sm (Ty.sl aa) xs):F.uz xs=some xs:=by
 exact M.rF (t:=aa)
theorem F.zR (row:LV) (list:(List Int)) (h_row:Sm (Ty.sl aa) row) (h_list:Sm (Ty.sl (Ty.int .i64)) list) (p0:M.Ac row list):F.sK row list=some (M.taken row list):=by
 unfold F.sK
 rw[qE (fun i=>nth (t:=aa) row i) (fun x hx s hs=>by
  have hl:=h_list.1
  obtain⟨h0,h1⟩:=p0 x hx
  simp only[F.jW]
  rw[aj h0,aj h1,aj (by unfold lim;simp;omega)])]
 show af (Sm (.sl aa) (M.taken row list)) (aI (M.taken row list) fun r:List aa.D=>some (ai r (some ((0:Int),(r.length:Int)))))=_
 rw[aj (M.Gm h_row h_list)]
 simp only[bC,M.jl]
theorem F.yw (n:Int) (p0:0<=n) (p1:n<=1099511627776):F.qF n=some ([]:List aa.D):=by
 unfold F.qF
 have e:wrap64 (n-wrap64 ((0:Int)-(0:Int)))=n:=by
  rw[show wrap64 ((0:Int)-(0:Int))=0 by decide,Int.sub_zero]
  exact aK (by omega) (by omega)
 rw[decide_eq_false (by omega),e]
 by_cases h:0<n
 ·rw[decide_eq_true h]
  simp only[cond_true,cond_false]
  rw[aj p0,aj (by unfold lim;omega)]
  rfl
 ·rw[decide_eq_false h]
  rfl
theorem F.vc (xss:LLV) (h_xss:Sm (Ty.sl (Ty.sl aa)) xss):F.ng xss=some (List.flatten xss):=by
 unfold F.ng
 exact M.sB (t:=aa) h_xss (fun z v h0 h1=>by
  unfold F.ia
  rw[aK (n:=v+(z.length:Int)) (by omega) (by omega),decide_eq_false (by omega)]
  rfl) (fun z v h1=>by
  unfold F.gY
  rw[aj (by unfold lim;omega)])
theorem F.yj (a:LV) (b:LV) (h_a:Sm (Ty.sl aa) a) (h_b:Sm (Ty.sl aa) b) (p0:a.length+b.length<=1048576):F.qB a b=some (a++b):=by
 unfold F.qB
 have h1:=h_a.1
 have h2:=h_b.1
 have hs:Sm (.sl aa) (a++b):=⟨by rw[List.length_append];omega,fun x hx=>by
  rcases List.mem_append.1 hx with h | h
  ·exact h_a.2 x h
  ·exact h_b.2 x h⟩
 rw[aj (show Sm (.sl (.sl aa)) [a,b] from⟨by simp,fun x hx=>by
  rcases List.mem_cons.1 hx with rfl | hx
  ·exact h_a
  ·cases List.mem_singleton.1 hx
   exact h_b⟩),bC,List.flatten_cons,List.flatten_cons,List.flatten_nil,List.append_nil,aj hs,bC,M.fP]
theorem F.wP (n:Int) (p0:0<=n) (p1:n<=1099511627776):F.pU n=some ([]:List (Ty.sl aa).D):=by
 unfold F.pU
 have e:wrap64 (n-wrap64 ((0:Int)-(0:Int)))=n:=by
  rw[show wrap64 ((0:Int)-(0:Int))=0 by decide,Int.sub_zero]
  exact aK (by omega) (by omega)
 rw[decide_eq_false (by omega),e]
 by_cases h:0<n
 ·rw[decide_eq_true h]
  simp only[cond_true,cond_false]
  rw[aj p0,aj (by unfold lim;omega)]
  rfl
 ·rw[decide_eq_false h]
  rfl
theorem F.tM (xss:(List LLV)) (h_xss:Sm (Ty.sl (Ty.sl (Ty.sl aa))) xss):F.mo xss=some (List.flatten xss):=by
 unfold F.mo
 exact M.sB (t:=(Ty.sl aa)) h_xss (fun z v h0 h1=>by
  unfold F.gi
  rw[aK (n:=v+(z.length:Int)) (by omega) (by omega),decide_eq_false (by omega)]
  rfl) (fun z v h1=>by
  unfold F.gp
  rw[aj (by unfold lim;omega)])
theorem F.uZ (rows:LLV) (h_rows:Sm (Ty.sl (Ty.sl aa)) rows):F.nk rows=some rows:=by
 unfold F.nk
 rw[qE (fun r=>r) (fun x hx s hs=>by
  have hl:=h_rows.1
  simp only[F.hG,bC,M.jl]
  rw[aj (by unfold lim;simp;omega)]),M.tX,bq,M.fP]
theorem F.wR (xs:LV) (ys:LV) (h_xs:Sm (Ty.sl aa) xs) (h_ys:Sm (Ty.sl aa) ys):F.tK xs ys=some (decide (xs=ys)):=by
 exact Gk (t:=aa) (fun i h0 h1 h2=>by simp only[F.iO,aj h2,oh,cC,GC (t:=aa) rfl])
theorem F.xg (rows:LLV) (row:LV) (h_rows:Sm (Ty.sl (Ty.sl aa)) rows) (h_row:Sm (Ty.sl aa) row):F.pF rows row=some (M.fN rows row:Int):=by
 unfold F.pF M.fN
 have hl:=h_rows.1
 have key:∀(l:List (List aa.D)) (v:Int),0<=v->v+(l.length:Int)<=1048576->aO (F.fS rows row) l v=some (.inl (v+(l.countP (fun r=>decide (r=row)):Int))):=by
  intro l
  induction l with
  | nil=>intro v _ _;show some (Sum.inl v)=some (Sum.inl (v+0));rw[Int.add_zero]
  | cons x l ih=>
   intro v h0 hb
   simp only[List.length_cons] at hb
   rw[bS,List.countP_cons,show F.fS rows row x v=cond (decide (x=row)) (some (.inl (wrap64 (v+(1:Int))))) (some (.inl v)) from rfl]
   cases decide (x=row) with
   | true=>
    rw[cond_true,aK (n:=v+(1:Int)) (by omega) (by omega),bq,ih _ (by omega) (by omega)]
    congr 2
    simp
    omega
   | false=>
    rw[cond_false,bq,ih _ h0 (by omega)]
    congr 2
 rw[key rows 0 (by omega) (by omega),bq,Int.zero_add]
theorem F.xp (rows:LLV) (row:LV) (h_rows:Sm (Ty.sl (Ty.sl aa)) rows) (h_row:Sm (Ty.sl aa) row):F.uE rows row=some (decide (0<(M.fN rows row:Int))):=by
 rfl
theorem F.vE (rows:LLV) (h_rows:Sm (Ty.sl (Ty.sl aa)) rows):F.nF rows=some (M.iB rows):=by
 unfold F.nF M.iB
 have hfold:=zB (f:=F.fo rows) rows h_rows (fun z v hz hv=>by
  unfold F.fo M.eT
  have hl:=h_rows.1
  rw[aj hv.1]
  rw[show (!decide ((0:Int)<(M.fN v z:Int)))=decide ((M.fN v z:Int)=(0:Int)) by
   generalize M.fN v z=n
   by_cases h:n=0
   ·rw[decide_eq_false (by omega),decide_eq_true (by omega)];rfl
   ·rw[decide_eq_true (by omega),decide_eq_false (by omega)];rfl]
  cases decide ((M.fN v z:Int)=(0:Int)) with
  | false=>rfl
  | true=>
   simp only[cond_true]
   rw[aj (by have:=hv.2;unfold lim;simp;omega)])
 rw[hfold.1,bq,aj hfold.2,bC,M.fP]
theorem F.uC (s:ah.D) (tables:LTb) (ahead:(List LLV)) (h_s:Sm ah s) (h_tables:Sm (Ty.sl ax) tables) (h_ahead:Sm (Ty.sl (Ty.sl (Ty.sl aa))) ahead) (p0:M.rE tables ahead s):F.mB s tables ahead=some (M.bZ tables ahead s):=by
 obtain⟨r1,rin,rfew,r2,r3,r4⟩:=p0
 unfold F.mB M.bZ
 by_cases h1:s.1=(1:Int)
 ·obtain⟨n0,n1⟩:=r1 h1
  have hsm:=(aN h_tables s.2.2.2.1).2.1
  have hl:=hsm.1
  simp only[h1,decide_true,cond_true]
  rw[aj n0,aj n1]
 obtain⟨⟨a0,a1⟩,⟨b0,b1⟩⟩:=rin h1
 obtain⟨fa,fb⟩:=rfew h1
 have ha:=fa.1
 have hb:=fb.1
 have sa:Sm (.sl (.sl aa)) (nth (t:=.sl (.sl aa)) ahead s.2.1):=aN h_ahead _
 have sb:Sm (.sl (.sl aa)) (nth (t:=.sl (.sl aa)) ahead s.2.2.1):=aN h_ahead _
 by_cases h2:s.1=(2:Int)
 ·simp only[h2,decide_true,cond_true,Int.reduceEq,decide_false,cond_false]
  rw[aj a0,aj a1,vn (fun x:List aa.D=>cond (M.holds x s.2.2.2.2.1) [x] []) (nth (t:=.sl (.sl aa)) ahead s.2.1) 1 (fun x _=>by cases M.holds x s.2.2.2.2.1<;>simp) [] (fun x hx v hv=>by
   unfold F.gr
   rw[aj (r2 h2 _ hx)]
   cases M.holds x s.2.2.2.2.1
   ·rw[cond_false,cond_false,List.append_nil]
   ·rw[cond_true,cond_true,aj (by simp at hv;unfold lim;simp;omega)]),wH]
  rfl
 by_cases h3:s.1=(3:Int)
 ·simp only[h3,decide_true,cond_true,Int.reduceEq,decide_false,cond_false]
  rw[aj a0,aj a1,vn (fun x:List aa.D=>[M.taken x s.2.2.2.2.2.1]) (nth (t:=.sl (.sl aa)) ahead s.2.1) 1 (fun x _=>Nat.le_refl _) [] (fun x hx v hv=>by
   unfold F.gm
   rw[aj (r3 h3 _ hx),bC,aj (by simp at hv;unfold lim;simp;omega)]),CD]
  rfl
 by_cases h4:s.1=(4:Int)
 ·simp only[h4,decide_true,cond_true,Int.reduceEq,decide_false,cond_false]
  rw[aj a0,aj a1,Dp (t:=.sl aa) (fun r=>M.joined s.2.2.2.2.1 r (nth (t:=.sl (.sl aa)) ahead s.2.2.1)) (nth (t:=.sl (.sl aa)) ahead s.2.1) ((nth (t:=.sl (.sl aa)) ahead s.2.2.1):List (List aa.D)).length (fun r _=>M.yz _ _ _) [] (fun i v i0 i1 hv=>by
   have hv9:v.length<=300 * 300:=Nat.le_trans (by simpa using hv) (Nat.mul_le_mul ha hb)
   have hrm:=qi (t:=.sl aa) i0 i1
   unfold F.gw
   rw[aj b0,aj b1,vn (fun q:List aa.D=>cond (M.holds (nth (t:=.sl aa) (nth (t:=.sl (.sl aa)) ahead s.2.1) i++q:List aa.D) s.2.2.2.2.1) [(nth (t:=.sl aa) (nth (t:=.sl (.sl aa)) ahead s.2.1) i++q:List aa.D)] []) (nth (t:=.sl (.sl aa)) ahead s.2.2.1) 1 (fun q _=>by cases M.holds (nth (t:=.sl aa) (nth (t:=.sl (.sl aa)) ahead s.2.1) i++q:List aa.D) s.2.2.2.2.1<;>simp) v (fun q hqm w hw=>by
    have l1:=fa.2 _ hrm
    have l2:=fb.2 _ hqm
    unfold F.gu
    rw[aj (show (nth (t:=.sl aa) (nth (t:=.sl (.sl aa)) ahead s.2.1) i:List aa.D).length+q.length<=1048576 by omega),bC]
    simp only[M.jl]
    rw[aj (show Sm (.sl aa) (nth (t:=.sl aa) (nth (t:=.sl (.sl aa)) ahead s.2.1) i++q) from⟨by rw[List.length_append];omega,fun x hx=>(List.mem_append.1 hx).elim ((sa.2 _ hrm).2 x) ((sb.2 _ hqm).2 x)⟩),aj (r4 h4 _ hrm _ hqm)]
    cases M.holds (nth (t:=.sl aa) (nth (t:=.sl (.sl aa)) ahead s.2.1) i++q:List aa.D) s.2.2.2.2.1
    ·rw[cond_false,cond_false,List.append_nil]
    ·rw[cond_true,cond_true,aj (by simp at hw;unfold lim;simp;omega)]),wA]
   rfl)]
  rfl
 by_cases h5:s.1=(5:Int)
 ·simp only[h5,decide_true,cond_true,Int.reduceEq,decide_false,cond_false]
  rw[aj a0,aj a1,aj b0,aj b1,aj (show Sm (.sl (.sl (.sl aa))) [(nth (t:=.sl (.sl aa)) ahead s.2.1),(nth (t:=.sl (.sl aa)) ahead s.2.2.1)] from⟨by simp,fun x hx=>by
   rcases List.mem_cons.1 hx with rfl | hx
   ·exact sa
   ·cases List.mem_singleton.1 hx
    exact sb⟩)]
  simp only[bC,List.flatten_cons,List.flatten_nil,List.append_nil,M.jl,M.fP]
 by_cases h6:s.1=(6:Int)
 ·simp only[h6,decide_true,cond_true,Int.reduceEq,decide_false,cond_false]
  rw[aj a0,aj a1]
  simp only[bC,M.jl,M.fP]
 simp only[h1,h2,h3,h4,h5,h6,decide_false,cond_false]
theorem F.uO (tables:LTb) (plan:LS) (h_tables:Sm (Ty.sl ax) tables) (h_plan:Sm (Ty.sl ah) plan) (p0:M.bQ tables plan=true):F.nR tables plan=some (M.dj tables plan):=by
 unfold F.nR M.dj
 rw[p0,cond_true]
 have hl:=h_plan.1
 have hpos:=(M.ko p0).1
 obtain⟨h1,h2⟩:=EW (f:=F.fz tables plan) h_tables h_plan p0 (fun z v h1 h2 h3=>by
  unfold F.fz M.eW
  rw[aj h1,aj h2,bC,aj (by unfold lim;simp;omega)])
 obtain⟨st,_,hR⟩:=Cq h_tables h_plan p0
 have hsm:=AJ hR (by show (plan.foldl (M.eW tables) []).length<=1048576;rw[h2];exact hl)
 rw[h1,bq,h2,fy _ hl,aj (by omega),aj (by omega),show plan.foldl (M.eW tables) []=M.cw tables plan from rfl,aj (aN hsm _),bC,M.fP]
theorem F.vH (tables:LTb) (plan:LS) (h_tables:Sm (Ty.sl ax) tables) (h_plan:Sm (Ty.sl ah) plan):F.nA tables plan=some (M.dj tables plan):=by
 unfold F.nA
 cases hp:M.bQ tables plan
 ·unfold M.dj
  rw[hp]
  rfl
 ·simp only[Bool.not_true,cond_false,bC,M.fP]
theorem F.tn (b:(List Int)) (p:Int) (n:Int) (h_b:Sm (Ty.sl (Ty.int .u8)) b) (p0:M.ay b) (p1:0<=p) (p2:p<=1000000000000000):ok (F.oD b p n) (fun r=>0<=r.1/\(1<=n->r.1<n)/\(n<1->r.1=0)/\r.2=p+1):=by
 unfold F.oD
 have hw:wrap64 (p+1)=p+1:=aK (by omega) (by omega)
 have hw2:wrap64 (p+1-1)=p:=by rw[show p+1-1=p by omega];exact aK (by omega) (by omega)
 simp only[hw,hw2]
 refine Im (fun c0=>?_) (fun c0=>?_)
 ·refine okD (fun c1=>?_) (fun c1=>?_)
  ·exact okS ⟨by dsimp only;omega,fun h=>by dsimp only;omega,fun h=>rfl,rfl⟩
  ·have hl:1<=(b.length:Int):=by omega
   refine okD (fun c2=>?_) (fun c2=>?_)
   ·refine okG (okG (okG (okS ?_)))
    have:=M.Ex (M.uT p0 p) (n:=n) (by omega)
    exact⟨this.1,fun _=>this.2,fun h=>by omega,rfl⟩
   ·obtain⟨t0,t1⟩:=M.tW p1 hl
    have h7:wrap64 (wrap64 (p * 7)+3)=p * 7+3:=by rw[aK (n:=p * 7) (by omega) (by omega),aK (by omega) (by omega)]
    obtain⟨t2,t3⟩:=M.tW (a:=p * 7+3) (by omega) hl
    rw[h7]
    refine okG (okG (okG (okG (okG (okG (okS ?_))))))
    have:=M.Gt (M.uT p0 (p.tmod (b.length:Int))) (M.uT p0 ((p * 7+3).tmod (b.length:Int))) p1 p2 (M.DP p1 hl) (n:=n) (by omega)
    exact⟨this.1,fun _=>this.2,fun h=>by omega,rfl⟩
 ·exact okS ⟨by dsimp only;omega,fun h=>by omega,fun h=>rfl,rfl⟩
theorem F.AP (b:(List Int)) (p:Int) (n:Int) (h_b:Sm (Ty.sl (Ty.int .u8)) b) (p0:M.ay b) (p1:0<=p) (p2:p<=1000000000000000):F.oD b p n=some (M.pick b p n):=gy (F.tn b p n h_b p0 p1 p2)
theorem M.EE (b:(List Int)) (p:Int) (n:Int) (h_b:Sm (Ty.sl (Ty.int .u8)) b) (p0:M.ay b) (p1:0<=p) (p2:p<=1000000000000000):0<=(M.pick b p n).1/\(1<=n->(M.pick b p n).1<n)/\(n<1->(M.pick b p n).1=0)/\(M.pick b p n).2=p+1:=gd (F.tn b p n h_b p0 p1 p2)
theorem aB {α:Type} {K:α->Prop} {f:Int×Int->Option α} {b:(List Int)} {p:Int} {n:Int} (k:∀r,(0<=r.1)->(1<=n->r.1<n)->(n<1->r.1=0)->(r.2=p+1)->ok (f r) K) (h_b:Sm (Ty.sl (Ty.int .u8)) b:=by exact au) (p0:M.ay b:=by exact au) (p1:0<=p:=by exact au) (p2:p<=1000000000000000:=by exact au):ok (aI (M.pick b p n) f) K:=by
 have h:=M.EE b p n h_b p0 p1 p2
 obtain⟨h0,h1,h2,h3⟩:=h
 exact k _ h0 h1 h2 h3
theorem F.vS (b:(List Int)) (p:Int) (n:Int) (h_b:Sm (Ty.sl (Ty.int .u8)) b) (p0:M.ay b) (p1:0<=p) (p2:p<=999000000000000):ok (F.qw b p n) (fun r=>(n<1->r.1=false)/\p<=r.2/\r.2<=p+1):=by
  unfold F.qw
  refine DK (fun c_0=>?_) (fun c_0=>?_)
  ·refine okG ?_
   refine aB fun r1 h_1_5_0 h_1_5_1 h_1_5_2 h_1_5_3=>?_
   exact rN
  ·exact rN
theorem F.Cf (b:(List Int)) (p:Int) (n:Int) (h_b:Sm (Ty.sl (Ty.int .u8)) b) (p0:M.ay b) (p1:0<=p) (p2:p<=999000000000000):F.qw b p n=some (M.odd b p n):=gy (F.vS b p n h_b p0 p1 p2)
theorem M.FL (b:(List Int)) (p:Int) (n:Int) (h_b:Sm (Ty.sl (Ty.int .u8)) b) (p0:M.ay b) (p1:0<=p) (p2:p<=999000000000000):(n<1->(M.odd b p n).1=false)/\p<=(M.odd b p n).2/\(M.odd b p n).2<=p+1:=gd (F.vS b p n h_b p0 p1 p2)
theorem jn {α:Type} {K:α->Prop} {f:Bool×Int->Option α} {b:(List Int)} {p:Int} {n:Int} (k:∀r,(n<1->r.1=false)->(p<=r.2)->(r.2<=p+1)->ok (f r) K) (h_b:Sm (Ty.sl (Ty.int .u8)) b:=by exact au) (p0:M.ay b:=by exact au) (p1:0<=p:=by exact au) (p2:p<=999000000000000:=by exact au):ok (aI (M.odd b p n) f) K:=by
 have h:=M.FL b p n h_b p0 p1 p2
 obtain⟨h0,h1,h2⟩:=h
 exact k _ h0 h1 h2
theorem F.lX (b:(List Int)) (p:Int) (n:Int) (h_b:Sm (Ty.sl (Ty.int .u8)) b) (p0:M.ay b) (p1:0<=p) (p2:p<=998000000000000):ok (F.fO b p n) (fun r=>1<=r.1.length/\r.1.length<=6/\p<=r.2/\r.2<=p+20):=by
  unfold F.fO
  refine okG ?_
  refine aB fun r1 h_2_1_0 h_2_1_1 h_2_1_2 h_2_1_3=>?_
  refine okB (A:=fun e0=>p<=e0.1/\e0.1<=p+10/\1<=e0.2.length/\e0.2.length<=3) ?_ (fun e0 h_e0=>?_)
  ·refine okW (fun(k:Nat) (v0:Int×Int×LC)=>0<=v0.1/\v0.1<=(k:Int)/\(v0.2.2.length:Int)+v0.1<=3/\1<=(v0.2.2.length:Int)+v0.1/\p<=v0.2.1/\v0.2.1+2 * v0.1<=p+10) (fun k v0 hI=>?_) (3:Nat) _ ⟨au,au,au,au,au,au⟩
   obtain⟨i_0,i_1,i_2,i_3,i_4,i_5⟩:=hI
   unfold F.fG
   refine okD (fun c_0=>?_) (fun c_0=>?_)
   ·refine okG ?_
    refine okG ?_
    refine okG ?_
    refine aB fun r2 h_5_3_0 h_5_3_1 h_5_3_2 h_5_3_3=>?_
    refine okG ?_
    refine okG ?_
    refine okG ?_
    refine okG ?_
    refine aB fun r3 h_5_7_0 h_5_7_1 h_5_7_2 h_5_7_3=>?_
    refine okG ?_
    exact eJ ⟨k-1,by omega,au,au,au,au,au,au⟩
   ·exact di ⟨au,au,au,au⟩
  ·obtain⟨e0_0,e0_1,e0_2,e0_3⟩:=h_e0
   refine okG ?_
   refine okG ?_
   refine jn fun r4 h_6_2_0 h_6_2_1 h_6_2_2=>?_
   refine okC (fun c_1=>?_) (fun c_1=>?_)
   ·refine okG ?_
    refine okG ?_
    refine aB fun r5 h_7_2_0 h_7_2_1 h_7_2_2 h_7_2_3=>?_
    refine okG ?_
    exact vl
   ·exact vl
theorem F.sU (b:(List Int)) (p:Int) (n:Int) (h_b:Sm (Ty.sl (Ty.int .u8)) b) (p0:M.ay b) (p1:0<=p) (p2:p<=998000000000000):F.fO b p n=some (M.fI b p n):=gy (F.lX b p n h_b p0 p1 p2)
theorem M.wK (b:(List Int)) (p:Int) (n:Int) (h_b:Sm (Ty.sl (Ty.int .u8)) b) (p0:M.ay b) (p1:0<=p) (p2:p<=998000000000000):1<=(M.fI b p n).1.length/\(M.fI b p n).1.length<=6/\p<=(M.fI b p n).2/\(M.fI b p n).2<=p+20:=gd (F.lX b p n h_b p0 p1 p2)
theorem rP {α:Type} {K:α->Prop} {f:LC×Int->Option α} {b:(List Int)} {p:Int} {n:Int} (k:∀r,(1<=r.1.length)->(r.1.length<=6)->(p<=r.2)->(r.2<=p+20)->ok (f r) K) (h_b:Sm (Ty.sl (Ty.int .u8)) b:=by exact au) (p0:M.ay b:=by exact au) (p1:0<=p:=by exact au) (p2:p<=998000000000000:=by exact au):ok (aI (M.fI b p n) f) K:=by
 have h:=M.wK b p n h_b p0 p1 p2
 obtain⟨h0,h1,h2,h3⟩:=h
 exact k _ h0 h1 h2 h3
theorem F.qa (b:(List Int)) (p:Int) (c:ag.D) (h_b:Sm (Ty.sl (Ty.int .u8)) b) (p0:M.ay b) (p1:0<=p) (p2:p<=998000000000000):ok (F.ji b p c) (fun r=>r.1.2.2.1.size<=20/\p<=r.2/\r.2<=p+3):=by
  unfold F.ji
  refine okC (fun c_0=>?_) (fun c_0=>?_)
  ·refine okG ?_
   refine aB fun r1 h_1_4_0 h_1_4_1 h_1_4_2 h_1_4_3=>?_
   refine okD (fun c_1=>?_) (fun c_1=>?_)
   ·exact rN
   ·refine okD (fun c_2=>?_) (fun c_2=>?_)
    ·refine okG ?_
     refine okG ?_
     refine aB fun r2 h_5_1_0 h_5_1_1 h_5_1_2 h_5_1_3=>?_
     exact rN
    ·refine okD (fun c_3=>?_) (fun c_3=>?_)
     ·refine okG ?_
      refine okG ?_
      refine aB fun r3 h_7_2_0 h_7_2_1 h_7_2_2 h_7_2_3=>?_
      refine okG ?_
      refine okG ?_
      exact rN
     ·refine okG ?_
      refine okG ?_
      refine aB fun r4 h_8_1_0 h_8_1_1 h_8_1_2 h_8_1_3=>?_
      exact rN
  ·refine okD (fun c_4=>?_) (fun c_4=>?_)
   ·refine okG ?_
    refine aB fun r2 h_5_1_0 h_5_1_1 h_5_1_2 h_5_1_3=>?_
    exact rN
   ·refine okD (fun c_5=>?_) (fun c_5=>?_)
    ·refine okG ?_
     refine aB fun r3 h_7_2_0 h_7_2_1 h_7_2_2 h_7_2_3=>?_
     refine okG ?_
     refine okG ?_
     exact rN
    ·refine okG ?_
     refine aB fun r4 h_8_1_0 h_8_1_1 h_8_1_2 h_8_1_3=>?_
     exact rN
theorem F.wQ (b:(List Int)) (p:Int) (c:ag.D) (h_b:Sm (Ty.sl (Ty.int .u8)) b) (p0:M.ay b) (p1:0<=p) (p2:p<=998000000000000):F.ji b p c=some (M.kf b p c):=gy (F.qa b p c h_b p0 p1 p2)
theorem M.AS (b:(List Int)) (p:Int) (c:ag.D) (h_b:Sm (Ty.sl (Ty.int .u8)) b) (p0:M.ay b) (p1:0<=p) (p2:p<=998000000000000):(M.kf b p c).1.2.2.1.size<=20/\p<=(M.kf b p c).2/\(M.kf b p c).2<=p+3:=gd (F.qa b p c h_b p0 p1 p2)
theorem oo {α:Type} {K:α->Prop} {f:aa.D×Int->Option α} {b:(List Int)} {p:Int} {c:ag.D} (k:∀r,(r.1.2.2.1.size<=20)->(p<=r.2)->(r.2<=p+3)->ok (f r) K) (h_b:Sm (Ty.sl (Ty.int .u8)) b:=by exact au) (p0:M.ay b:=by exact au) (p1:0<=p:=by exact au) (p2:p<=998000000000000:=by exact au):ok (aI (M.kf b p c) f) K:=by
 have h:=M.AS b p c h_b p0 p1 p2
 obtain⟨h0,h1,h2⟩:=h
 exact k _ h0 h1 h2
theorem F.oc (b:(List Int)) (p:Int) (n:Int) (h_b:Sm (Ty.sl (Ty.int .u8)) b) (p0:M.ay b) (p1:0<=p) (p2:p<=998000000000000):ok (F.iD b p n) (fun r=>r.1.2.2.1.size<=20/\p<=r.2/\r.2<=p+20):=by
  unfold F.iD
  refine okG ?_
  refine aB fun r1 h_2_1_0 h_2_1_1 h_2_1_2 h_2_1_3=>?_
  refine okB (A:=fun e0=>p<=e0.1/\e0.1<=p+12/\e0.2.2.2.size<=3) ?_ (fun e0 h_e0=>?_)
  ·refine okW (fun(_:Nat) (_:Unit)=>True) (fun _ v0 _=>?_) 0 _ trivial
   unfold F.hU
   refine okD (fun c_1=>?_) (fun c_1=>?_)
   ·exact di ⟨au,au,au⟩
   ·refine okD (fun c_2=>?_) (fun c_2=>?_)
    ·refine okG ?_
     refine okG ?_
     refine okG ?_
     refine aB fun r2 h_8_1_0 h_8_1_1 h_8_1_2 h_8_1_3=>?_
     refine okG ?_
     refine okG ?_
     refine aB fun r3 h_9_1_0 h_9_1_1 h_9_1_2 h_9_1_3=>?_
     refine okD (fun c_3=>?_) (fun c_3=>?_)
     ·refine okG ?_
      refine okG ?_
      refine aB fun r4 h_10_2_0 h_10_2_1 h_10_2_2 h_10_2_3=>?_
      refine okG ?_
      refine okG ?_
      exact di ⟨au,au,au⟩
     ·exact di ⟨au,au,au⟩
    ·refine okD (fun c_4=>?_) (fun c_4=>?_)
     ·refine okG ?_
      refine okG ?_
      refine okG ?_
      refine aB fun r2 h_8_1_0 h_8_1_1 h_8_1_2 h_8_1_3=>?_
      refine okG ?_
      refine okG ?_
      refine aB fun r3 h_9_1_0 h_9_1_1 h_9_1_2 h_9_1_3=>?_
      refine okD (fun c_5=>?_) (fun c_5=>?_)
      ·refine okG ?_
       refine okG ?_
       refine aB fun r4 h_10_2_0 h_10_2_1 h_10_2_2 h_10_2_3=>?_
       refine okG ?_
       refine okG ?_
       exact di ⟨au,au,au⟩
      ·exact di ⟨au,au,au⟩
     ·refine okD (fun c_6=>?_) (fun c_6=>?_)
      ·refine okG ?_
       refine okG ?_
       refine okG ?_
       refine aB fun r2 h_8_1_0 h_8_1_1 h_8_1_2 h_8_1_3=>?_
       refine okG ?_
       refine okG ?_
       refine aB fun r3 h_9_1_0 h_9_1_1 h_9_1_2 h_9_1_3=>?_
       refine okD (fun c_7=>?_) (fun c_7=>?_)
       ·refine okG ?_
        refine okG ?_
        refine aB fun r4 h_10_2_0 h_10_2_1 h_10_2_2 h_10_2_3=>?_
        refine okG ?_
        refine okG ?_
        exact di ⟨au,au,au⟩
       ·exact di ⟨au,au,au⟩
      ·refine okD (fun c_8=>?_) (fun c_8=>?_)
       ·refine okG ?_
        refine okG ?_
        refine okG ?_
        refine aB fun r5 h_14_1_0 h_14_1_1 h_14_1_2 h_14_1_3=>?_
        refine okB (A:=fun e1=>p<=e1.1/\e1.1<=p+8/\e1.2.size<=3) ?_ (fun e1 h_e1=>?_)
        ·refine okW (fun(k:Nat) (v1:Int×Int×ByteArray)=>0<=v1.1/\v1.1<=(k:Int)/\(v1.2.2.size:Int)+v1.1<=3/\p<=v1.2.1/\v1.2.1+v1.1<=p+8) (fun k v1 hI=>?_) (3:Nat) _ ⟨au,au,au,au,au⟩
         obtain⟨i_0,i_1,i_2,i_3,i_4⟩:=hI
         unfold F.dZ
         refine okD (fun c_0=>?_) (fun c_0=>?_)
         ·refine okG ?_
          refine okG ?_
          refine okG ?_
          refine aB fun r6 h_17_3_0 h_17_3_1 h_17_3_2 h_17_3_3=>?_
          refine okG ?_
          exact eJ ⟨k-1,by omega,au,au,au,au,au⟩
         ·exact di ⟨au,au,au⟩
        ·obtain⟨e1_0,e1_1,e1_2⟩:=h_e1
         exact di ⟨au,au,au⟩
       ·refine okD (fun c_9=>?_) (fun c_9=>?_)
        ·refine okG ?_
         refine okG ?_
         refine okG ?_
         refine aB fun r5 h_14_1_0 h_14_1_1 h_14_1_2 h_14_1_3=>?_
         refine okB (A:=fun e1=>p<=e1.1/\e1.1<=p+8/\e1.2.size<=3) ?_ (fun e1 h_e1=>?_)
         ·refine okW (fun(k:Nat) (v1:Int×Int×ByteArray)=>0<=v1.1/\v1.1<=(k:Int)/\(v1.2.2.size:Int)+v1.1<=3/\p<=v1.2.1/\v1.2.1+v1.1<=p+8) (fun k v1 hI=>?_) (3:Nat) _ ⟨au,au,au,au,au⟩
          obtain⟨i_0,i_1,i_2,i_3,i_4⟩:=hI
          unfold F.dZ
          refine okD (fun c_0=>?_) (fun c_0=>?_)
          ·refine okG ?_
           refine okG ?_
           refine okG ?_
           refine aB fun r6 h_17_3_0 h_17_3_1 h_17_3_2 h_17_3_3=>?_
           refine okG ?_
           exact eJ ⟨k-1,by omega,au,au,au,au,au⟩
          ·exact di ⟨au,au,au⟩
         ·obtain⟨e1_0,e1_1,e1_2⟩:=h_e1
          exact di ⟨au,au,au⟩
        ·refine okG ?_
         refine okG ?_
         refine okG ?_
         refine aB fun r7 h_3_1_0 h_3_1_1 h_3_1_2 h_3_1_3=>?_
         exact di ⟨au,au,au⟩
  ·obtain⟨e0_0,e0_1,e0_2⟩:=h_e0
   refine okG ?_
   refine okG ?_
   refine jn fun r8 h_18_2_0 h_18_2_1 h_18_2_2=>?_
   refine okC (fun c_10=>?_) (fun c_10=>?_)
   ·refine okG ?_
    refine okG ?_
    refine aB fun r9 h_19_1_0 h_19_1_1 h_19_1_2 h_19_1_3=>?_
    refine okD (fun c_11=>?_) (fun c_11=>?_)
    ·exact rN
    ·refine okD (fun c_12=>?_) (fun c_12=>?_)
     ·refine okG ?_
      exact rN
     ·refine okD (fun c_13=>?_) (fun c_13=>?_)
      ·refine okG ?_
       refine okG ?_
       refine aB fun r10 h_26_1_0 h_26_1_1 h_26_1_2 h_26_1_3=>?_
       exact rN
      ·refine okG ?_
       exact rN
   ·exact rN
theorem F.uM (b:(List Int)) (p:Int) (n:Int) (h_b:Sm (Ty.sl (Ty.int .u8)) b) (p0:M.ay b) (p1:0<=p) (p2:p<=998000000000000):F.iD b p n=some (M.eV b p n):=gy (F.oc b p n h_b p0 p1 p2)
theorem M.zD (b:(List Int)) (p:Int) (n:Int) (h_b:Sm (Ty.sl (Ty.int .u8)) b) (p0:M.ay b) (p1:0<=p) (p2:p<=998000000000000):(M.eV b p n).1.2.2.1.size<=20/\p<=(M.eV b p n).2/\(M.eV b p n).2<=p+20:=gd (F.oc b p n h_b p0 p1 p2)
theorem gv {α:Type} {K:α->Prop} {f:aa.D×Int->Option α} {b:(List Int)} {p:Int} {n:Int} (k:∀r,(r.1.2.2.1.size<=20)->(p<=r.2)->(r.2<=p+20)->ok (f r) K) (h_b:Sm (Ty.sl (Ty.int .u8)) b:=by exact au) (p0:M.ay b:=by exact au) (p1:0<=p:=by exact au) (p2:p<=998000000000000:=by exact au):ok (aI (M.eV b p n) f) K:=by
 have h:=M.zD b p n h_b p0 p1 p2
 obtain⟨h0,h1,h2⟩:=h
 exact k _ h0 h1 h2
theorem F.qG (b:(List Int)) (p:Int) (columns:LC) (n:Int) (h_b:Sm (Ty.sl (Ty.int .u8)) b) (h_columns:Sm (Ty.sl ag) columns) (p0:M.ay b) (p1:0<=p) (p2:p<=997000000000000):ok (F.kA b p columns n) (fun r=>r.1.length<=columns.length+3/\(∀v∈r.1,v.2.2.1.size<=20)/\p<=r.2/\r.2<=p+3 * columns.length+70):=by
  unfold F.kA
  have hl:=h_columns.1
  refine okT (A:=fun v0=>p<=v0.1/\v0.1<=p+3 * (columns.length:Int)/\v0.2.length=columns.length/\(∀v∈v0.2,v.2.2.1.size<=20)) (B:=fun _=>False) ?_ (fun v0 h_v0=>?_) (fun _ h=>h.elim)
  ·refine GF (fun(k:Nat) (v0:Int×LV)=>p<=v0.1/\v0.1<=p+3 * (k:Int)/\v0.2.length=k/\(∀v∈v0.2,v.2.2.1.size<=20)) ⟨au,au,au,au⟩ (fun z0 hz k v0 hk hI=>?_)
   obtain⟨i_0,i_1,i_2,i_3⟩:=hI
   unfold F.jq
   refine okG ?_
   refine okG ?_
   refine okG ?_
   refine oo fun r1 h_5_6_0 h_5_6_1 h_5_6_2=>?_
   refine okG ?_
   exact eJ ⟨au,au,au,au⟩
  ·obtain⟨v0_0,v0_1,v0_2,v0_3⟩:=h_v0
   refine okG ?_
   refine okG ?_
   refine jn fun r2 h_6_2_0 h_6_2_1 h_6_2_2=>?_
   refine okC (fun c_0=>?_) (fun c_0=>?_)
   ·refine okG ?_
    refine okG ?_
    refine aB fun r3 h_7_1_0 h_7_1_1 h_7_1_2 h_7_1_3=>?_
    refine okD (fun c_1=>?_) (fun c_1=>?_)
    ·refine okG ?_
     exact vl
    ·refine okD (fun c_2=>?_) (fun c_2=>?_)
     ·refine okD (fun c_3=>?_) (fun c_3=>?_)
      ·refine okG ?_
       refine okG ?_
       refine aB fun r4 h_13_4_0 h_13_4_1 h_13_4_2 h_13_4_3=>?_
       refine okG ?_
       refine okG ?_
       refine gv fun r5 h_13_6_0 h_13_6_1 h_13_6_2=>?_
       refine okG ?_
       refine okG ?_
       exact vl
      ·exact vl
     ·refine okG ?_
      refine okG ?_
      refine gv fun r6 h_8_2_0 h_8_2_1 h_8_2_2=>?_
      refine okG ?_
      refine okG ?_
      refine gv fun r7 h_8_4_0 h_8_4_1 h_8_4_2=>?_
      refine okG ?_
      refine okG ?_
      refine gv fun r8 h_8_6_0 h_8_6_1 h_8_6_2=>?_
      refine okG ?_
      exact vl
   ·exact vl
theorem F.xZ (b:(List Int)) (p:Int) (columns:LC) (n:Int) (h_b:Sm (Ty.sl (Ty.int .u8)) b) (h_columns:Sm (Ty.sl ag) columns) (p0:M.ay b) (p1:0<=p) (p2:p<=997000000000000):F.kA b p columns n=some (M.mc b p columns n):=gy (F.qG b p columns n h_b h_columns p0 p1 p2)
theorem M.Ch (b:(List Int)) (p:Int) (columns:LC) (n:Int) (h_b:Sm (Ty.sl (Ty.int .u8)) b) (h_columns:Sm (Ty.sl ag) columns) (p0:M.ay b) (p1:0<=p) (p2:p<=997000000000000):(M.mc b p columns n).1.length<=columns.length+3/\(∀v∈(M.mc b p columns n).1,v.2.2.1.size<=20)/\p<=(M.mc b p columns n).2/\(M.mc b p columns n).2<=p+3 * columns.length+70:=gd (F.qG b p columns n h_b h_columns p0 p1 p2)
theorem pX {α:Type} {K:α->Prop} {f:LV×Int->Option α} {b:(List Int)} {p:Int} {columns:LC} {n:Int} (k:∀r,(r.1.length<=columns.length+3)->(∀v∈r.1,v.2.2.1.size<=20)->(p<=r.2)->(r.2<=p+3 * columns.length+70)->ok (f r) K) (h_b:Sm (Ty.sl (Ty.int .u8)) b:=by exact au) (h_columns:Sm (Ty.sl ag) columns:=by exact au) (p0:M.ay b:=by exact au) (p1:0<=p:=by exact au) (p2:p<=997000000000000:=by exact au):ok (aI (M.mc b p columns n) f) K:=by
 have h:=M.Ch b p columns n h_b h_columns p0 p1 p2
 obtain⟨h0,h1,h2,h3⟩:=h
 exact k _ h0 h1 h2 h3
theorem F.zJ (row:LV) (h_row:Sm (Ty.sl aa) row):F.yd row=some row:=by
 rfl
theorem F.qO (b:(List Int)) (p:Int) (c:LC) (n:Int) (h_b:Sm (Ty.sl (Ty.int .u8)) b) (h_c:Sm (Ty.sl ag) c) (p0:M.ay b) (p1:0<=p) (p2:p<=996000000000000) (p3:c.length<=6):ok (F.kB b p c n) (fun r=>r.1.length<=6/\(∀w∈r.1,M.va w)/\p<=r.2/\r.2<=p+1000):=by
  unfold F.kB
  have hl:=p3
  refine okG ?_
  refine aB fun r1 h_2_1_0 h_2_1_1 h_2_1_2 h_2_1_3=>?_
  refine okB (A:=fun e0=>p<=e0.1/\e0.1<=p+700/\e0.2.length<=6/\(∀w∈e0.2,M.va w)) ?_ (fun e0 h_e0=>?_)
  ·refine okW (fun(k:Nat) (v0:Int×Int×LLV)=>0<=v0.1/\v0.1<=(k:Int)/\(v0.2.2.length:Int)+v0.1<=6/\(∀w∈v0.2.2,M.va w)/\p<=v0.2.1/\v0.2.1+100 * v0.1<=p+700) (fun k v0 hI=>?_) (6:Nat) _ ⟨au,au,au,au,au,au⟩
   obtain⟨i_0,i_1,i_2,i_3,i_4,i_5⟩:=hI
   unfold F.jk
   refine okD (fun c_0=>?_) (fun c_0=>?_)
   ·refine DK (fun c_1=>?_) (fun c_1=>?_)
    ·refine okG ?_
     refine okG ?_
     refine okG ?_
     refine aB fun r2 h_5_5_0 h_5_5_1 h_5_5_2 h_5_5_3=>?_
     refine okD (fun c_2=>?_) (fun c_2=>?_)
     ·refine okG ?_
      refine okG ?_
      refine aB fun r3 h_6_5_0 h_6_5_1 h_6_5_2 h_6_5_3=>?_
      refine okG ?_
      refine okG ?_
      refine okG ?_
      refine okL fun r4 er4=>?_
      have w_a:M.va r4:=er4▸M.yC i_3 _
      refine okG ?_
      exact eJ ⟨k-1,by omega,au,au,au,au,au,au⟩
     ·refine okG ?_
      refine okG ?_
      refine pX fun r5 h_7_4_0 h_7_4_1 h_7_4_2 h_7_4_3=>?_
      refine okG ?_
      exact eJ ⟨k-1,by omega,au,au,au,au,au,au⟩
    ·refine okG ?_
     refine okG ?_
     refine okG ?_
     refine pX fun r5 h_7_4_0 h_7_4_1 h_7_4_2 h_7_4_3=>?_
     refine okG ?_
     exact eJ ⟨k-1,by omega,au,au,au,au,au,au⟩
   ·exact di ⟨au,au,au,au⟩
  ·obtain⟨e0_0,e0_1,e0_2,e0_3⟩:=h_e0
   exact vl
theorem F.yK (b:(List Int)) (p:Int) (c:LC) (n:Int) (h_b:Sm (Ty.sl (Ty.int .u8)) b) (h_c:Sm (Ty.sl ag) c) (p0:M.ay b) (p1:0<=p) (p2:p<=996000000000000) (p3:c.length<=6):F.kB b p c n=some (M.oK b p c n):=gy (F.qO b p c n h_b h_c p0 p1 p2 p3)
theorem M.Cx (b:(List Int)) (p:Int) (c:LC) (n:Int) (h_b:Sm (Ty.sl (Ty.int .u8)) b) (h_c:Sm (Ty.sl ag) c) (p0:M.ay b) (p1:0<=p) (p2:p<=996000000000000) (p3:c.length<=6):(M.oK b p c n).1.length<=6/\(∀w∈(M.oK b p c n).1,M.va w)/\p<=(M.oK b p c n).2/\(M.oK b p c n).2<=p+1000:=gd (F.qO b p c n h_b h_c p0 p1 p2 p3)
theorem wS {α:Type} {K:α->Prop} {f:LLV×Int->Option α} {b:(List Int)} {p:Int} {c:LC} {n:Int} (k:∀r,(r.1.length<=6)->(∀w∈r.1,M.va w)->(p<=r.2)->(r.2<=p+1000)->ok (f r) K) (h_b:Sm (Ty.sl (Ty.int .u8)) b:=by exact au) (h_c:Sm (Ty.sl ag) c:=by exact au) (p0:M.ay b:=by exact au) (p1:0<=p:=by exact au) (p2:p<=996000000000000:=by exact au) (p3:c.length<=6:=by exact au):ok (aI (M.oK b p c n) f) K:=by
 have h:=M.Cx b p c n h_b h_c p0 p1 p2 p3
 obtain⟨h0,h1,h2,h3⟩:=h
 exact k _ h0 h1 h2 h3
theorem F.mV (b:(List Int)) (p:Int) (n:Int) (h_b:Sm (Ty.sl (Ty.int .u8)) b) (p0:M.ay b) (p1:0<=p) (p2:p<=995000000000000) (p3:n=0):ok (F.gS b p n) (fun r=>r.1.length<=3/\1<=r.1.length/\(∀t∈r.1,M.lJ t)/\p<=r.2/\r.2<=p+10000):=by
  unfold F.gS
  refine okG ?_
  refine aB fun r1 h_2_1_0 h_2_1_1 h_2_1_2 h_2_1_3=>?_
  refine okB (A:=fun e0=>p<=e0.1/\e0.1<=p+6100/\e0.2.length<=3/\1<=e0.2.length/\(∀t∈e0.2,M.lJ t)) ?_ (fun e0 h_e0=>?_)
  ·refine okW (fun(k:Nat) (v0:Int×Int×LTb)=>0<=v0.1/\v0.1<=(k:Int)/\(v0.2.2.length:Int)+v0.1<=3/\1<=(v0.2.2.length:Int)+v0.1/\(∀t∈v0.2.2,M.lJ t)/\p<=v0.2.1/\v0.2.1+2000 * v0.1<=p+6100) (fun k v0 hI=>?_) (3:Nat) _ ⟨au,au,au,au,au,au,au⟩
   obtain⟨i_0,i_1,i_2,i_3,i_4,i_5,i_6⟩:=hI
   unfold F.gn
   refine okD (fun c_0=>?_) (fun c_0=>?_)
   ·refine okG ?_
    refine okG ?_
    refine okG ?_
    refine rP fun r2 h_5_1_0 h_5_1_1 h_5_1_2 h_5_1_3=>?_
    refine okG ?_
    refine okG ?_
    refine aB fun r3 h_6_2_0 h_6_2_1 h_6_2_2 h_6_2_3=>?_
    refine okG ?_
    refine okG ?_
    refine okG ?_
    refine okG ?_
    refine okG ?_
    refine okG ?_
    refine okG ?_
    refine wS fun r4 h_7_3_0 h_7_3_1 h_7_3_2 h_7_3_3=>?_
    refine okG ?_
    exact eJ ⟨k-1,by omega,au,au,au,au,au,au,au⟩
   ·exact di ⟨au,au,au,au,au⟩
  ·obtain⟨e0_0,e0_1,e0_2,e0_3,e0_4⟩:=h_e0
   refine okG ?_
   refine okG ?_
   refine jn fun r5 h_9_2_0 h_9_2_1 h_9_2_2=>?_
   refine okC (fun c_1=>?_) (fun c_1=>?_)
   ·exact okN
   ·exact xT
theorem F.uD (b:(List Int)) (p:Int) (n:Int) (h_b:Sm (Ty.sl (Ty.int .u8)) b) (p0:M.ay b) (p1:0<=p) (p2:p<=995000000000000) (p3:n=0):F.gS b p n=some (M.fY b p n):=gy (F.mV b p n h_b p0 p1 p2 p3)
theorem M.yU (b:(List Int)) (p:Int) (n:Int) (h_b:Sm (Ty.sl (Ty.int .u8)) b) (p0:M.ay b) (p1:0<=p) (p2:p<=995000000000000) (p3:n=0):(M.fY b p n).1.length<=3/\1<=(M.fY b p n).1.length/\(∀t∈(M.fY b p n).1,M.lJ t)/\p<=(M.fY b p n).2/\(M.fY b p n).2<=p+10000:=gd (F.mV b p n h_b p0 p1 p2 p3)
theorem si {α:Type} {K:α->Prop} {f:LTb×Int->Option α} {b:(List Int)} {p:Int} {n:Int} (k:∀r,(r.1.length<=3)->(1<=r.1.length)->(∀t∈r.1,M.lJ t)->(p<=r.2)->(r.2<=p+10000)->ok (f r) K) (h_b:Sm (Ty.sl (Ty.int .u8)) b:=by exact au) (p0:M.ay b:=by exact au) (p1:0<=p:=by exact au) (p2:p<=995000000000000:=by exact au) (p3:n=0:=by exact au):ok (aI (M.fY b p n) f) K:=by
 have h:=M.yU b p n h_b p0 p1 p2 p3
 obtain⟨h0,h1,h2,h3,h4⟩:=h
 exact k _ h0 h1 h2 h3 h4
theorem F.qc (b:(List Int)) (p:Int) (columns:LC) (kind:Int) (h_b:Sm (Ty.sl (Ty.int .u8)) b) (h_columns:Sm (Ty.sl ag) columns) (p0:M.ay b) (p1:0<=p) (p2:p<=997000000000000):ok (F.jo b p columns kind) (fun r=>r.1.2.2.1.2.2.1.size<=20/\p<=r.2/\r.2<=p+20):=by
  unfold F.jo
  have hl:=h_columns.1
  refine okT (A:=fun e0=>p<=e0/\e0<=p+8) (B:=fun q0=>p<=q0.1/\q0.1<=p+10) ?_ (fun e0 h_e0=>?_) (fun q0 h_q0=>?_)
  ·refine okW (fun(k:Nat) (v0:Int×Int)=>0<=v0.1/\v0.1<=4/\4<=v0.1+(k:Int)/\p<=v0.2/\v0.2<=p+2 * v0.1) (fun k v0 hI=>?_) (4:Nat) _ ⟨au,au,au,au,au⟩
   obtain⟨i_0,i_1,i_2,i_3,i_4⟩:=hI
   unfold F.iM
   refine DK (fun c_0=>?_) (fun c_0=>?_)
   ·refine okD (fun c_1=>?_) (fun c_1=>?_)
    ·refine okG ?_
     refine okG ?_
     refine okG ?_
     refine aB fun r1 h_4_3_0 h_4_3_1 h_4_3_2 h_4_3_3=>?_
     refine okG ?_
     refine okG ?_
     refine DK (fun c_2=>?_) (fun c_2=>?_)
     ·refine okG ?_
      refine okG ?_
      refine aB fun r2 h_5_9_0 h_5_9_1 h_5_9_2 h_5_9_3=>?_
      refine okD (fun c_3=>?_) (fun c_3=>?_)
      ·exact Fk ⟨au,au⟩
      ·exact eJ ⟨k-1,by omega,au,au,au,au,au⟩
     ·exact eJ ⟨k-1,by omega,au,au,au,au,au⟩
    ·exact Dq ⟨au,au⟩
   ·exact Dq ⟨au,au⟩
  ·obtain⟨e0_0,e0_1⟩:=h_e0
   refine okG ?_
   refine okG ?_
   refine oo fun r3 h_7_3_0 h_7_3_1 h_7_3_2=>?_
   exact rN
  ·obtain⟨q0_0,q0_1⟩:=h_q0
   exact rN
theorem F.xw (b:(List Int)) (p:Int) (columns:LC) (kind:Int) (h_b:Sm (Ty.sl (Ty.int .u8)) b) (h_columns:Sm (Ty.sl ag) columns) (p0:M.ay b) (p1:0<=p) (p2:p<=997000000000000):F.jo b p columns kind=some (M.dA b p columns kind):=gy (F.qc b p columns kind h_b h_columns p0 p1 p2)
theorem M.AX (b:(List Int)) (p:Int) (columns:LC) (kind:Int) (h_b:Sm (Ty.sl (Ty.int .u8)) b) (h_columns:Sm (Ty.sl ag) columns) (p0:M.ay b) (p1:0<=p) (p2:p<=997000000000000):(M.dA b p columns kind).1.2.2.1.2.2.1.size<=20/\p<=(M.dA b p columns kind).2/\(M.dA b p columns kind).2<=p+20:=gd (F.qc b p columns kind h_b h_columns p0 p1 p2)
theorem fD {α:Type} {K:α->Prop} {f:aC.D×Int->Option α} {b:(List Int)} {p:Int} {columns:LC} {kind:Int} (k:∀r,(r.1.2.2.1.2.2.1.size<=20)->(p<=r.2)->(r.2<=p+20)->ok (f r) K) (h_b:Sm (Ty.sl (Ty.int .u8)) b:=by exact au) (h_columns:Sm (Ty.sl ag) columns:=by exact au) (p0:M.ay b:=by exact au) (p1:0<=p:=by exact au) (p2:p<=997000000000000:=by exact au):ok (aI (M.dA b p columns kind) f) K:=by
 have h:=M.AX b p columns kind h_b h_columns p0 p1 p2
 obtain⟨h0,h1,h2⟩:=h
 exact k _ h0 h1 h2
theorem cZ {α:Type} {K:α->Prop} {f:LPt×Int->Option α} {n_:Nat} (ih:∀(b:(List Int)),∀(p:Int),∀(columns:LC),∀(kind:Int),∀(deep:Int),(Sm (Ty.sl (Ty.int .u8)) b)->(Sm (Ty.sl ag) columns)->(M.ay b)->(0<=p)->(p+40 * (M.eB deep:Int)<=996000000000000)->(deep<=3)->(deep.toNat<n_)->1<=(M.bA n_ b p columns kind deep).1.length/\(M.bA n_ b p columns kind deep).1.length<=M.eB deep/\(∀v∈(M.bA n_ b p columns kind deep).1,v.2.2.1.2.2.1.size<=20)/\p<=(M.bA n_ b p columns kind deep).2/\(M.bA n_ b p columns kind deep).2<=p+40 * M.eB deep) {b:(List Int)} {p:Int} {columns:LC} {kind:Int} {deep:Int} (k:∀r,(1<=r.1.length)->(r.1.length<=M.eB deep)->(∀v∈r.1,v.2.2.1.2.2.1.size<=20)->(p<=r.2)->(r.2<=p+40 * M.eB deep)->ok (f r) K) (h_b:Sm (Ty.sl (Ty.int .u8)) b:=by exact au) (h_columns:Sm (Ty.sl ag) columns:=by exact au) (p0:M.ay b:=by exact au) (p1:0<=p:=by exact au) (p2:p+40 * (M.eB deep:Int)<=996000000000000:=by exact au) (p3:deep<=3:=by exact au) (p4:deep.toNat<n_:=by exact au):ok (aI (M.bA n_ b p columns kind deep) f) K:=by
 have h:=ih b p columns kind deep h_b h_columns p0 p1 p2 p3 p4
 obtain⟨h0,h1,h2,h3,h4⟩:=h
 exact k _ h0 h1 h2 h3 h4
theorem F.pZ (n_:Nat) (ih:∀(b:(List Int)),∀(p:Int),∀(columns:LC),∀(kind:Int),∀(deep:Int),(Sm (Ty.sl (Ty.int .u8)) b)->(Sm (Ty.sl ag) columns)->(M.ay b)->(0<=p)->(p+40 * (M.eB deep:Int)<=996000000000000)->(deep<=3)->(deep.toNat<n_)->1<=(M.bA n_ b p columns kind deep).1.length/\(M.bA n_ b p columns kind deep).1.length<=M.eB deep/\(∀v∈(M.bA n_ b p columns kind deep).1,v.2.2.1.2.2.1.size<=20)/\p<=(M.bA n_ b p columns kind deep).2/\(M.bA n_ b p columns kind deep).2<=p+40 * M.eB deep) (b:(List Int)) (p:Int) (columns:LC) (kind:Int) (deep:Int) (h_b:Sm (Ty.sl (Ty.int .u8)) b) (h_columns:Sm (Ty.sl ag) columns) (p0:M.ay b) (p1:0<=p) (p2:p+40 * (M.eB deep:Int)<=996000000000000) (p3:deep<=3) (p4:deep.toNat<(n_+1)):ok (F.lG n_ b p columns kind deep) (fun r=>1<=r.1.length/\r.1.length<=M.eB deep/\(∀v∈r.1,v.2.2.1.2.2.1.size<=20)/\p<=r.2/\r.2<=p+40 * M.eB deep):=by
  unfold F.lG
  have hE0:=M.Ed (d:=deep)
  have hE1:=M.Ed (d:=wrap64 (deep-(1:Int)))
  have hE2:=M.Ed (d:=wrap64 (deep-(2:Int)))
  have hE3:=M.Iq (d:=deep) p3
  have hE4:=M.Ij (d:=deep) p3
  refine Im (fun c_0=>?_) (fun c_0=>?_)
  ·refine okG ?_
   refine aB fun r1 h_1_4_0 h_1_4_1 h_1_4_2 h_1_4_3=>?_
   refine okD (fun c_1=>?_) (fun c_1=>?_)
   ·refine okG ?_
    refine okG ?_
    refine fD fun r2 h_2_3_0 h_2_3_1 h_2_3_2=>?_
    exact xT
   ·refine okD (fun c_2=>?_) (fun c_2=>?_)
    ·refine okG ?_
     refine okG ?_
     refine okG ?_
     refine okG ?_
     refine cZ ih fun r3 h_4_5_0 h_4_5_1 h_4_5_2 h_4_5_3 h_4_5_4=>?_
     refine okG ?_
     refine okG ?_
     refine fD fun r4 h_4_9_0 h_4_9_1 h_4_9_2=>?_
     refine okG ?_
     refine okG ?_
     exact xT
    ·refine okD (fun c_3=>?_) (fun c_3=>?_)
     ·refine okG ?_
      refine okG ?_
      refine fD fun r5 h_6_3_0 h_6_3_1 h_6_3_2=>?_
      exact xT
     ·refine okG ?_
      refine okG ?_
      refine aB fun r6 h_7_1_0 h_7_1_1 h_7_1_2 h_7_1_3=>?_
      refine okD (fun c_4=>?_) (fun c_4=>?_)
      ·refine okG ?_
       refine okG ?_
       refine okG ?_
       refine okG ?_
       refine cZ ih fun r7 h_9_4_0 h_9_4_1 h_9_4_2 h_9_4_3 h_9_4_4=>?_
       refine okG ?_
       refine okG ?_
       refine okG ?_
       refine okG ?_
       refine cZ ih fun r8 h_9_9_0 h_9_9_1 h_9_9_2 h_9_9_3 h_9_9_4=>?_
       refine okG ?_
       refine okG ?_
       refine okG ?_
       refine aB fun r9 h_9_12_0 h_9_12_1 h_9_12_2 h_9_12_3=>?_
       refine okG ?_
       exact xT
      ·refine okD (fun c_5=>?_) (fun c_5=>?_)
       ·refine okG ?_
        refine okG ?_
        refine okG ?_
        refine okG ?_
        refine cZ ih fun r10 h_11_4_0 h_11_4_1 h_11_4_2 h_11_4_3 h_11_4_4=>?_
        refine okG ?_
        exact xT
       ·refine okD (fun c_6=>?_) (fun c_6=>?_)
        ·refine okG ?_
         refine okG ?_
         refine aB fun r11 h_13_3_0 h_13_3_1 h_13_3_2 h_13_3_3=>?_
         refine okG ?_
         refine okG ?_
         refine okG ?_
         refine okG ?_
         refine cZ ih fun r12 h_13_7_0 h_13_7_1 h_13_7_2 h_13_7_3 h_13_7_4=>?_
         refine okG ?_
         exact xT
        ·refine okG ?_
         refine okG ?_
         refine aB fun r13 h_14_1_0 h_14_1_1 h_14_1_2 h_14_1_3=>?_
         refine okG ?_
         refine okG ?_
         refine okG ?_
         refine okG ?_
         refine cZ ih fun r14 h_15_5_0 h_15_5_1 h_15_5_2 h_15_5_3 h_15_5_4=>?_
         refine okG ?_
         refine okG ?_
         refine fD fun r15 h_15_9_0 h_15_9_1 h_15_9_2=>?_
         refine okG ?_
         refine okG ?_
         refine okG ?_
         refine aB fun r16 h_15_13_0 h_15_13_1 h_15_13_2 h_15_13_3=>?_
         refine okG ?_
         exact xT
  ·refine okG ?_
   refine fD fun r2 h_2_3_0 h_2_3_1 h_2_3_2=>?_
   exact xT
theorem M.oY:∀(n_:Nat),∀(b:(List Int)),∀(p:Int),∀(columns:LC),∀(kind:Int),∀(deep:Int),(Sm (Ty.sl (Ty.int .u8)) b)->(Sm (Ty.sl ag) columns)->(M.ay b)->(0<=p)->(p+40 * (M.eB deep:Int)<=996000000000000)->(deep<=3)->(deep.toNat<n_)->1<=(M.bA n_ b p columns kind deep).1.length/\(M.bA n_ b p columns kind deep).1.length<=M.eB deep/\(∀v∈(M.bA n_ b p columns kind deep).1,v.2.2.1.2.2.1.size<=20)/\p<=(M.bA n_ b p columns kind deep).2/\(M.bA n_ b p columns kind deep).2<=p+40 * M.eB deep
 | 0,b,p,columns,kind,deep,h_b,h_columns,p0,p1,p2,p3,p4=>absurd p4 (Nat.not_lt_zero _)
 | n_+1,b,p,columns,kind,deep,h_b,h_columns,p0,p1,p2,p3,p4=>gd (F.pZ n_ (M.oY n_) b p columns kind deep h_b h_columns p0 p1 p2 p3 p4)
theorem F.xo (n_:Nat) (b:(List Int)) (p:Int) (columns:LC) (kind:Int) (deep:Int) (h_b:Sm (Ty.sl (Ty.int .u8)) b) (h_columns:Sm (Ty.sl ag) columns) (p0:M.ay b) (p1:0<=p) (p2:p+40 * (M.eB deep:Int)<=996000000000000) (p3:deep<=3) (p4:deep.toNat<(n_+1)):F.lG n_ b p columns kind deep=some (M.bA (n_+1) b p columns kind deep):=gy (F.pZ n_ (M.oY n_) b p columns kind deep h_b h_columns p0 p1 p2 p3 p4)
theorem dr {α:Type} {K:α->Prop} {f:LPt×Int->Option α} {n_:Nat} {b:(List Int)} {p:Int} {columns:LC} {kind:Int} {deep:Int} (k:∀r,(1<=r.1.length)->(r.1.length<=M.eB deep)->(∀v∈r.1,v.2.2.1.2.2.1.size<=20)->(p<=r.2)->(r.2<=p+40 * M.eB deep)->ok (f r) K) (h_b:Sm (Ty.sl (Ty.int .u8)) b:=by exact au) (h_columns:Sm (Ty.sl ag) columns:=by exact au) (p0:M.ay b:=by exact au) (p1:0<=p:=by exact au) (p2:p+40 * (M.eB deep:Int)<=996000000000000:=by exact au) (p3:deep<=3:=by exact au) (p4:deep.toNat<n_:=by exact au):ok (aI (M.bA n_ b p columns kind deep) f) K:=by
 have h:=M.oY n_ b p columns kind deep h_b h_columns p0 p1 p2 p3 p4
 obtain⟨h0,h1,h2,h3,h4⟩:=h
 exact k _ h0 h1 h2 h3 h4
theorem F.AI (n:Int) (low:Int) (high:Int)  : F.vi n low high=some (M.inR n low high):=by
 unfold F.vi M.inR
 cases decide (low<=n)<;>rfl
theorem F.ue (columns:LC) (h_columns:Sm (Ty.sl ag) columns):F.mH columns=some (M.bE columns):=by
 unfold F.mH M.bE
 rw[gJ M.dV () (fun x _=>by simp only[F.gq,oh,cC]<;>rfl),show decide ((columns.length:Int)<=4)=decide (columns.length<=4) from decide_eq_decide.2 (by omega)]
 cases columns.all M.dV<;>simp
theorem F.za (s:ByteArray) (h_s:Sm Ty.str s):F.qJ s=some (M.text s):=by
 unfold F.qJ M.text M.lower
 have key:∀c:Int,(cond ((decide (c<97))==false) (cond (decide (122<c)) (some (Sum.inr ())) (some (Sum.inl ()))) (some (Sum.inr ())):Option (Sum Unit Unit))=some (cond (M.inR c 97 122) (.inl ()) (.inr ())):=by
  intro c
  unfold M.inR
  by_cases h2:c<97
  ·simp[h2,show ¬ 97<=c by omega]
  ·by_cases h3:122<c
   ·simp[h2,h3,show 97<=c by omega,show ¬c<=122 by omega]
   ·simp[h2,h3,show 97<=c by omega,show c<=122 by omega]
 rw[gJ (fun i=>M.inR (nth (t:=.int .u8) (bU s) i) 97 122) () (fun i hi=>by
  obtain⟨h0,h1⟩:=eY.1 hi
  simp only[F.jf,Bl h0 h1]
  exact key _)]
 rw[<-kQ,Ey (t:=.int .u8) (bU s) (fun n=>M.inR n 97 122),show decide (((bU s).length:Int)<=6)=decide ((bU s).length<=6) from decide_eq_decide.2 (by omega)]
 cases (bU s).all fun n=>M.inR n 97 122<;>simp
theorem F.xe (v:aa.D) (h_v:Sm aa v):F.oX v=some (M.aW v):=by
 unfold F.oX M.aW
 simp only[jK]
 simp only[cC]
theorem F.xI (columns:LC) (kinds:(List Int)) (p:aC.D) (h_columns:Sm (Ty.sl ag) columns) (h_kinds:Sm (Ty.sl (Ty.int .i64)) kinds) (h_p:Sm aC p) (p0:kinds.length<=1000):F.kq columns kinds p=some (M.vA columns kinds p):=by
 obtain⟨o,s,e,_⟩:=tj (columns:=columns) p p0 h_columns.1
 unfold M.vA
 rw[e]
 rfl
theorem F.vk (columns:LC) (e:LPt) (h_columns:Sm (Ty.sl ag) columns) (h_e:Sm (Ty.sl aC) e):F.nJ columns e=some (M.bT columns e):=by
 unfold F.nJ M.bT
 cases M.bE columns
 ·rfl
 by_cases hl:e.length<=12
 ·rw[decide_eq_false (show ¬(12:Int)<(e.length:Int) by omega),decide_eq_true hl]
  obtain⟨o,s,h1,h2⟩:=zv (columns:=columns) (E:=e) (by omega) h_columns.1 e.length 0 [] (by omega) (by omega) (by simp;omega)
  rw[show (0:Int)=((0:Nat):Int) from rfl,h1]
  rw[List.drop_zero] at h2
  unfold nQ at h2
  cases hk:M.jd columns e [] with
  | none=>
   rw[hk] at h2
   simp only at h2
   subst h2
   rfl
  | some s'=>
   rw[hk] at h2
   obtain⟨rfl,rfl⟩:=h2
   match s with
   | []=>rfl
   | [a]=>exact aj (by simp)
   | a::b::l=>
    have:¬((a::b::l).length:Int)=1:=by simp;omega
    simp only[Option.bind_some,this,decide_false]
    rfl
 ·rw[decide_eq_true (show (12:Int)<(e.length:Int) by omega),decide_eq_false hl]
  rfl
theorem F.vL (s:ah.D) (h_s:Sm ah s):F.nK s=some (M.bI s):=by
 unfold F.nK M.bI M.two
 generalize decide (s.2.1=(0:Int))=a0
 generalize decide (s.2.2.1=(0:Int))=b0
 generalize decide (s.2.2.2.1=(0:Int))=n0
 generalize decide ((s.2.2.2.2.1.length:Int)=(0:Int))=e0
 generalize decide ((s.2.2.2.2.2.1.length:Int)=(0:Int))=l0
 by_cases h1:s.1=(1:Int)
 ·simp only[h1,Int.reduceEq,decide_true,decide_false]
  cases a0<;>cases b0<;>cases n0<;>cases e0<;>cases l0<;>rfl
 by_cases h2:s.1=(2:Int)
 ·simp only[h2,Int.reduceEq,decide_true,decide_false]
  cases a0<;>cases b0<;>cases n0<;>cases e0<;>cases l0<;>rfl
 by_cases h3:s.1=(3:Int)
 ·simp only[h3,Int.reduceEq,decide_true,decide_false]
  cases a0<;>cases b0<;>cases n0<;>cases e0<;>cases l0<;>rfl
 by_cases h4:s.1=(4:Int)
 ·simp only[h4,Int.reduceEq,decide_true,decide_false]
  cases a0<;>cases b0<;>cases n0<;>cases e0<;>cases l0<;>rfl
 by_cases h5:s.1=(5:Int)
 ·simp only[h5,Int.reduceEq,decide_true,decide_false]
  cases a0<;>cases b0<;>cases n0<;>cases e0<;>cases l0<;>rfl
 simp only[h1,h2,h3,h4,h5,decide_false]
 cases a0<;>cases b0<;>cases n0<;>cases e0<;>cases l0<;>rfl
theorem F.tB (tables:LTb) (ahead:LLC) (s:ah.D) (h_tables:Sm (Ty.sl ax) tables) (h_ahead:Sm (Ty.sl (Ty.sl ag)) ahead) (h_s:Sm ah s):F.gP tables ahead s=some (M.fB tables ahead s):=by
 obtain⟨r,h1,_⟩:=yJ h_tables h_ahead h_s
 unfold M.fB
 rw[h1]
 rfl
theorem F.xO (ahead:(List Int)) (s:ah.D) (h_ahead:Sm (Ty.sl (Ty.int .i64)) ahead) (h_s:Sm ah s) (p0:M.ni (ahead.length:Int) s):F.qn ahead s=some (M.aL ahead s):=by
 unfold F.qn M.aL
 by_cases h1:s.1=(1:Int)
 ·simp only[h1,decide_true,cond_true]
 obtain⟨⟨a0,a1⟩,⟨b0,b1⟩⟩:=p0 h1
 rw[decide_eq_false h1]
 repeat rw[aj a0]
 repeat rw[aj a1]
 repeat rw[aj b0]
 repeat rw[aj b1]
 cases decide (s.1=(4:Int))<;>cases decide (s.1=(5:Int))<;>rfl
theorem F.zE (tables:LTb) (plan:LS) (h_tables:Sm (Ty.sl ax) tables) (h_plan:Sm (Ty.sl ah) plan):F.sL tables plan=some (M.cQ tables plan):=by
 unfold F.sL M.cQ M.iL
 obtain⟨o,h1,h2⟩:=M.Aa (f:=F.iC tables plan) (M.br tables) (fun t=>t) (fun n (st:eL)=>st.1.length=n/\st.2.length=n/\∀x∈st.1,x.length<=1048576) plan plan [] ([],[]) rfl ⟨rfl,rfl,fun x h=>by cases h⟩ (fun m st hm hI=>by
  obtain⟨l1,l2,hx⟩:=hI
  have hp:=h_plan.1
  have hc:Sm (.sl (.sl ag)) st.1:=⟨by omega,fun x h=>M.xK (hx x h)⟩
  have hstep:=aN h_plan (m:Int)
  have hl6:=Ih h_tables hc hstep
  unfold F.iC M.br
  rw[aj hc,bC,<-hl6]
  cases hb:(M.fB tables st.1 (nth (t:=ah) plan (m:Int))).2 with
  | false=>exact⟨.inr (),rfl,rfl⟩
  | true=>
   rw[hb,cond_true] at hl6
   have hin:=M.mX hl6.symm
   have hsm:=M.vU h_tables hx hl6.symm
   have e12:(st.1.length:Int)=(st.2.length:Int):=by omega
   rw[e12] at hin
   simp only[Bool.not_true,cond_false,cond_true]
   rw[aj (by unfold lim;simp;omega),aj (show Sm (.sl (.int .i64)) st.2 from⟨by omega,fun x _=>trivial⟩),aj hin,aj (by unfold lim;simp;omega),aj (by simp;omega)]
   have hn:nth (t:=.int .i64) (st.2++[M.aL st.2 (nth (t:=ah) plan (m:Int))]) (m:Int)=M.aL st.2 (nth (t:=ah) plan (m:Int)):=by
    unfold nth
    rw[List.getD_eq_getElem?_getD]
    simp[<-l2]
   rw[hn]
   cases hd:decide ((300:Int)<M.aL st.2 (nth (t:=ah) plan (m:Int))) with
   | true=>exact⟨.inr (),rfl,rfl⟩
   | false=>
    refine⟨_,rfl,rfl,by simp[l1],by simp[l2],fun x h=>?_⟩
    rcases List.mem_append.1 h with h | h
    ·exact hx x h
    ·cases List.mem_singleton.1 h
     exact hsm)
 rw[show (aQ (0:Int) (plan.length:Int))=aQ ((([]:List ah.D).length:Nat):Int) (plan.length:Int) from rfl,h1]
 match o with
 | .inl st=>
  simp only at h2
  rw[h2.1]
  rfl
 | .inr _=>
  simp only at h2
  rw[h2]
  rfl
theorem F.pY (b:(List Int)) (p:Int) (tables:LTb) (h_b:Sm (Ty.sl (Ty.int .u8)) b) (h_tables:Sm (Ty.sl ax) tables) (p0:M.ay b) (p1:0<=p) (p2:p<=995000000000000) (p3:(∀t∈tables,M.lJ t)):ok (F.jr b p tables) (fun r=>r.1.length<=6/\1<=r.1.length/\(∀s∈r.1,M.ij s)/\p<=r.2/\r.2<=p+100000):=by
  unfold F.jr
  have hE:=M.Ed (d:=(2:Int))
  have hE2:M.eB (2:Int)=27:=by decide
  refine okG ?_
  refine aB fun r1 h_1_3_0 h_1_3_1 h_1_3_2 h_1_3_3=>?_
  refine okG ?_
  refine okG ?_
  refine aB fun r2 h_2_1_0 h_2_1_1 h_2_1_2 h_2_1_3=>?_
  refine okT (A:=fun e0=>p<=e0.1/\e0.1<=p+16000/\e0.2.length<=6/\1<=e0.2.length/\(∀s∈e0.2,M.ij s)) (B:=fun q0=>p<=q0.1/\q0.1<=p+16000/\q0.2.length<=6/\1<=q0.2.length/\(∀s∈q0.2,M.ij s)) ?_ (fun e0 h_e0=>?_) (fun q0 h_q0=>?_)
  ·refine okW (fun(k:Nat) (v0:Int×Int×LS)=>0<=v0.1/\v0.1<=(k:Int)/\(v0.2.2.length:Int)+v0.1<=6/\1<=v0.2.2.length/\(∀s∈v0.2.2,M.ij s)/\p<=v0.2.1/\v0.2.1+3000 * v0.1<=p+16000) (fun k v0 hI=>?_) (6:Nat) _ ⟨au,au,au,au,au,au,au⟩
   obtain⟨i_0,i_1,i_2,i_3,i_4,i_5,i_6⟩:=hI
   unfold F.iN
   refine okD (fun c_11=>?_) (fun c_11=>?_)
   ·refine okG ?_ (M.qu (n:=1000) (by first | omega | (simp only[List.length_append,List.length_cons,List.length_nil];omega)) (by exact cl) (by decide))
    refine okL fun r3 er3=>?_
    have k_a:=M.AL p3 er3
    refine okC (fun c_12=>?_) (fun c_12=>?_)
    ·exact Fk ⟨au,au,au,au,au⟩
    ·have l_a:=M.Cd er3 c_12
     have l_b:r3.1.length<=6:=by omega
     refine okG ?_
     refine okG ?_
     refine okG ?_
     refine aB fun r4 h_9_3_0 h_9_3_1 h_9_3_2 h_9_3_3=>?_
     have t_a:=M.HI h_9_3_0 (h_9_3_1 (by decide)) (n:=(v0.2.2.length:Int)) (by omega) (by omega)
     refine okD (fun c_13=>?_) (fun c_13=>?_)
     ·refine okG ?_
      refine okG ?_
      refine aB fun r5 h_12_3_0 h_12_3_1 h_12_3_2 h_12_3_3=>?_
      refine okG ?_
      refine okG ?_
      refine aB fun r6 h_13_1_0 h_13_1_1 h_13_1_2 h_13_1_3=>?_
      refine okB (A:=fun e2=>v0.2.1<=e2.1/\e2.1<=v0.2.1+2000/\e2.2.2.2.2.2.1.length<=81/\(∀v∈e2.2.2.2.2.2.1,v.2.2.1.2.2.1.size<=20)/\e2.2.2.2.2.2.2.length<=3) ?_ (fun e2 h_e2=>?_)
      ·refine okW (fun(_:Nat) (_:Unit)=>True) (fun _ v2 _=>?_) 0 _ trivial
       unfold F.dO
       refine okD (fun c_3=>?_) (fun c_3=>?_)
       ·refine okG ?_
        refine okG ?_
        refine okG ?_ (M.lC rfl (M.lE k_a _) (by decide))
        refine okG ?_
        refine okG ?_
        refine okG ?_
        refine okG ?_
        refine okG ?_
        refine dr fun r7 h_15_6_0 h_15_6_1 h_15_6_2 h_15_6_3 h_15_6_4=>?_
        exact di ⟨au,au,au,au,au⟩
       ·refine okD (fun c_4=>?_) (fun c_4=>?_)
        ·refine okG ?_
         refine okG ?_
         refine okG ?_
         refine aB fun r8 h_18_1_0 h_18_1_1 h_18_1_2 h_18_1_3=>?_
         refine okB (A:=fun e3=>v0.2.1<=e3.1/\e3.1<=v0.2.1+30/\e3.2.length<=3) ?_ (fun e3 h_e3=>?_)
         ·refine okW (fun(k:Nat) (v3:Int×Int×(List Int))=>0<=v3.1+1/\v3.1+1<=(k:Int)/\(v3.2.2.length:Int)+v3.1<=2/\v0.2.1<=v3.2.1/\v3.2.1+v3.1<=v0.2.1+20) (fun k v3 hI=>?_) (3:Nat) _ ⟨au,au,au,au,au⟩
          obtain⟨i_0,i_1,i_2,i_3,i_4⟩:=hI
          unfold F.fQ
          refine DK (fun c_0=>?_) (fun c_0=>?_)
          ·refine okG ?_
           refine okG ?_
           refine okD (fun c_1=>?_) (fun c_1=>?_)
           ·refine okG ?_
            refine okG ?_
            refine okG ?_
            refine aB fun r9 h_21_8_0 h_21_8_1 h_21_8_2 h_21_8_3=>?_
            refine okG ?_ (by simp only[List.length_cons,List.length_nil,List.length_append,lim];omega)
            exact eJ ⟨k-1,by omega,au,au,au,au,au⟩
           ·exact di ⟨au,au,au⟩
          ·exact di ⟨au,au,au⟩
         ·obtain⟨e3_0,e3_1,e3_2⟩:=h_e3
          exact di ⟨au,au,au,au,au⟩
        ·refine okD (fun c_5=>?_) (fun c_5=>?_)
         ·refine okG ?_
          refine okG ?_
          refine okG ?_
          refine aB fun r10 h_24_2_0 h_24_2_1 h_24_2_2 h_24_2_3=>?_
          refine okG ?_
          refine okG ?_
          refine okG ?_
          refine okG ?_
          refine okG ?_ (M.jl1 k_a)
          refine okG ?_ (M.jl2 k_a)
          refine okD (fun c_6=>?_) (fun c_6=>?_)
          ·refine okG ?_ (M.jl3 k_a)
           refine okG ?_
           refine okG ?_
           refine okG ?_
           refine okG ?_
           refine dr fun r11 h_27_4_0 h_27_4_1 h_27_4_2 h_27_4_3 h_27_4_4=>?_
           exact di ⟨au,au,au,au,au⟩
          ·exact di ⟨au,au,au,au,au⟩
         ·refine okD (fun c_7=>?_) (fun c_7=>?_)
          ·refine okG ?_
           refine okG ?_
           refine okG ?_
           refine aB fun r10 h_24_2_0 h_24_2_1 h_24_2_2 h_24_2_3=>?_
           refine okG ?_
           refine okG ?_
           refine okG ?_
           refine okG ?_
           refine okG ?_ (M.jl1 k_a)
           refine okG ?_ (M.jl2 k_a)
           refine okD (fun c_8=>?_) (fun c_8=>?_)
           ·refine okG ?_ (M.jl3 k_a)
            refine okG ?_
            refine okG ?_
            refine okG ?_
            refine okG ?_
            refine dr fun r11 h_27_4_0 h_27_4_1 h_27_4_2 h_27_4_3 h_27_4_4=>?_
            exact di ⟨au,au,au,au,au⟩
           ·exact di ⟨au,au,au,au,au⟩
          ·refine okD (fun c_9=>?_) (fun c_9=>?_)
           ·refine okG ?_ (by unfold kD;omega)
            refine okT (A:=fun v5=>(0:Int)<=0/\(0:Int)<=0) (B:=fun _=>False) ?_ (fun v5 h_v5=>?_) (fun _ h=>h.elim)
            ·refine GF (fun(k:Nat) (v5:Int×Int×Int×Int)=>(0:Int)<=0/\(0:Int)<=0) ⟨au,au⟩ (fun z5 hz k v5 hk hI=>?_)
             obtain⟨i_0,i_1⟩:=hI
             unfold F.fW
             refine okG ?_ (M.AK l_b k_a (by decide))
             refine okL fun r12 er12=>?_
             refine okC (fun c_2=>?_) (fun c_2=>?_)
             ·exact eJ ⟨au,au⟩
             ·exact eJ ⟨au,au⟩
            ·obtain⟨v5_0,v5_1⟩:=h_v5
             exact di ⟨au,au,au,au,au⟩
           ·refine okD (fun c_10=>?_) (fun c_10=>?_)
            ·exact di ⟨au,au,au,au,au⟩
            ·exact di ⟨au,au,au,au,au⟩
      ·obtain⟨e2_0,e2_1,e2_2,e2_3,e2_4⟩:=h_e2
       refine okG ?_ (by simp only[List.length_cons,List.length_nil,List.length_append,lim];omega)
       refine okG ?_ (by simp only[List.length_cons,List.length_nil,List.length_append,lim];omega)
       refine okG ?_ (M.qu (n:=1000) (by first | omega | (simp only[List.length_append,List.length_cons,List.length_nil];omega)) (by exact cl) (by decide))
       refine okL fun r13 er13=>?_
       refine okC (fun c_14=>?_) (fun c_14=>?_)
       ·refine okG ?_ (by simp only[List.length_cons,List.length_nil,List.length_append,lim];omega)
        exact eJ ⟨k-1,by omega,au,au,au,au,au,au,au⟩
       ·exact eJ ⟨k-1,by omega,au,au,au,au,au,au,au⟩
     ·refine okG ?_
      refine okG ?_
      refine aB fun r5 h_12_3_0 h_12_3_1 h_12_3_2 h_12_3_3=>?_
      refine okG ?_
      refine okG ?_
      refine aB fun r6 h_13_1_0 h_13_1_1 h_13_1_2 h_13_1_3=>?_
      refine okB (A:=fun e2=>v0.2.1<=e2.1/\e2.1<=v0.2.1+2000/\e2.2.2.2.2.2.1.length<=81/\(∀v∈e2.2.2.2.2.2.1,v.2.2.1.2.2.1.size<=20)/\e2.2.2.2.2.2.2.length<=3) ?_ (fun e2 h_e2=>?_)
      ·refine okW (fun(_:Nat) (_:Unit)=>True) (fun _ v2 _=>?_) 0 _ trivial
       unfold F.dO
       refine okD (fun c_3=>?_) (fun c_3=>?_)
       ·refine okG ?_
        refine okG ?_
        refine okG ?_ (M.lC rfl (M.lE k_a _) (by decide))
        refine okG ?_
        refine okG ?_
        refine okG ?_
        refine okG ?_
        refine okG ?_
        refine dr fun r7 h_15_6_0 h_15_6_1 h_15_6_2 h_15_6_3 h_15_6_4=>?_
        exact di ⟨au,au,au,au,au⟩
       ·refine okD (fun c_4=>?_) (fun c_4=>?_)
        ·refine okG ?_
         refine okG ?_
         refine okG ?_
         refine aB fun r8 h_18_1_0 h_18_1_1 h_18_1_2 h_18_1_3=>?_
         refine okB (A:=fun e3=>v0.2.1<=e3.1/\e3.1<=v0.2.1+30/\e3.2.length<=3) ?_ (fun e3 h_e3=>?_)
         ·refine okW (fun(k:Nat) (v3:Int×Int×(List Int))=>0<=v3.1+1/\v3.1+1<=(k:Int)/\(v3.2.2.length:Int)+v3.1<=2/\v0.2.1<=v3.2.1/\v3.2.1+v3.1<=v0.2.1+20) (fun k v3 hI=>?_) (3:Nat) _ ⟨au,au,au,au,au⟩
          obtain⟨i_0,i_1,i_2,i_3,i_4⟩:=hI
          unfold F.fQ
          refine DK (fun c_0=>?_) (fun c_0=>?_)
          ·refine okG ?_
           refine okG ?_
           refine okD (fun c_1=>?_) (fun c_1=>?_)
           ·refine okG ?_
            refine okG ?_
            refine okG ?_
            refine aB fun r9 h_21_8_0 h_21_8_1 h_21_8_2 h_21_8_3=>?_
            refine okG ?_ (by simp only[List.length_cons,List.length_nil,List.length_append,lim];omega)
            exact eJ ⟨k-1,by omega,au,au,au,au,au⟩
           ·exact di ⟨au,au,au⟩
          ·exact di ⟨au,au,au⟩
         ·obtain⟨e3_0,e3_1,e3_2⟩:=h_e3
          exact di ⟨au,au,au,au,au⟩
        ·refine okD (fun c_5=>?_) (fun c_5=>?_)
         ·refine okG ?_
          refine okG ?_
          refine okG ?_
          refine aB fun r10 h_24_2_0 h_24_2_1 h_24_2_2 h_24_2_3=>?_
          refine okG ?_
          refine okG ?_
          refine okG ?_
          refine okG ?_
          refine okG ?_ (M.jl1 k_a)
          refine okG ?_ (M.jl2 k_a)
          refine okD (fun c_6=>?_) (fun c_6=>?_)
          ·refine okG ?_ (M.jl3 k_a)
           refine okG ?_
           refine okG ?_
           refine okG ?_
           refine okG ?_
           refine dr fun r11 h_27_4_0 h_27_4_1 h_27_4_2 h_27_4_3 h_27_4_4=>?_
           exact di ⟨au,au,au,au,au⟩
          ·exact di ⟨au,au,au,au,au⟩
         ·refine okD (fun c_7=>?_) (fun c_7=>?_)
          ·refine okG ?_
           refine okG ?_
           refine okG ?_
           refine aB fun r10 h_24_2_0 h_24_2_1 h_24_2_2 h_24_2_3=>?_
           refine okG ?_
           refine okG ?_
           refine okG ?_
           refine okG ?_
           refine okG ?_ (M.jl1 k_a)
           refine okG ?_ (M.jl2 k_a)
           refine okD (fun c_8=>?_) (fun c_8=>?_)
           ·refine okG ?_ (M.jl3 k_a)
            refine okG ?_
            refine okG ?_
            refine okG ?_
            refine okG ?_
            refine dr fun r11 h_27_4_0 h_27_4_1 h_27_4_2 h_27_4_3 h_27_4_4=>?_
            exact di ⟨au,au,au,au,au⟩
           ·exact di ⟨au,au,au,au,au⟩
          ·refine okD (fun c_9=>?_) (fun c_9=>?_)
           ·refine okG ?_ (by unfold kD;omega)
            refine okT (A:=fun v5=>(0:Int)<=0/\(0:Int)<=0) (B:=fun _=>False) ?_ (fun v5 h_v5=>?_) (fun _ h=>h.elim)
            ·refine GF (fun(k:Nat) (v5:Int×Int×Int×Int)=>(0:Int)<=0/\(0:Int)<=0) ⟨au,au⟩ (fun z5 hz k v5 hk hI=>?_)
             obtain⟨i_0,i_1⟩:=hI
             unfold F.fW
             refine okG ?_ (M.AK l_b k_a (by decide))
             refine okL fun r12 er12=>?_
             refine okC (fun c_2=>?_) (fun c_2=>?_)
             ·exact eJ ⟨au,au⟩
             ·exact eJ ⟨au,au⟩
            ·obtain⟨v5_0,v5_1⟩:=h_v5
             exact di ⟨au,au,au,au,au⟩
           ·refine okD (fun c_10=>?_) (fun c_10=>?_)
            ·exact di ⟨au,au,au,au,au⟩
            ·exact di ⟨au,au,au,au,au⟩
      ·obtain⟨e2_0,e2_1,e2_2,e2_3,e2_4⟩:=h_e2
       refine okG ?_ (by simp only[List.length_cons,List.length_nil,List.length_append,lim];omega)
       refine okG ?_ (by simp only[List.length_cons,List.length_nil,List.length_append,lim];omega)
       refine okG ?_ (M.qu (n:=1000) (by first | omega | (simp only[List.length_append,List.length_cons,List.length_nil];omega)) (by exact cl) (by decide))
       refine okL fun r13 er13=>?_
       refine okC (fun c_15=>?_) (fun c_15=>?_)
       ·refine okG ?_ (by simp only[List.length_cons,List.length_nil,List.length_append,lim];omega)
        exact eJ ⟨k-1,by omega,au,au,au,au,au,au,au⟩
       ·exact eJ ⟨k-1,by omega,au,au,au,au,au,au,au⟩
   ·exact Dq ⟨au,au,au,au,au⟩
  ·obtain⟨e0_0,e0_1,e0_2,e0_3,e0_4⟩:=h_e0
   exact xT
  ·obtain⟨q0_0,q0_1,q0_2,q0_3,q0_4⟩:=h_q0
   exact xT
theorem F.wY (b:(List Int)) (p:Int) (tables:LTb) (h_b:Sm (Ty.sl (Ty.int .u8)) b) (h_tables:Sm (Ty.sl ax) tables) (p0:M.ay b) (p1:0<=p) (p2:p<=995000000000000) (p3:(∀t∈tables,M.lJ t)):F.jr b p tables=some (M.jZ b p tables):=gy (F.pY b p tables h_b h_tables p0 p1 p2 p3)
theorem M.Bx (b:(List Int)) (p:Int) (tables:LTb) (h_b:Sm (Ty.sl (Ty.int .u8)) b) (h_tables:Sm (Ty.sl ax) tables) (p0:M.ay b) (p1:0<=p) (p2:p<=995000000000000) (p3:(∀t∈tables,M.lJ t)):(M.jZ b p tables).1.length<=6/\1<=(M.jZ b p tables).1.length/\(∀s∈(M.jZ b p tables).1,M.ij s)/\p<=(M.jZ b p tables).2/\(M.jZ b p tables).2<=p+100000:=gd (F.pY b p tables h_b h_tables p0 p1 p2 p3)
theorem uN {α:Type} {K:α->Prop} {f:LS×Int->Option α} {b:(List Int)} {p:Int} {tables:LTb} (k:∀r,(r.1.length<=6)->(1<=r.1.length)->(∀s∈r.1,M.ij s)->(p<=r.2)->(r.2<=p+100000)->ok (f r) K) (h_b:Sm (Ty.sl (Ty.int .u8)) b:=by exact au) (h_tables:Sm (Ty.sl ax) tables:=by exact au) (p0:M.ay b:=by exact au) (p1:0<=p:=by exact au) (p2:p<=995000000000000:=by exact au) (p3:(∀t∈tables,M.lJ t):=by exact au):ok (aI (M.jZ b p tables) f) K:=by
 have h:=M.Bx b p tables h_b h_tables p0 p1 p2 p3
 obtain⟨h0,h1,h2,h3,h4⟩:=h
 exact k _ h0 h1 h2 h3 h4
theorem F.om (b:(List Int)) (p:Int) (h_b:Sm (Ty.sl (Ty.int .u8)) b) (p0:M.ay b) (p1:0<=p) (p2:p<=994000000000000):ok (F.iA b p) (fun r=>r.1.length<=3/\1<=r.1.length/\(∀t∈r.1,M.lJ t)/\r.2.1.length<=6/\1<=r.2.1.length/\(∀s∈r.2.1,M.ij s)/\p<=r.2.2/\r.2.2<=p+200000):=by
 unfold F.iA
 refine okG ?_
 refine okG ?_
 refine si fun r1 h_1_1_0 h_1_1_1 h_1_1_2 h_1_1_3 h_1_1_4=>?_
 refine okG ?_
 refine okG ?_
 refine okG ?_
 refine okG ?_
 refine uN fun r2 h_2_2_0 h_2_2_1 h_2_2_2 h_2_2_3 h_2_2_4=>?_
 refine okG ?_
 refine okG ?_
 refine aB fun r3 h_3_6_0 h_3_6_1 h_3_6_2 h_3_6_3=>?_
 have m_a:=M.Ii (n:=(r2.1.length:Int)) (by omega)
 have w_a:wrap64 ((1:Int)+r3.1)=1+r3.1:=aK (by omega) (by omega)
 refine okG ?_
 refine okG ?_
 refine okS ?_
 dsimp only
 exact⟨au,au,au,Nat.le_trans (M.AW _ _) (by omega),M.Hi (by omega) (by omega) (by omega),au,au,au⟩
theorem F.vg (b:(List Int)) (p:Int) (h_b:Sm (Ty.sl (Ty.int .u8)) b) (p0:M.ay b) (p1:0<=p) (p2:p<=994000000000000):F.iA b p=some (M.ez b p):=gy (F.om b p h_b p0 p1 p2)
theorem M.zu (b:(List Int)) (p:Int) (h_b:Sm (Ty.sl (Ty.int .u8)) b) (p0:M.ay b) (p1:0<=p) (p2:p<=994000000000000):(M.ez b p).1.length<=3/\1<=(M.ez b p).1.length/\(∀t∈(M.ez b p).1,M.lJ t)/\(M.ez b p).2.1.length<=6/\1<=(M.ez b p).2.1.length/\(∀s∈(M.ez b p).2.1,M.ij s)/\p<=(M.ez b p).2.2/\(M.ez b p).2.2<=p+200000:=gd (F.om b p h_b p0 p1 p2)
theorem mK {α:Type} {K:α->Prop} {f:LTb×LS×Int->Option α} {b:(List Int)} {p:Int} (k:∀r,(r.1.length<=3)->(1<=r.1.length)->(∀t∈r.1,M.lJ t)->(r.2.1.length<=6)->(1<=r.2.1.length)->(∀s∈r.2.1,M.ij s)->(p<=r.2.2)->(r.2.2<=p+200000)->ok (f r) K) (h_b:Sm (Ty.sl (Ty.int .u8)) b:=by exact au) (p0:M.ay b:=by exact au) (p1:0<=p:=by exact au) (p2:p<=994000000000000:=by exact au):ok (aI (M.ez b p) f) K:=by
 have h:=M.zu b p h_b p0 p1 p2
 obtain⟨h0,h1,h2,h3,h4,h5,h6,h7⟩:=h
 exact k _ h0 h1 h2 h3 h4 h5 h6 h7
theorem F.mO (b:(List Int)) (p:Int) (tables:LTb) (n:Int) (h_b:Sm (Ty.sl (Ty.int .u8)) b) (h_tables:Sm (Ty.sl ax) tables) (p0:M.ay b) (p1:0<=p) (p2:p<=994000000000000) (p3:tables.length<=3):ok (F.gH b p tables n) (fun r=>r.1.length<=4/\(∀g∈r.1,M.gdD g)/\p<=r.2/\r.2<=p+100000):=by
  unfold F.gH
  have hE2:M.eB (2:Int)=27:=by decide
  have hR:(aQ (0:Int) (tables.length:Int)).length=tables.length:=by simp[aQ]
  refine okT (A:=fun v0=>p<=v0.1/\v0.1<=p+2000 * ((aQ (0:Int) (tables.length:Int)).length:Int)/\v0.2.length<=(aQ (0:Int) (tables.length:Int)).length/\(∀g∈v0.2,M.gdD g)) (B:=fun _=>False) ?_ (fun v0 h_v0=>?_) (fun _ h=>h.elim)
  ·refine GF (fun(k:Nat) (v0:Int×LG)=>p<=v0.1/\v0.1<=p+2000 * (k:Int)/\v0.2.length<=k/\(∀g∈v0.2,M.gdD g)) ⟨au,au,au,au⟩ (fun z0 hz k v0 hk hI=>?_)
   obtain⟨i_0,i_1,i_2,i_3⟩:=hI
   unfold F.gC
   refine okG ?_
   refine okG ?_
   refine okG ?_
   refine aB fun r1 h_5_1_0 h_5_1_1 h_5_1_2 h_5_1_3=>?_
   refine okD (fun c_0=>?_) (fun c_0=>?_)
   ·refine okG ?_
    refine okG ?_
    refine okG ?_
    refine okG ?_
    refine dr fun r2 h_6_8_0 h_6_8_1 h_6_8_2 h_6_8_3 h_6_8_4=>?_
    refine okG ?_
    exact eJ ⟨au,au,au,au⟩
   ·exact eJ ⟨au,au,au,au⟩
  ·obtain⟨v0_0,v0_1,v0_2,v0_3⟩:=h_v0
   refine DK (fun c_1=>?_) (fun c_1=>?_)
   ·refine okG ?_
    refine okG ?_
    refine jn fun r3 h_7_6_0 h_7_6_1 h_7_6_2=>?_
    refine okC (fun c_2=>?_) (fun c_2=>?_)
    ·refine okG ?_
     refine okG ?_
     refine aB fun r4 h_8_1_0 h_8_1_1 h_8_1_2 h_8_1_3=>?_
     refine okD (fun c_3=>?_) (fun c_3=>?_)
     ·refine okG ?_
      refine okG ?_
      refine aB fun r5 h_11_2_0 h_11_2_1 h_11_2_2 h_11_2_3=>?_
      refine okG ?_
      refine okL fun y1 ey1=>?_
      subst ey1
      exact vl
     ·refine okD (fun c_4=>?_) (fun c_4=>?_)
      ·refine okG ?_
       refine okG ?_
       refine okG ?_
       refine aB fun r6 h_13_11_0 h_13_11_1 h_13_11_2 h_13_11_3=>?_
       refine okG ?_
       refine okG ?_
       refine okL fun y2 ey2=>?_
       subst ey2
       exact vl
      ·refine okG ?_
       refine okG ?_
       exact vl
    ·exact vl
   ·exact vl
theorem F.tU (b:(List Int)) (p:Int) (tables:LTb) (n:Int) (h_b:Sm (Ty.sl (Ty.int .u8)) b) (h_tables:Sm (Ty.sl ax) tables) (p0:M.ay b) (p1:0<=p) (p2:p<=994000000000000) (p3:tables.length<=3):F.gH b p tables n=some (M.fE b p tables n):=gy (F.mO b p tables n h_b h_tables p0 p1 p2 p3)
theorem M.yV (b:(List Int)) (p:Int) (tables:LTb) (n:Int) (h_b:Sm (Ty.sl (Ty.int .u8)) b) (h_tables:Sm (Ty.sl ax) tables) (p0:M.ay b) (p1:0<=p) (p2:p<=994000000000000) (p3:tables.length<=3):(M.fE b p tables n).1.length<=4/\(∀g∈(M.fE b p tables n).1,M.gdD g)/\p<=(M.fE b p tables n).2/\(M.fE b p tables n).2<=p+100000:=gd (F.mO b p tables n h_b h_tables p0 p1 p2 p3)
theorem mz {α:Type} {K:α->Prop} {f:LG×Int->Option α} {b:(List Int)} {p:Int} {tables:LTb} {n:Int} (k:∀r,(r.1.length<=4)->(∀g∈r.1,M.gdD g)->(p<=r.2)->(r.2<=p+100000)->ok (f r) K) (h_b:Sm (Ty.sl (Ty.int .u8)) b:=by exact au) (h_tables:Sm (Ty.sl ax) tables:=by exact au) (p0:M.ay b:=by exact au) (p1:0<=p:=by exact au) (p2:p<=994000000000000:=by exact au) (p3:tables.length<=3:=by exact au):ok (aI (M.fE b p tables n) f) K:=by
 have h:=M.yV b p tables n h_b h_tables p0 p1 p2 p3
 obtain⟨h0,h1,h2,h3⟩:=h
 exact k _ h0 h1 h2 h3
theorem F.iZ (code:(List Int)) (h_code:Sm (Ty.sl (Ty.int .u8)) code) (p0:M.ay code):ok (F.dH code) (fun r=>r.1.length<=3/\1<=r.1.length/\(∀t∈r.1,M.lJ t)/\r.2.1.length<=4/\(∀g∈r.2.1,M.gdD g)/\r.2.2.length<=6/\1<=r.2.2.length/\(∀s∈r.2.2,M.ij s)):=by
  unfold F.dH
  refine okD (fun c_0=>?_) (fun c_0=>?_)
  ·refine okG ?_
   refine okG ?_
   refine okG ?_
   refine okG ?_
   refine okG ?_
   refine mK fun r1 h_2_1_0 h_2_1_1 h_2_1_2 h_2_1_3 h_2_1_4 h_2_1_5 h_2_1_6 h_2_1_7=>?_
   refine okG ?_
   refine okG ?_
   refine okG ?_
   refine okG ?_
   refine mz fun r2 h_3_3_0 h_3_3_1 h_3_3_2 h_3_3_3=>?_
   exact Il
  ·refine okG ?_
   refine okG ?_
   refine mK fun r1 h_2_1_0 h_2_1_1 h_2_1_2 h_2_1_3 h_2_1_4 h_2_1_5 h_2_1_6 h_2_1_7=>?_
   refine okG ?_
   refine okG ?_
   refine okG ?_
   refine okG ?_
   refine mz fun r2 h_3_3_0 h_3_3_1 h_3_3_2 h_3_3_3=>?_
   exact Il
theorem F.oB (code:(List Int)) (h_code:Sm (Ty.sl (Ty.int .u8)) code) (p0:M.ay code):F.dH code=some (M.bR code):=gy (F.iZ code h_code p0)
theorem M.kj (code:(List Int)) (h_code:Sm (Ty.sl (Ty.int .u8)) code) (p0:M.ay code):(M.bR code).1.length<=3/\1<=(M.bR code).1.length/\(∀t∈(M.bR code).1,M.lJ t)/\(M.bR code).2.1.length<=4/\(∀g∈(M.bR code).2.1,M.gdD g)/\(M.bR code).2.2.length<=6/\1<=(M.bR code).2.2.length/\(∀s∈(M.bR code).2.2,M.ij s):=gd (F.iZ code h_code p0)
theorem zN {α:Type} {K:α->Prop} {f:LTb×LG×LS->Option α} {code:(List Int)} (k:∀r,(r.1.length<=3)->(1<=r.1.length)->(∀t∈r.1,M.lJ t)->(r.2.1.length<=4)->(∀g∈r.2.1,M.gdD g)->(r.2.2.length<=6)->(1<=r.2.2.length)->(∀s∈r.2.2,M.ij s)->ok (f r) K) (h_code:Sm (Ty.sl (Ty.int .u8)) code:=by exact au) (p0:M.ay code:=by exact au):ok (aI (M.bR code) f) K:=by
 have h:=M.kj code h_code p0
 obtain⟨h0,h1,h2,h3,h4,h5,h6,h7⟩:=h
 exact k _ h0 h1 h2 h3 h4 h5 h6 h7
theorem F.vB (tables:LTb) (guards:LG) (h_tables:Sm (Ty.sl ax) tables) (h_guards:Sm (Ty.sl az) guards):F.nh tables guards=some (M.bH tables guards):=by
 unfold F.nh M.bH
 rw[gJ (M.lB tables guards) () (fun i hi=>by
  obtain⟨i0,i1⟩:=eY.1 hi
  have hl:=h_guards.1
  have hw:wrap64 (i-(1:Int))=i-1:=aK (by omega) (by omega)
  simp only[F.ig,hw,fy _ h_tables.1]
  unfold M.lB
  generalize M.inR (nth (t:=az) guards i).1 0 ((tables.length:Int)-1)=c1
  generalize decide (M.bT (nth (t:=ax) tables (nth (t:=az) guards i).1).1 (nth (t:=az) guards i).2.1=3)=c2
  generalize decide ((nth (t:=az) guards i).1<=(nth (t:=az) guards (i-1)).1)=c3
  by_cases h0:0<i
  ·have g1:0<=i-1:=by omega
   have g2:i-1<(guards.length:Int):=by omega
   rw[decide_eq_true h0]
   repeat rw[aj g1]
   repeat rw[aj g2]
   cases c1<;>cases c2<;>cases c3<;>rfl
  ·rw[decide_eq_false h0]
   cases c1<;>cases c2<;>cases c3<;>rfl)]
 cases M.bN tables<;>cases (aQ 0 (guards.length:Int)).all (M.lB tables guards)<;>rfl
theorem F.yx (xs:LPt) (h_xs:Sm (Ty.sl aC) xs):F.wm xs=some xs:=by
 exact M.rF (t:=aC)
theorem F.wN (xs:(List Int)) (h_xs:Sm (Ty.sl (Ty.int .i64)) xs):F.tc xs=some xs:=by
 exact M.rF (t:=(Ty.int .i64))
theorem F.yH (kind:Int)  : F.qg kind=some (M.two kind):=by
 unfold F.qg M.two
 cases decide (kind=(4:Int))<;>rfl
theorem F.wV (guards:LG) (n:Int) (h_guards:Sm (Ty.sl az) guards):F.oV guards n=some (M.guardOf guards n):=by
 unfold F.oV M.guardOf
 have key:∀l:List az.D,aO (F.fR guards n) l ()=some (match l.find? (fun g:az.D=>decide (g.1=n)) with | some g=>.inr g.2.1 | none=>.inl ()):=by
  intro l
  induction l with
  | nil=>rfl
  | cons x l ih=>
   rw[bS,List.find?_cons]
   unfold F.fR
   cases decide (x.1=n) with
   | true=>rfl
   | false=>exact ih
 rw[key]
 cases guards.find? (fun g:az.D=>decide (g.1=n))<;>rfl
theorem F.uL (plan:LS) (h_plan:Sm (Ty.sl ah) plan):F.nX plan=some plan:=by
 unfold F.nX
 rw[qE (fun r=>r) (fun x hx s hs=>by
  have hl:=h_plan.1
  simp only[F.gU,bC,M.jl]
  rw[aj (by unfold lim;simp;omega)]),M.tX,bq,M.fP]
theorem F.rO (tables:LTb) (guards:LG) (plan:LS) (h_tables:Sm (Ty.sl ax) tables) (h_guards:Sm (Ty.sl az) guards) (h_plan:Sm (Ty.sl ah) plan):F.jL tables guards plan=some (M.cj tables guards plan):=by
 unfold F.jL M.cj
 cases hg:M.bH tables guards
 ·rfl
 cases hp:M.bQ tables plan
 ·rfl
 have p0:=M.ko hp
 have hl:=h_plan.1
 have e1:(plan.length:Int).toNat=plan.length:=by simp
 simp only[Bool.not_true,cond_true,cond_false,bC,Bool.and_self,show ((false:Bool)==false)=true from rfl]
 rw[e1]
 have hfold:=M.qt (f:=F.dW tables guards plan) (M.bO guards plan) (fun k v=>v.2.length=plan.length/\(v.1.length:Int)<=2 * k/\∀s∈v.1,Sm ah s) plan.length (s:=([],List.replicate plan.length (0:Int))) ⟨by simp,by simp,fun s h=>by cases h⟩ (fun k v k0 k1 hI=>by
   have hnext:(M.bO guards plan v k).2.length=plan.length/\((M.bO guards plan v k).1.length:Int)<=2 * (k+1)/\∀s∈(M.bO guards plan v k).1,Sm ah s:=by
    have:=M.BG (guards:=guards) (plan:=plan) (v:=v) (k:=k)
    refine⟨this.2.trans hI.1,?_,M.Bc h_guards h_plan hI.2.2⟩
    have h1:=this.1
    have h2:=hI.2.1
    omega
   refine⟨?_,hnext⟩
   clear hnext
   have hl:=h_plan.1
   obtain⟨hI1,hI2,hI3⟩:=hI
   have hin:=p0.2 k k0 k1
   have hs1:k<(v.2.length:Int):=by rw[hI1];exact k1
   have hv6:v.1.length<=4000000:=by omega
   have hlim:∀s:ah.D,(v.1.length+[s].length) * 80<=lim:=fun s=>by unfold lim;simp;omega
   have hlim2:∀s s':ah.D,((v.1++[s]).length+[s'].length) * 80<=lim:=fun s s'=>by unfold lim;simp;omega
   have hw1:∀s:ah.D,wrap64 (((v.1++[s]).length:Int)-1)=((v.1++[s]).length:Int)-1:=fun s=>aK (by simp<;>omega) (by simp<;>omega)
   have hw2:∀s s':ah.D,wrap64 (((v.1++[s]++[s']).length:Int)-1)=((v.1++[s]++[s']).length:Int)-1:=fun s s'=>aK (by simp<;>omega) (by simp<;>omega)
   unfold F.dW M.bO M.kF M.dM M.ren
   simp only[bC,M.jl]
   by_cases h1:(nth (t:=ah) plan k).1=(1:Int)
   ·have ht:M.two (nth (t:=ah) plan k).1=false:=by rw[h1];rfl
    rw[ht]
    simp only[h1,decide_true,Bool.not_true,Bool.true_and,cond_true,cond_false]
    rw[aj (hlim _)]
    cases (M.guardOf guards (nth (t:=ah) plan k).2.2.2.1).2
    ·simp only[cond_false,show ((false:Bool)==true)=false from rfl]
     rw[aj hs1,hw1]
    ·simp only[cond_true,show ((true:Bool)==true)=true from rfl]
     rw[aj (hlim2 _ _),aj hs1,hw1,hw2]
   ·obtain⟨⟨a0,a1⟩,⟨b0,b1⟩⟩:=hin h1
    have a2:(nth (t:=ah) plan k).2.1<(v.2.length:Int):=by rw[hI1];exact Int.lt_trans a1 k1
    have b2:(nth (t:=ah) plan k).2.2.1<(v.2.length:Int):=by rw[hI1];exact Int.lt_trans b1 k1
    rw[decide_eq_false h1]
    simp only[Bool.not_false,Bool.false_and,cond_true,cond_false]
    rw[aj a0,aj a2]
    cases M.two (nth (t:=ah) plan k).1
    ·simp only[cond_false]
     rw[aj (hlim _)]
     cases (M.guardOf guards (nth (t:=ah) plan k).2.2.2.1).2<;>simp only[cond_true,cond_false,show ((false:Bool)==true)=false from rfl,show ((true:Bool)==true)=true from rfl]<;>rw[aj hs1,hw1]
    ·simp only[cond_true]
     rw[aj b0,aj b2,aj (hlim _)]
     cases (M.guardOf guards (nth (t:=ah) plan k).2.2.2.1).2<;>simp only[cond_true,cond_false,show ((false:Bool)==true)=false from rfl,show ((true:Bool)==true)=true from rfl]<;>rw[aj hs1,hw1])
 rw[hfold.1,bq]
 show cond (decide (6<((M.grown guards plan).1.length:Int))) _ (af (Sm (.sl ah) (M.grown guards plan).1) (some ((M.grown guards plan).1.take ((M.grown guards plan).1.length:Int).toNat,true)))=_
 rw[aj ⟨by have:=hfold.2.2.1;have h6:=M.Cg hp;show (M.grown guards plan).1.length<=1048576;have e:(M.grown guards plan).1=((aQ 0 (plan.length:Int)).foldl (M.bO guards plan) ([],List.replicate plan.length (0:Int))).1:=rfl;rw[e];omega,hfold.2.2.2⟩,M.fP,cC]
theorem F.zS (row:LV) (h_row:Sm (Ty.sl aa) row):F.sY row=some (M.ov row):=by
 unfold F.sY M.ov
 rw[gJ M.aW () (fun x _=>by simp only[F.ke,oh,cC]<;>rfl),show decide ((row.length:Int)<=4)=decide (row.length<=4) from decide_eq_decide.2 (by omega)]
 cases row.all M.aW<;>simp
theorem F.xk (columns:LC) (row:LV) (h_columns:Sm (Ty.sl ag) columns) (h_row:Sm (Ty.sl aa) row):F.pz columns row=some (M.cA columns row):=by
 unfold F.pz M.cA
 cases M.bE columns
 ·rfl
 cases M.ov row
 ·rfl
 by_cases hl:row.length=columns.length
 ·rw[gJ (M.sI columns row) () (fun i hi=>by
   obtain⟨h0,h1⟩:=eY.1 hi
   have h2:i<(columns.length:Int):=by omega
   simp only[F.iG,aj h2]
   unfold M.sI
   cases decide ((nth (t:=aa) row i).1=(nth (t:=ag) columns i).1)<;>cases decide ((nth (t:=aa) row i).1=(0:Int))<;>cases (nth (t:=ag) columns i).2.1<;>rfl)]
  simp only[hl,Bool.not_true,decide_true,Bool.true_and,cond_true,cond_false]
  cases (aQ 0 (columns.length:Int)).all (M.sI columns row)<;>rfl
 ·have h3:¬(row.length:Int)=(columns.length:Int):=by omega
  simp[hl,h3]
theorem F.zk (columns:LC) (rows:LLV) (h_columns:Sm (Ty.sl ag) columns) (h_rows:Sm (Ty.sl (Ty.sl aa)) rows):F.qq columns rows=some (M.gb columns rows):=by
 unfold F.qq M.gb
 rw[gJ (M.cA columns) () (fun x _=>by simp only[F.jm,oh,cC])]
 cases rows.all (M.cA columns)<;>simp
theorem F.vF (tables:LTb) (h_tables:Sm (Ty.sl ax) tables):F.nO tables=some (M.bN tables):=by
 unfold F.nO M.bN
 rw[gJ M.cY () (fun x _=>by
  simp only[F.hO]
  unfold M.cY
  by_cases h:x.2.1.length<=6
  ·have h2:¬(6:Int)<(x.2.1.length:Int):=by omega
   simp only[h2,h,decide_true,decide_false,Bool.true_and]
   cases M.gb x.1 x.2.1<;>rfl
  ·have h2:(6:Int)<(x.2.1.length:Int):=by omega
   simp[h2,h]),show decide ((tables.length:Int)<=3)=decide (tables.length<=3) from decide_eq_decide.2 (by omega)]
 cases tables.all M.cY<;>simp
theorem F.xY (tables:LTb) (plan:LS) (h_tables:Sm (Ty.sl ax) tables) (h_plan:Sm (Ty.sl ah) plan):F.qN tables plan=some (M.bQ tables plan):=by
 unfold F.qN M.bQ
 rw[bC]
 cases (M.cQ tables plan).2<;>cases M.bN tables<;>rfl
theorem F.zO (plan:LS) (h_plan:Sm (Ty.sl ah) plan):F.sj plan=some plan:=by
 unfold F.sj
 rw[qE (fun r=>r) (fun x hx s hs=>by
  have hl:=h_plan.1
  simp only[F.jQ,List.nil_append]
  rw[aj (by unfold lim;simp;omega)]),M.tX]
 rfl
theorem F.vR (tables:LTb) (guards:LG) (h_tables:Sm (Ty.sl ax) tables) (h_guards:Sm (Ty.sl az) guards):F.nq tables guards=some (M.bH tables guards):=by
 unfold F.nq M.bH
 rw[gJ (M.lB tables guards) () (fun i hi=>by
  obtain⟨i0,i1⟩:=eY.1 hi
  have hl:=h_guards.1
  have hw:wrap64 (i-(1:Int))=i-1:=aK (by omega) (by omega)
  simp only[F.gV,hw,fy _ h_tables.1]
  unfold M.lB
  generalize M.inR (nth (t:=az) guards i).1 0 ((tables.length:Int)-1)=c1
  generalize decide (M.bT (nth (t:=ax) tables (nth (t:=az) guards i).1).1 (nth (t:=az) guards i).2.1=3)=c2
  generalize decide ((nth (t:=az) guards i).1<=(nth (t:=az) guards (i-1)).1)=c3
  by_cases h0:0<i
  ·have g1:0<=i-1:=by omega
   have g2:i-1<(guards.length:Int):=by omega
   rw[decide_eq_true h0]
   repeat rw[aj g1]
   repeat rw[aj g2]
   cases c1<;>cases c2<;>cases c3<;>rfl
  ·rw[decide_eq_false h0]
   cases c1<;>cases c2<;>cases c3<;>rfl)]
 cases M.bN tables<;>cases (aQ 0 (guards.length:Int)).all (M.lB tables guards)<;>rfl
theorem F.uJ (guards:LG) (table:Int) (h_guards:Sm (Ty.sl az) guards):F.rV guards table=some (M.idx (t:=az) (fun g=>decide (g.1=table)) guards):=by
 exact hY (t:=az) (p:=fun g:az.D=>decide (g.1=table)) (fun i h0 h1=>by
  unfold F.ic
  rw[cC])
theorem F.rI (tables:LTb) (guards:LG) (plan:LS) (h_tables:Sm (Ty.sl ax) tables) (h_guards:Sm (Ty.sl az) guards) (h_plan:Sm (Ty.sl ah) plan):F.jE tables guards plan=some (M.cj tables guards plan):=by
 unfold F.jE M.cj
 cases hg:M.bH tables guards
 ·rfl
 cases hp:M.bQ tables plan
 ·rfl
 have p0:=M.ko hp
 have hl:=h_plan.1
 have e1:(plan.length:Int).toNat=plan.length:=by simp
 simp only[Bool.not_true,cond_true,cond_false,bC,Bool.and_self,show ((false:Bool)==false)=true from rfl]
 rw[aj (by unfold kD;omega),e1]
 have hfold:=M.qt (f:=F.dU tables guards plan plan) (M.bO guards plan) (fun k v=>v.2.length=plan.length/\(v.1.length:Int)<=2 * k/\∀s∈v.1,Sm ah s) plan.length (s:=([],List.replicate plan.length (0:Int))) ⟨by simp,by simp,fun s h=>by cases h⟩ (fun k v k0 k1 hI=>by
   have hnext:(M.bO guards plan v k).2.length=plan.length/\((M.bO guards plan v k).1.length:Int)<=2 * (k+1)/\∀s∈(M.bO guards plan v k).1,Sm ah s:=by
    have:=M.BG (guards:=guards) (plan:=plan) (v:=v) (k:=k)
    refine⟨this.2.trans hI.1,?_,M.Bc h_guards h_plan hI.2.2⟩
    have h1:=this.1
    have h2:=hI.2.1
    omega
   refine⟨?_,hnext⟩
   clear hnext
   have hl:=h_plan.1
   obtain⟨hI1,hI2,hI3⟩:=hI
   have hin:=p0.2 k k0 k1
   have hs1:k<(v.2.length:Int):=by rw[hI1];exact k1
   have hv6:v.1.length<=4000000:=by omega
   have hlim:∀s:ah.D,(v.1.length+[s].length) * 80<=lim:=fun s=>by unfold lim;simp;omega
   have hlim2:∀s s':ah.D,((v.1++[s]).length+[s'].length) * 80<=lim:=fun s s'=>by unfold lim;simp;omega
   have hw1:∀s:ah.D,wrap64 (((v.1++[s]).length:Int)-1)=((v.1++[s]).length:Int)-1:=fun s=>aK (by simp<;>omega) (by simp<;>omega)
   have hw2:∀s s':ah.D,wrap64 (((v.1++[s]++[s']).length:Int)-1)=((v.1++[s]++[s']).length:Int)-1:=fun s s'=>aK (by simp<;>omega) (by simp<;>omega)
   have hidx:∀(n:Int),(∃g∈guards,M.guardOf guards n=(g.2.1,true)/\0<=M.idx (t:=az) (fun g=>decide (g.1=n)) guards/\M.idx (t:=az) (fun g=>decide (g.1=n)) guards<(guards.length:Int)/\nth (t:=az) guards (M.idx (t:=az) (fun g=>decide (g.1=n)) guards)=g)\/(M.guardOf guards n=([],false)/\M.idx (t:=az) (fun g=>decide (g.1=n)) guards=-1):=fun n=>M.EO guards n
   unfold F.dU M.bO M.kF M.dM M.ren
   by_cases h1:(nth (t:=ah) plan k).1=(1:Int)
   ·have ht:M.two (nth (t:=ah) plan k).1=false:=by rw[h1];rfl
    rw[ht]
    simp only[h1,decide_true,Bool.not_true,Bool.true_and,cond_true,cond_false]
    rw[aj (hlim _)]
    have eP:((1:Int),(nth (t:=ah) plan k).2.1,(nth (t:=ah) plan k).2.2.1,(nth (t:=ah) plan k).2.2.2)=nth (t:=ah) plan k:=by rw[<-h1]
    rw[eP]
    rcases hidx (nth (t:=ah) plan k).2.2.2.1 with⟨g,_,q1,q2,q3,q4⟩ | ⟨q1,q2⟩
    ·rw[q1,decide_eq_true q2,q4]
     simp only[cond_true,List.nil_append]
     rw[aj q2,aj q3,aj (hlim2 _ _),aj hs1,bC,hw1,hw2]
    ·rw[q1,q2]
     simp only[cond_false,show decide ((0:Int)<=-1)=false from rfl]
     rw[aj hs1,bC,hw1]
   ·obtain⟨⟨a0,a1⟩,⟨b0,b1⟩⟩:=hin h1
    have a2:(nth (t:=ah) plan k).2.1<(v.2.length:Int):=by rw[hI1];exact Int.lt_trans a1 k1
    have b2:(nth (t:=ah) plan k).2.2.1<(v.2.length:Int):=by rw[hI1];exact Int.lt_trans b1 k1
    unfold M.two
    rw[decide_eq_false h1]
    simp only[Bool.not_false,Bool.false_and,cond_true,cond_false]
    rw[aj a0,aj a2]
    cases decide ((nth (t:=ah) plan k).1=(4:Int))<;>cases decide ((nth (t:=ah) plan k).1=(5:Int))<;>simp only[cond_true,cond_false,Bool.or_self,Bool.or_true,Bool.or_false,Bool.false_or,Bool.true_or,show ((false:Bool)==false)=true from rfl,show ((true:Bool)==false)=false from rfl]<;>(repeat rw[aj b0])<;>(repeat rw[aj b2])<;>rw[aj (hlim _),aj hs1,bC,hw1])
 rw[hfold.1,bq]
 have hsm:Sm (.sl ah) (M.grown guards plan).1\/True:=.inr trivial
 show af (Sm (.sl ah) (M.grown guards plan).1) _=_
 rw[aj ⟨by have:=hfold.2.2.1;show (M.grown guards plan).1.length<=1048576;have h6:=M.Cg hp;have e:(M.grown guards plan).1=((aQ 0 (plan.length:Int)).foldl (M.bO guards plan) ([],List.replicate plan.length (0:Int))).1:=rfl;rw[e];omega,hfold.2.2.2⟩]
 show cond (!M.bQ tables (M.grown guards plan).1) _ (some ((M.grown guards plan).1,true))=_
 rw[M.CP hg hp,Bool.not_not,cC]
theorem F.sw (tables:LTb) (h_tables:Sm (Ty.sl ax) tables):F.ld tables=some tables:=by
 unfold F.ld
 rw[qE (fun r=>r) (fun x hx s hs=>by
  have hl:=h_tables.1
  simp only[F.fL,bC,M.jl]
  rw[aj (by unfold lim;simp;omega)]),M.tX,bq,M.fP]
theorem F.qD (r:LV) (g:az.D) (h_r:Sm (Ty.sl aa) r) (h_g:Sm az g) (p0:M.cJ r.length g.2.1):F.mQ r g=some (M.holds r g.2.1):=by
 rfl
theorem F.Ba (rows:LLV) (g:az.D) (h_rows:Sm (Ty.sl (Ty.sl aa)) rows) (h_g:Sm az g) (p0:∀r∈rows,M.cJ r.length g.2.1):F.vt rows g=some (List.filter (fun r=>M.holds r g.2.1) rows):=by
 unfold F.vt
 rw[M.BW (fun r=>M.holds r g.2.1) (fun x hx s hs=>by
  have hl:=h_rows.1
  simp only[F.lD]
  rw[aj (p0 x hx),aj (by unfold lim;simp;omega)]
  cases M.holds x g.2.1<;>rfl),bq,aj (M.Ad _ h_rows)]
 simp only[bC,M.fP]
theorem F.sA (tables:LTb) (guards:LG) (h_tables:Sm (Ty.sl ax) tables) (h_guards:Sm (Ty.sl az) guards):F.kR tables guards=some (M.bf tables guards):=by
 unfold F.kR M.bf
 cases hg:M.bH tables guards
 ·rfl
 simp only[Bool.not_true,cond_false,cond_true,bC]
 have hfold:=M.vG (f:=F.ep tables guards (tables.length:Int)) M.eg (M.dx tables) (xs:=guards) (M.dx.refl tables) (fun g hm s hI=>by
  obtain⟨⟨b0,b1⟩,hk,hok⟩:=M.mY hg hm
  obtain⟨q1,q2,q3⟩:=hI.2 _ b0 b1
  have hsT:=aN (hI.sm h_tables) g.1
  refine⟨?_,hI.step b0 b1⟩
  unfold F.ep
  rw[aj b0,aj b1,aj hsT.2.1,aj (fun r hr=>by
   have hlen:=M.Bm hok b0 b1 (q3 _ hr)
   have hs:=uR (columns:=(nth (t:=ax) tables g.1).1) (e:=g.2.1) (by rw[hk];decide)
   rw[<-hlen] at hs
   exact hs)]
  simp only[bC,M.jl]
  rfl)
 rw[hfold.1,bq,List.take_of_length_le (by rw[hfold.2.1];simp)]
theorem F.qd (code:(List Int)) (h_code:Ln (Ty.sl (Ty.int .u8)) code) (p0:M.ay code):F.iQ code=some true:=by
 unfold F.iQ
 by_cases hc:(1048576:Int)<(code.length:Int)
 ·rw[decide_eq_true hc]
  rfl
 rw[decide_eq_false hc,cond_false]
 have hs:Sm (.sl (.int .u8)) code:=⟨by omega,fun _ _=>trivial⟩
 rw[aj hs,bC]
 obtain⟨d0,d1,d2,d3,d4,d5,d6,d7⟩:=M.kj code hs p0
 generalize M.bR code=r at *
 obtain⟨ts,gs,plan⟩:=r
 simp only at d0 d1 d2 d3 d4 d5 d6 d7 ⊢
 have st:Sm (.sl ax) ts:=M.Ej d0 d2 (by decide)
 have sg:Sm (.sl az) gs:=M.AF d3 d4 (by decide)
 have sp:Sm (.sl ah) plan:=M.qu d5 d7 (by decide)
 have hbb:∀a:Bool,Ty.beq Ty.bool a a=true:=fun a=>by cases a<;>rfl
 simp only[bC,M.jl]
 rw[aj st,aj sg,aj sp]
 have sq:Sm (.sl ah) (M.cj ts gs plan).1:=M.Du sg sp
 simp only[hbb,Bool.not_true,show ((false:Bool)==false)=true from rfl,cond_true,cond_false]
 rw[aj sq,aj sq,M.kL]
 cases h:(M.cj ts gs plan).2 with
 | false=>rfl
 | true=>
  obtain⟨g1,g2⟩:=M.Bv h
  have ss:Sm (.sl ax) (M.bf ts gs):=M.He st
  have sr:Sm (.sl (.sl aa)) (M.dj (M.bf ts gs) plan):=BK ss sp
  rw[g1,g2]
  simp only[Bool.not_true,show ((true:Bool)==true)=true from rfl,cond_true,cond_false]
  rw[aj ss,aj sr,aj sr,M.kL]
end Go.AE
