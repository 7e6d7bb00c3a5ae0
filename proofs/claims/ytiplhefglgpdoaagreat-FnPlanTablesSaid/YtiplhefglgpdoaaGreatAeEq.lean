/- What the functions compute is what is said. -/
import Derived.Test.YtiplhefglgpdoaaGreatAeF
import Derived.Test.YtiplhefglgpdoaaGreatAeY
import Derived.Test.YtiplhefglgpdoaaGreatAeEqI
import Derived.Test.YtiplhefglgpdoaaGreatAeEqR
import Derived.Test.YtiplhefglgpdoaaGreatAeMV
import Derived.Test.YtiplhefglgpdoaaGreatAeMV
import Derived.Test.YtiplhefglgpdoaaGreatAeMV
import Derived.Test.YtiplhefglgpdoaaGreatAeEqI
namespace Go.AE
open Go Go.RowKit
set_option linter.unusedVariables false
set_option linter.unusedSimpArgs false
set_option maxHeartbeats 2000000
theorem F.xg (n:Int) (low:Int) (high:Int)  : F.oS n low high=some (M.inR n low high):=by
 unfold F.oS M.inR
 cases decide (low<=n)<;>rfl
theorem F.xm (s:ByteArray) (h_s:Sm Ty.str s):F.oR s=some (M.lower (bM s)):=by
 unfold F.oR M.lower
 rw[iX (fun n=>M.inR n 97 122) () (fun x hx=>by
  obtain⟨h0,h1⟩:=GM hx
  simp only[F.iE,oc,de,aI (n:=x) (by omega) (by omega)])]
 cases (bM s).all fun n=>M.inR n 97 122<;>rfl
theorem F.vK (v:aa.D) (h_v:Sm aa v):F.mX v=some (M.aP v):=by
 unfold F.mX M.aP M.text
 simp only[jL]
 rw[show decide ((v.2.2.1.size:Int)<=6)=decide (v.2.2.1.size<=6) from decide_eq_decide.2 (by omega)]
 simp only[Ty.beq]
 cases h0:decide (v.1=(0:Int))
 ·generalize decide (v.1=(1:Int))=b1
  generalize decide (v.1=(2:Int))=b2
  generalize decide (v.1=(3:Int))=b3
  generalize decide (v.2.1=(0:Int))=c0
  generalize decide (v.2.2.1.size<=6)=c6
  generalize M.inR v.2.1 (-9999) 9999=c1
  generalize M.inR v.2.1 0 1=c3
  generalize decide (v.2.2.1=M.none_)=e0
  cases b1<;>cases b2<;>cases b3<;>cases c0<;>cases c6<;>cases c1<;>cases c3<;>cases e0<;>rfl
 ·simp only[cond_true,Bool.true_and,Bool.and_true]
theorem F.wR (v:aa.D) (h_v:Sm aa v):F.uc v=some (M.aP v):=by
 rfl
theorem F.zx   : F.sk  = some true:=by
 unfold F.sk
 rw[show M.aP ((1:Int),((3:Int),((⟨#[]⟩:ByteArray),())))=true from rfl,show M.aP ((9:Int),((0:Int),((⟨#[]⟩:ByteArray),())))=false from rfl]
 rfl
theorem F.rK (c:ag.D)  : F.nR c=some (!M.dW c):=by
 rfl
theorem F.kE (xs:LC) (h_xs:Sm (Ty.sl ag) xs):F.gH xs=some (M.idx (t:=ag) (fun e=>!M.dW e) xs):=by
 exact jk (t:=ag) (p:=(fun e=>!M.dW e)) (fun i h0 h1=>by simp only[F.cG,de])
theorem F.js (xs:LC) (h_xs:Sm (Ty.sl ag) xs):F.dF xs=some (List.any xs (fun e=>!M.dW e)):=by
 unfold F.dF
 exact fP (t:=ag)
theorem F.tn (columns:LC) (h_columns:Sm (Ty.sl ag) columns):F.mo columns=some (M.bA columns):=by
 unfold F.mo M.bA
 rw[jL,show decide ((columns.length:Int)<=4)=decide (columns.length<=4) from decide_eq_decide.2 (by omega)]
 rw[List.all_eq_not_any_not]
theorem F.wX (v:aa.D) (h_v:Sm aa v):F.uH v=some (!M.aP v):=by
 rfl
theorem F.mH (xs:LV) (h_xs:Sm (Ty.sl aa) xs):F.ji xs=some (M.idx (t:=aa) (fun e=>!M.aP e) xs):=by
 exact jk (t:=aa) (p:=(fun e=>!M.aP e)) (fun i h0 h1=>by simp only[F.di,de])
theorem F.kR (xs:LV) (h_xs:Sm (Ty.sl aa) xs):F.eK xs=some (List.any xs (fun e=>!M.aP e)):=by
 unfold F.eK
 exact fP (t:=aa)
theorem F.Ad (row:LV) (h_row:Sm (Ty.sl aa) row):F.sV row=some (M.nY row):=by
 unfold F.sV M.nY
 rw[jL,show decide ((row.length:Int)<=4)=decide (row.length<=4) from decide_eq_decide.2 (by omega)]
 rw[List.all_eq_not_any_not]
theorem F.wY (columns:LC) (row:LV) (h_columns:Sm (Ty.sl ag) columns) (h_row:Sm (Ty.sl aa) row):F.pH columns row=some (M.cq columns row):=by
 unfold F.pH M.cq
 cases M.bA columns
 ·rfl
 cases M.nY row
 ·rfl
 by_cases hl:row.length=columns.length
 ·rw[iX (M.sM columns row) () (fun i hi=>by
   obtain⟨h0,h1⟩:=dV.1 hi
   have h2:i<(columns.length:Int):=by omega
   simp only[F.iD,ah h2]
   unfold M.sM
   cases decide ((nth (t:=aa) row i).1=(nth (t:=ag) columns i).1)<;>cases decide ((nth (t:=aa) row i).1=(0:Int))<;>cases (nth (t:=ag) columns i).2.1<;>rfl)]
  simp only[hl,Bool.not_true,decide_true,Bool.true_and,cond_true,cond_false]
  cases (aM 0 (columns.length:Int)).all (M.sM columns row)<;>rfl
 ·have h3:¬(row.length:Int)=(columns.length:Int):=by omega
  simp[hl,h3]
theorem F.vf (r:LV) (columns:LC) (h_r:Sm (Ty.sl aa) r) (h_columns:Sm (Ty.sl ag) columns):F.rS r columns=some (!M.cq columns r):=by
 rfl
theorem F.mj (xs:LLV) (k0:LC) (h_xs:Sm (Ty.sl (Ty.sl aa)) xs) (h_k0:Sm (Ty.sl ag) k0):F.iO xs k0=some (M.idx (t:=(Ty.sl aa)) (fun e=>!M.cq k0 e) xs):=by
 exact jk (t:=(Ty.sl aa)) (p:=(fun e=>!M.cq k0 e)) (fun i h0 h1=>by simp only[F.dc,de])
theorem F.kA (xs:LLV) (k0:LC) (h_xs:Sm (Ty.sl (Ty.sl aa)) xs) (h_k0:Sm (Ty.sl ag) k0):F.ep xs k0=some (List.any xs (fun e=>!M.cq k0 e)):=by
 unfold F.ep
 exact fP (t:=(Ty.sl aa))
theorem F.yz (columns:LC) (rows:LLV) (h_columns:Sm (Ty.sl ag) columns) (h_rows:Sm (Ty.sl (Ty.sl aa)) rows):F.qS columns rows=some (M.fX columns rows):=by
 unfold F.qS M.fX
 rw[jL,List.all_eq_not_any_not]
theorem F.sq (t:aq.D) (h_t:Sm aq t):F.kX t=some (!M.cW t):=by
 unfold F.kX M.cW
 cases hc:M.bA t.1
 ·have:M.fX t.1 t.2.1=false:=by unfold M.fX;rw[hc];rfl
  rw[this]
  simp
 by_cases h:t.2.1.length<=6
 ·have h2:¬(6:Int)<(t.2.1.length:Int):=by omega
  simp[h2,h]
 ·have h2:(6:Int)<(t.2.1.length:Int):=by omega
  simp[h2,h]
theorem F.kU (xs:LTb) (h_xs:Sm (Ty.sl aq) xs):F.hH xs=some (M.idx (t:=aq) (fun e=>!M.cW e) xs):=by
 exact jk (t:=aq) (p:=(fun e=>!M.cW e)) (fun i h0 h1=>by simp only[F.cL,de])
theorem F.jv (xs:LTb) (h_xs:Sm (Ty.sl aq) xs):F.dR xs=some (List.any xs (fun e=>!M.cW e)):=by
 unfold F.dR
 exact fP (t:=aq)
theorem F.uR (tables:LTb) (h_tables:Sm (Ty.sl aq) tables):F.nc tables=some (M.ck tables):=by
 unfold F.nc M.ck
 rw[jL,show decide ((tables.length:Int)<=3)=decide (tables.length<=3) from decide_eq_decide.2 (by omega)]
 rw[List.all_eq_not_any_not]
theorem F.sH (p:aE.D) (h_p:Sm aE p):F.kL p=some (M.takes p):=by
 unfold F.kL M.takes
 generalize decide (p.1=(3:Int))=c3
 generalize decide (p.1=(4:Int))=c4
 generalize decide (p.1=(5:Int))=c5
 generalize decide (p.1=(6:Int))=c6
 generalize decide (p.1=(7:Int))=c7
 generalize decide (p.1=(8:Int))=c8
 cases c3<;>cases c4<;>cases c5<;>cases c6<;>cases c7<;>cases c8<;>rfl
theorem F.sL (p:aE.D) (columns:LC) (h_p:Sm aE p) (h_columns:Sm (Ty.sl ag) columns):F.kF p columns=some (M.kZ p columns):=by
 unfold F.kF M.kZ M.noV
 rw[fD _ h_columns.1]
 simp only[jL,show Ty.beq aa p.2.2.1 ((0:Int),(0:Int),(⟨#[]⟩:ByteArray),())=Ty.beq aa p.2.2.1 M.zeroV from rfl]
 generalize Ty.beq aa p.2.2.1 M.zeroV=nv
 by_cases e1:p.1=(1:Int)
 ·simp only[e1,decide_true,cond_true]
 by_cases e2:p.1=(2:Int)
 ·simp only[e2,decide_true,cond_true,Int.reduceEq,decide_false,cond_false]
 by_cases e4:p.1=(4:Int)
 ·simp only[e4,decide_true,cond_true,Int.reduceEq,decide_false,cond_false]
 by_cases e3:p.1=(3:Int)
 ·simp only[e3,decide_true,cond_true,Int.reduceEq,decide_false,cond_false]
  rfl
 by_cases e5:p.1=(5:Int)
 ·simp only[e5,decide_true,cond_true,Int.reduceEq,decide_false,cond_false]
  rfl
 by_cases e6:p.1=(6:Int)
 ·simp only[e6,decide_true,cond_true,Int.reduceEq,decide_false,cond_false]
  rfl
 by_cases e7:p.1=(7:Int)
 ·simp only[e7,decide_true,cond_true,Int.reduceEq,decide_false,cond_false]
  rfl
 by_cases e8:p.1=(8:Int)
 ·simp only[e8,decide_true,cond_true,Int.reduceEq,decide_false,cond_false]
  rfl
 simp only[e1,e2,e3,e4,e5,e6,e7,e8,decide_false,cond_false,ES e3 e4 e5 e6 e7 e8]
theorem F.qb (k:Int) (kind:Int)  : F.me k kind=some (!decide (k=kind)):=by
 rfl
theorem F.jw (xs:(List Int)) (k0:Int) (h_xs:Sm (Ty.sl (Ty.int .i64)) xs):F.fT xs k0=some (M.idx (t:=(Ty.int .i64)) (fun e=>!decide (e=k0)) xs):=by
 exact jk (t:=(Ty.int .i64)) (p:=(fun e=>!decide (e=k0))) (fun i h0 h1=>by simp only[F.cn,de])
theorem F.iJ (xs:(List Int)) (k0:Int) (h_xs:Sm (Ty.sl (Ty.int .i64)) xs):F.dh xs k0=some (List.any xs (fun e=>!decide (e=k0))):=by
 unfold F.dh
 exact fP (t:=(Ty.int .i64))
theorem F.rI (kind:Int) (ins:(List Int)) (h_ins:Sm (Ty.sl (Ty.int .i64)) ins):F.jz kind ins=some (List.all ins (fun k=>decide (k=kind))):=by
 unfold F.jz
 rw[List.all_eq_not_any_not]
theorem F.tG (p:aE.D) (columns:LC) (inp:(List Int)) (h_p:Sm aE p) (h_columns:Sm (Ty.sl ag) columns) (h_inp:Sm (Ty.sl (Ty.int .i64)) inp) (p0:M.kZ p columns=true) (p1:(inp.length:Int)=M.takes p):F.mG p columns inp=some (M.cH p columns inp):=by
 unfold F.mG M.cH
 obtain⟨_,hc⟩:=yP p0
 by_cases e1:p.1=(1:Int)
 ·simp only[e1,decide_true,cond_true]
 by_cases e2:p.1=(2:Int)
 ·obtain⟨c0,c1⟩:=hc e2
  simp only[e2,decide_true,cond_true,Int.reduceEq,decide_false,cond_false]
  rw[ah c0,ah c1]
 by_cases e4:p.1=(4:Int)
 ·rw[jK (.inr (.inl e4))] at p1
  simp only[e4,decide_true,cond_true,Int.reduceEq,decide_false,cond_false]
  repeat rw[ah (by omega)]
 cases decide (p.1=(3:Int))<;>cases decide (p.1=(8:Int))<;>simp[e1,e2,e4]
theorem F.vE (columns:LC) (e:LPt) (h_columns:Sm (Ty.sl ag) columns) (h_e:Sm (Ty.sl aE) e):F.nH columns e=some (M.cT columns e):=by
 unfold F.nH M.cT
 cases M.bA columns
 ·rfl
 by_cases hl:e.length<=12
 ·rw[decide_eq_false (show ¬(12:Int)<(e.length:Int) by omega),decide_eq_true hl]
  rw[rU e [] (by simp;omega)]
  cases M.jq columns e [] with
  | none=>rfl
  | some s=>
   match s with
   | []=>rfl
   | [a]=>exact ah (by simp)
   | a::b::l=>
    have:¬((a::b::l).length:Int)=1:=by simp;omega
    simp only[this,decide_false]
    rfl
 ·rw[decide_eq_true (show (12:Int)<(e.length:Int) by omega),decide_eq_false hl]
  rfl
theorem F.uJ (xs:LC) (h_xs:Sm (Ty.sl ag) xs):F.rR xs=some xs:=by
 exact M.vg (t:=ag)
theorem F.rX (s:aj.D) (h_s:Sm aj s):F.kK s=some (M.bT s):=by
 unfold F.kK M.bT M.two
 generalize decide (s.2.1=(0:Int))=a0
 generalize decide (s.2.2.1=(0:Int))=b0
 generalize decide (s.2.2.2.1=(0:Int))=n0
 generalize decide ((s.2.2.2.2.1.length:Int)=(0:Int))=e0
 generalize decide ((s.2.2.2.2.2.1.length:Int)=(0:Int))=l0
 by_cases h1:s.1=(1:Int)
 ·simp only[h1,Int.reduceEq,decide_true,decide_false]
  cases a0<;>cases b0<;>cases n0<;>cases e0<;>cases l0<;>rfl
 by_cases h2:s.1=(2:Int)
 ·simp only[h2,Int.reduceEq,decide_true,decide_false]
  cases a0<;>cases b0<;>cases n0<;>cases e0<;>cases l0<;>rfl
 by_cases h3:s.1=(3:Int)
 ·simp only[h3,Int.reduceEq,decide_true,decide_false]
  cases a0<;>cases b0<;>cases n0<;>cases e0<;>cases l0<;>rfl
 by_cases h4:s.1=(4:Int)
 ·simp only[h4,Int.reduceEq,decide_true,decide_false]
  cases a0<;>cases b0<;>cases n0<;>cases e0<;>cases l0<;>rfl
 by_cases h5:s.1=(5:Int)
 ·simp only[h5,Int.reduceEq,decide_true,decide_false]
  cases a0<;>cases b0<;>cases n0<;>cases e0<;>cases l0<;>rfl
 simp only[h1,h2,h3,h4,h5,decide_false]
 cases a0<;>cases b0<;>cases n0<;>cases e0<;>cases l0<;>rfl
theorem F.wL (n:Int) (p0:0<=n) (p1:n<=1099511627776):F.oF n=some ([]:List ag.D):=by
 unfold F.oF
 have e:wrap64 (n-wrap64 ((0:Int)-(0:Int)))=n:=by
  rw[show wrap64 ((0:Int)-(0:Int))=0 by decide,Int.sub_zero]
  exact aI (by omega) (by omega)
 rw[decide_eq_false (by omega),e]
 by_cases h:0<n
 ·rw[decide_eq_true h]
  simp only[cond_true,cond_false]
  rw[ah p0,ah (by unfold lim;omega)]
  rfl
 ·rw[decide_eq_false h]
  rfl
theorem F.uF (xss:LLC) (h_xss:Sm (Ty.sl (Ty.sl ag)) xss):F.mD xss=some (List.flatten xss):=by
 unfold F.mD
 exact M.sS (t:=ag) h_xss (fun z v h0 h1=>by
  unfold F.gm
  rw[aI (n:=v+(z.length:Int)) (by omega) (by omega),decide_eq_false (by omega)]
  rfl) (fun z v h1=>by
  unfold F.gd
  rw[ah (by unfold lim;omega)])
theorem F.tI (s:aj.D) (tables:LTb) (ahead:(List aF.D)) (h_s:Sm aj s) (h_tables:Sm (Ty.sl aq) tables) (h_ahead:Sm (Ty.sl aF) ahead):F.gP s tables ahead=some (M.make s tables ahead):=by
 obtain⟨r,h1,_⟩:=uz h_s h_tables h_ahead
 unfold M.make
 rw[h1]
 rfl
theorem F.zA (tables:LTb) (plan:LS) (h_tables:Sm (Ty.sl aq) tables) (h_plan:Sm (Ty.sl aj) plan):F.mg tables plan=some (M.makes tables plan):=by
 obtain⟨r,h1,_⟩:=rW h_tables h_plan
 unfold M.makes
 rw[h1]
 rfl
theorem F.xJ (tables:LTb) (plan:LS) (h_tables:Sm (Ty.sl aq) tables) (h_plan:Sm (Ty.sl aj) plan):F.qF tables plan=some (M.bQ tables plan):=by
 unfold F.qF
 rw[bH]
 exact congrArg some (Gs h_tables h_plan)
theorem F.xd (a:LV) (b:LV) (h_a:Sm (Ty.sl aa) a) (h_b:Sm (Ty.sl aa) b) (p0:a=b):F.oH a b=some true:=by
 subst p0
 unfold F.oH
 exact M.eq_eq (fun i h0 h1=>by
  unfold F.iI
  rw[ah h1,(beq_iff (t:=aa) rfl _ _).2 rfl]
  rfl)
theorem F.uI (a:LLV) (b:LLV) (h_a:Sm (Ty.sl (Ty.sl aa)) a) (h_b:Sm (Ty.sl (Ty.sl aa)) b) (p0:a=b):F.nD a b=some true:=by
 subst p0
 unfold F.nD
 exact M.eq_eq (fun i h0 h1=>by
  unfold F.hG
  rw[ah h1]
  simp only[decide_true,Bool.not_true,show ((false:Bool)==false)=true from rfl,cond_true,cond_false,eq_self,M.qJ])
theorem F.wV (truth:Int)  : F.oZ truth=some (M.valueOf truth):=by
 unfold F.oZ M.valueOf
 cases M.inR truth 0 1<;>rfl
theorem F.xb (b:Bool)  : F.oU b=some (M.bool b):=by
 unfold F.oU M.bool
 rw[de]
theorem F.zT (vals:(List Int)) (h_vals:Sm (Ty.sl (Ty.int .i64)) vals):F.su vals=some (M.orI vals):=by
 unfold F.su
 suffices h:∀(A B:List Int),bu (aL (F.ij A) B ()) (fun v0:Unit=>some (0:Int)) (fun q0:Int=>some q0)=some (M.orI B) from h vals vals
 intro A B
 induction B with
 | nil=>rfl
 | cons x l ih=>
  rw[bw]
  simp only[F.ij,M.orI]
  by_cases hx:x=0
  ·simp only[hx,decide_true,Bool.not_true,cond_false,cond_true,aO]
   exact ih
  ·simp[hx]
theorem F.uY (x:Int)  : F.mY x=some false:=by
 unfold F.mY
 simp
theorem F.sG (x:Int) (y:Int)  : F.kT x y=some (M.uM x y):=by
 unfold F.kT M.uM
 simp only[cond_false,de]
theorem F.rN (x:ByteArray) (h_x:Sm Ty.str x):F.jI x=some false:=by
 unfold F.jI
 simp
theorem F.qd (x:ByteArray) (y:ByteArray) (h_x:Sm Ty.str x) (h_y:Sm Ty.str y):F.iK x y=some (M.Cp x y):=by
 unfold F.iK M.Cp
 simp only[cond_false,de]
theorem F.rM (v:aa.D) (w:aa.D) (h_v:Sm aa v) (h_w:Sm aa w):F.jE v w=some (M.order v w):=by
 unfold F.jE
 rw[ah ⟨by simp,fun _ _=>trivial⟩]
 rfl
theorem F.wE (kind:Int) (a:aa.D) (b:aa.D) (h_a:Sm aa a) (h_b:Sm aa b):F.oY kind a b=some (M.compare kind a b):=by
 unfold F.oY M.compare M.Dq
 cases hk:M.inR kind 1 4
 ·rfl
 cases M.aP a
 ·rfl
 cases M.aP b
 ·rfl
 have h4:decide (kind=1)=false->decide (kind=2)=false->decide (kind=3)=false->decide (kind=4)=true:=by
  unfold M.inR at hk
  simp at hk ⊢
  omega
 cases decide (a.1=(0:Int))<;>cases decide (b.1=(0:Int))<;>cases decide (a.1=b.1)<;>cases h1:decide (kind=1)<;>cases h2:decide (kind=2)<;>cases h3:decide (kind=3)<;>(try rw[h4 h1 h2 h3])<;>cases decide (M.order a b=0)<;>cases decide (M.order a b<0)<;>rfl
theorem F.wW (n:Int)  : F.tj n=some (M.inR n 0 2):=by
 rfl
theorem F.BT (a:Int) (b:Int) (alone:Int) (p0:0<=alone/\alone<=1):F.uT a b alone=some (M.fold a b alone):=by
 unfold F.uT M.fold
 rw[aI (n:=1-alone) (by omega) (by omega)]
 cases M.inR a 0 2
 ·rfl
 cases M.inR b 0 2
 ·rfl
 cases decide (a=alone)<;>cases decide (b=alone)<;>cases decide (a=2)<;>cases decide (b=2)<;>rfl
theorem F.zW (a:Int) (b:Int)  : F.sO a b=some (M.AO a b):=by
 unfold F.sO M.AO
 rw[ah (by decide)]
theorem F.wZ (v:aa.D) (h_v:Sm aa v):F.pq v=some (M.eG v):=by
 unfold F.pq M.eG
 cases M.aP v<;>simp only[Bool.not_true,Bool.not_false,cond_true,cond_false,de]
theorem F.Bc (a:Int) (b:Int)  : F.vi a b=some (M.FO a b):=by
 unfold F.vi M.FO
 rw[ah (by decide)]
theorem F.zG (a:Int)  : F.rY a=some (M.Aq a):=by
 unfold F.rY M.Aq
 simp only[de]
theorem F.sQ (p:aE.D) (row:LV) (inp:LV) (h_p:Sm aE p) (h_row:Sm (Ty.sl aa) row) (h_inp:Sm (Ty.sl aa) inp) (p0:(inp.length:Int)=M.takes p) (p1:M.vO p row.length) (p2:1<=p.1/\p.1<=8):F.kJ p row inp=some (M.iP p row inp):=by
 unfold F.kJ M.iP
 have hz:(((0:Int),(0:Int),(⟨#[]⟩:ByteArray),()):aa.D)=M.zeroV:=rfl
 by_cases e1:p.1=(1:Int)
 ·simp only[e1,decide_true,cond_true]
 by_cases e2:p.1=(2:Int)
 ·obtain⟨c0,c1⟩:=p1 e2
  simp only[e2,decide_true,cond_true,Int.reduceEq,decide_false,cond_false]
  rw[ah c0,ah c1]
 by_cases e3:p.1=(3:Int)
 ·rw[jK (.inl e3)] at p0
  simp only[e3,decide_true,cond_true,Int.reduceEq,decide_false,cond_false]
  repeat rw[ah (by omega)]
  generalize nth (t:=aa) inp 0=a
  generalize nth (t:=aa) inp 1=b
  unfold M.sum
  have hv:M.aP ((1:Int),wrap64 (a.2.1+b.2.1),(⟨#[]⟩:ByteArray),())=M.inR (wrap64 (a.2.1+b.2.1)) (-9999) 9999:=by unfold M.aP;simp
  rw[hv]
  cases decide (a.1=(0:Int))<;>cases decide (b.1=(0:Int))<;>cases M.inR (wrap64 (a.2.1+b.2.1)) (-9999) 9999<;>rfl
 by_cases e4:p.1=(4:Int)
 ·rw[jK (.inr (.inl e4))] at p0
  simp only[e4,decide_true,cond_true,Int.reduceEq,decide_false,cond_false,bH]
  repeat rw[ah (by omega)]
 by_cases e5:p.1=(5:Int)
 ·rw[jK (.inr (.inr (.inl e5)))] at p0
  simp only[e5,decide_true,cond_true,Int.reduceEq,decide_false,cond_false,bH]
  repeat rw[ah (by omega)]
 by_cases e6:p.1=(6:Int)
 ·rw[jK (.inr (.inr (.inr e6)))] at p0
  simp only[e6,decide_true,cond_true,Int.reduceEq,decide_false,cond_false,bH]
  repeat rw[ah (by omega)]
 by_cases e7:p.1=(7:Int)
 ·rw[rE (.inl e7)] at p0
  simp only[e7,decide_true,cond_true,Int.reduceEq,decide_false,cond_false,bH]
  repeat rw[ah (by omega)]
 ·simp only[e1,e2,e3,e4,e5,e6,e7,decide_false,cond_false,bH]
  have e8:p.1=(8:Int):=by
   rcases HK p2 with h | h | h | h | h | h | h | h<;>first | exact h | exact absurd h (by assumption)
  rw[rE (.inr e8)] at p0
  rw[ah (by omega)]
theorem F.uo (row:LV) (e:LPt) (h_row:Sm (Ty.sl aa) row) (h_e:Sm (Ty.sl aE) e) (p0:M.fS row.length e):F.mu row e=some (M.lN row e):=by
 unfold F.mu M.lN
 obtain⟨h1,h2⟩:=Dh (f:=F.dM row e) h_row (fun p st hp hs hl h1 hk hc=>zB p st hp hs hl h1 hk hc) e [] h_e.2 (lY aa) (by simp;have:=p0.1;omega) p0.2
 rw[h1,aO,ah (by omega)]
theorem F.tg (row:LV) (e:LPt) (h_row:Sm (Ty.sl aa) row) (h_e:Sm (Ty.sl aE) e) (p0:M.fS row.length e):F.qi row e=some (M.holds row e):=by
 rfl
theorem F.wN (xs:LV) (h_xs:Sm (Ty.sl aa) xs):F.tZ xs=some xs:=by
 exact M.vg (t:=aa)
theorem F.zz (row:LV) (list:(List Int)) (h_row:Sm (Ty.sl aa) row) (h_list:Sm (Ty.sl (Ty.int .i64)) list) (p0:M.Av row list):F.sn row list=some (M.taken row list):=by
 unfold F.sn
 rw[Ce (fun i=>nth (t:=aa) row i) (fun x hx s hs=>by
  have hl:=h_list.1
  obtain⟨h0,h1⟩:=p0 x hx
  simp only[F.ke]
  rw[ah h0,ah h1,ah (by unfold lim;simp;omega)])]
 show af (Sm (.sl aa) (M.taken row list)) (aJ (M.taken row list) fun r:List aa.D=>some (aD r (some ((0:Int),(r.length:Int)))))=_
 rw[ah (M.GN h_row h_list)]
 simp only[bH,M.oA]
theorem F.yV (n:Int) (p0:0<=n) (p1:n<=1099511627776):F.qg n=some ([]:List aa.D):=by
 unfold F.qg
 have e:wrap64 (n-wrap64 ((0:Int)-(0:Int)))=n:=by
  rw[show wrap64 ((0:Int)-(0:Int))=0 by decide,Int.sub_zero]
  exact aI (by omega) (by omega)
 rw[decide_eq_false (by omega),e]
 by_cases h:0<n
 ·rw[decide_eq_true h]
  simp only[cond_true,cond_false]
  rw[ah p0,ah (by unfold lim;omega)]
  rfl
 ·rw[decide_eq_false h]
  rfl
theorem F.vG (xss:LLV) (h_xss:Sm (Ty.sl (Ty.sl aa)) xss):F.nE xss=some (List.flatten xss):=by
 unfold F.nE
 exact M.sS (t:=aa) h_xss (fun z v h0 h1=>by
  unfold F.gS
  rw[aI (n:=v+(z.length:Int)) (by omega) (by omega),decide_eq_false (by omega)]
  rfl) (fun z v h1=>by
  unfold F.gX
  rw[ah (by unfold lim;omega)])
theorem F.zo (a:LV) (b:LV) (h_a:Sm (Ty.sl aa) a) (h_b:Sm (Ty.sl aa) b) (p0:a.length+b.length<=1048576):F.qj a b=some (a++b):=by
 unfold F.qj
 have h1:=h_a.1
 have h2:=h_b.1
 have hs:Sm (.sl aa) (a++b):=⟨by rw[List.length_append];omega,fun x hx=>by
  rcases List.mem_append.1 hx with h | h
  ·exact h_a.2 x h
  ·exact h_b.2 x h⟩
 rw[ah (show Sm (.sl (.sl aa)) [a,b] from⟨by simp,fun x hx=>by
  rcases List.mem_cons.1 hx with rfl | hx
  ·exact h_a
  ·cases List.mem_singleton.1 hx
   exact h_b⟩),bH,List.flatten_cons,List.flatten_cons,List.flatten_nil,List.append_nil,ah hs,bH,M.iY]
theorem F.xq (n:Int) (p0:0<=n) (p1:n<=1099511627776):F.pI n=some ([]:List (Ty.sl aa).D):=by
 unfold F.pI
 have e:wrap64 (n-wrap64 ((0:Int)-(0:Int)))=n:=by
  rw[show wrap64 ((0:Int)-(0:Int))=0 by decide,Int.sub_zero]
  exact aI (by omega) (by omega)
 rw[decide_eq_false (by omega),e]
 by_cases h:0<n
 ·rw[decide_eq_true h]
  simp only[cond_true,cond_false]
  rw[ah p0,ah (by unfold lim;omega)]
  rfl
 ·rw[decide_eq_false h]
  rfl
theorem F.tc (xss:(List LLV)) (h_xss:Sm (Ty.sl (Ty.sl (Ty.sl aa))) xss):F.mc xss=some (List.flatten xss):=by
 unfold F.mc
 exact M.sS (t:=(Ty.sl aa)) h_xss (fun z v h0 h1=>by
  unfold F.gz
  rw[aI (n:=v+(z.length:Int)) (by omega) (by omega),decide_eq_false (by omega)]
  rfl) (fun z v h1=>by
  unfold F.gr
  rw[ah (by unfold lim;omega)])
theorem F.vl (rows:LLV) (h_rows:Sm (Ty.sl (Ty.sl aa)) rows):F.mZ rows=some rows:=by
 unfold F.mZ
 rw[Ce (fun r=>r) (fun x hx s hs=>by
  have hl:=h_rows.1
  simp only[F.gT,bH,M.oA]
  rw[ah (by unfold lim;simp;omega)]),M.CV,aO,M.iY]
theorem F.xl (xs:LV) (ys:LV) (h_xs:Sm (Ty.sl aa) xs) (h_ys:Sm (Ty.sl aa) ys):F.tC xs ys=some (decide (xs=ys)):=by
 exact Gh (t:=aa) (fun i h0 h1 h2=>by simp only[F.iG,ah h2,oc,de,HX (t:=aa) rfl])
theorem F.xe (rows:LLV) (row:LV) (h_rows:Sm (Ty.sl (Ty.sl aa)) rows) (h_row:Sm (Ty.sl aa) row):F.pN rows row=some (M.fN rows row:Int):=by
 unfold F.pN M.fN
 have hl:=h_rows.1
 have key:∀(l:List (List aa.D)) (v:Int),0<=v->v+(l.length:Int)<=1048576->aL (F.fR rows row) l v=some (.inl (v+(l.countP (fun r=>decide (r=row)):Int))):=by
  intro l
  induction l with
  | nil=>intro v _ _;show some (Sum.inl v)=some (Sum.inl (v+0));rw[Int.add_zero]
  | cons x l ih=>
   intro v h0 hb
   simp only[List.length_cons] at hb
   rw[bw,List.countP_cons,show F.fR rows row x v=cond (decide (x=row)) (some (.inl (wrap64 (v+(1:Int))))) (some (.inl v)) from rfl]
   cases decide (x=row) with
   | true=>
    rw[cond_true,aI (n:=v+(1:Int)) (by omega) (by omega),aO,ih _ (by omega) (by omega)]
    congr 2
    simp
    omega
   | false=>
    rw[cond_false,aO,ih _ h0 (by omega)]
    congr 2
 rw[key rows 0 (by omega) (by omega),aO,Int.zero_add]
theorem F.wP (rows:LLV) (row:LV) (h_rows:Sm (Ty.sl (Ty.sl aa)) rows) (h_row:Sm (Ty.sl aa) row):F.ta rows row=some (decide (0<(M.fN rows row:Int))):=by
 rfl
theorem F.vB (rows:LLV) (h_rows:Sm (Ty.sl (Ty.sl aa)) rows):F.nj rows=some (M.iA rows):=by
 unfold F.nj M.iA
 have hfold:=zD (f:=F.fe rows) rows h_rows (fun z v hz hv=>by
  unfold F.fe M.eT
  have hl:=h_rows.1
  rw[ah hv.1]
  rw[show (!decide ((0:Int)<(M.fN v z:Int)))=decide ((M.fN v z:Int)=(0:Int)) by
   generalize M.fN v z=n
   by_cases h:n=0
   ·rw[decide_eq_false (by omega),decide_eq_true (by omega)];rfl
   ·rw[decide_eq_true (by omega),decide_eq_false (by omega)];rfl]
  cases decide ((M.fN v z:Int)=(0:Int)) with
  | false=>rfl
  | true=>
   simp only[cond_true]
   rw[ah (by have:=hv.2;unfold lim;simp;omega)])
 rw[hfold.1,aO,ah hfold.2,bH,M.iY]
theorem F.uw (s:aj.D) (tables:LTb) (ahead:(List LLV)) (h_s:Sm aj s) (h_tables:Sm (Ty.sl aq) tables) (h_ahead:Sm (Ty.sl (Ty.sl (Ty.sl aa))) ahead) (p0:M.qY tables ahead s):F.lX s tables ahead=some (M.cr tables ahead s):=by
 obtain⟨r1,rin,rfew,r2,r3,r4⟩:=p0
 unfold F.lX M.cr
 by_cases h1:s.1=(1:Int)
 ·obtain⟨n0,n1⟩:=r1 h1
  have hsm:=(aU h_tables s.2.2.2.1).2.1
  have hl:=hsm.1
  simp only[h1,decide_true,cond_true]
  rw[ah n0,ah n1]
 obtain⟨⟨a0,a1⟩,⟨b0,b1⟩⟩:=rin h1
 obtain⟨fa,fb⟩:=rfew h1
 have ha:=fa.1
 have hb:=fb.1
 have sa:Sm (.sl (.sl aa)) (nth (t:=.sl (.sl aa)) ahead s.2.1):=aU h_ahead _
 have sb:Sm (.sl (.sl aa)) (nth (t:=.sl (.sl aa)) ahead s.2.2.1):=aU h_ahead _
 by_cases h2:s.1=(2:Int)
 ·simp only[h2,decide_true,cond_true,Int.reduceEq,decide_false,cond_false]
  rw[ah a0,ah a1,vw (fun x:List aa.D=>cond (M.holds x s.2.2.2.2.1) [x] []) (nth (t:=.sl (.sl aa)) ahead s.2.1) 1 (fun x _=>by cases M.holds x s.2.2.2.2.1<;>simp) [] (fun x hx v hv=>by
   unfold F.gf
   rw[ah (r2 h2 _ hx)]
   cases M.holds x s.2.2.2.2.1
   ·rw[cond_false,cond_false,List.append_nil]
   ·rw[cond_true,cond_true,ah (by simp at hv;unfold lim;simp;omega)]),wA]
  rfl
 by_cases h3:s.1=(3:Int)
 ·simp only[h3,decide_true,cond_true,Int.reduceEq,decide_false,cond_false]
  rw[ah a0,ah a1,vw (fun x:List aa.D=>[M.taken x s.2.2.2.2.2.1]) (nth (t:=.sl (.sl aa)) ahead s.2.1) 1 (fun x _=>Nat.le_refl _) [] (fun x hx v hv=>by
   unfold F.fZ
   rw[ah (r3 h3 _ hx),bH,ah (by simp at hv;unfold lim;simp;omega)]),Cg]
  rfl
 by_cases h4:s.1=(4:Int)
 ·simp only[h4,decide_true,cond_true,Int.reduceEq,decide_false,cond_false]
  rw[ah a0,ah a1,DF (t:=.sl aa) (fun r=>M.joined s.2.2.2.2.1 r (nth (t:=.sl (.sl aa)) ahead s.2.2.1)) (nth (t:=.sl (.sl aa)) ahead s.2.1) ((nth (t:=.sl (.sl aa)) ahead s.2.2.1):List (List aa.D)).length (fun r _=>M.yN _ _ _) [] (fun i v i0 i1 hv=>by
   have hv9:v.length<=300 * 300:=Nat.le_trans (by simpa using hv) (Nat.mul_le_mul ha hb)
   have hrm:=iq (t:=.sl aa) i0 i1
   unfold F.gu
   rw[ah b0,ah b1,vw (fun q:List aa.D=>cond (M.holds (nth (t:=.sl aa) (nth (t:=.sl (.sl aa)) ahead s.2.1) i++q:List aa.D) s.2.2.2.2.1) [(nth (t:=.sl aa) (nth (t:=.sl (.sl aa)) ahead s.2.1) i++q:List aa.D)] []) (nth (t:=.sl (.sl aa)) ahead s.2.2.1) 1 (fun q _=>by cases M.holds (nth (t:=.sl aa) (nth (t:=.sl (.sl aa)) ahead s.2.1) i++q:List aa.D) s.2.2.2.2.1<;>simp) v (fun q hqm w hw=>by
    have l1:=fa.2 _ hrm
    have l2:=fb.2 _ hqm
    unfold F.gj
    rw[ah (show (nth (t:=.sl aa) (nth (t:=.sl (.sl aa)) ahead s.2.1) i:List aa.D).length+q.length<=1048576 by omega),bH]
    simp only[M.oA]
    rw[ah (show Sm (.sl aa) (nth (t:=.sl aa) (nth (t:=.sl (.sl aa)) ahead s.2.1) i++q) from⟨by rw[List.length_append];omega,fun x hx=>(List.mem_append.1 hx).elim ((sa.2 _ hrm).2 x) ((sb.2 _ hqm).2 x)⟩),ah (r4 h4 _ hrm _ hqm)]
    cases M.holds (nth (t:=.sl aa) (nth (t:=.sl (.sl aa)) ahead s.2.1) i++q:List aa.D) s.2.2.2.2.1
    ·rw[cond_false,cond_false,List.append_nil]
    ·rw[cond_true,cond_true,ah (by simp at hw;unfold lim;simp;omega)]),vN]
   rfl)]
  rfl
 by_cases h5:s.1=(5:Int)
 ·simp only[h5,decide_true,cond_true,Int.reduceEq,decide_false,cond_false]
  rw[ah a0,ah a1,ah b0,ah b1,ah (show Sm (.sl (.sl (.sl aa))) [(nth (t:=.sl (.sl aa)) ahead s.2.1),(nth (t:=.sl (.sl aa)) ahead s.2.2.1)] from⟨by simp,fun x hx=>by
   rcases List.mem_cons.1 hx with rfl | hx
   ·exact sa
   ·cases List.mem_singleton.1 hx
    exact sb⟩)]
  simp only[bH,List.flatten_cons,List.flatten_nil,List.append_nil,M.oA,M.iY]
 by_cases h6:s.1=(6:Int)
 ·simp only[h6,decide_true,cond_true,Int.reduceEq,decide_false,cond_false]
  rw[ah a0,ah a1]
  simp only[bH,M.oA,M.iY]
 simp only[h1,h2,h3,h4,h5,h6,decide_false,cond_false]
theorem F.uV (tables:LTb) (plan:LS) (h_tables:Sm (Ty.sl aq) tables) (h_plan:Sm (Ty.sl aj) plan) (p0:M.bQ tables plan=true):F.nh tables plan=some (M.dm tables plan):=by
 unfold F.nh M.dm
 rw[p0,cond_true]
 have hl:=h_plan.1
 have hpos:=(M.gB p0).1
 obtain⟨h1,h2⟩:=Fc (f:=F.fu tables plan) h_tables h_plan p0 (fun z v h1 h2 h3=>by
  unfold F.fu M.eR
  rw[ah h1,ah h2,bH,ah (by unfold lim;simp;omega)])
 obtain⟨st,_,hR⟩:=Dy h_tables h_plan p0
 have hsm:=BG hR (by show (plan.foldl (M.eR tables) []).length<=1048576;rw[h2];exact hl)
 rw[h1,aO,h2,fD _ hl,ah (by omega),ah (by omega),show plan.foldl (M.eR tables) []=M.fG tables plan from rfl,ah (aU hsm _),bH,M.iY]
theorem F.vt (tables:LTb) (plan:LS) (h_tables:Sm (Ty.sl aq) tables) (h_plan:Sm (Ty.sl aj) plan):F.nN tables plan=some (M.dm tables plan):=by
 unfold F.nN
 cases hp:M.bQ tables plan
 ·unfold M.dm
  rw[hp]
  rfl
 ·simp only[Bool.not_true,cond_false,bH,M.iY]
theorem F.ve (a:(List Int)) (b:(List Int)) (h_a:Sm (Ty.sl (Ty.int .i64)) a) (h_b:Sm (Ty.sl (Ty.int .i64)) b) (p0:a=b):F.ny a b=some true:=by
 subst p0
 unfold F.ny
 exact M.eq_eq (fun i h0 h1=>by
  unfold F.gZ
  rw[ah h1]
  simp only[decide_true,Bool.not_true,show ((false:Bool)==false)=true from rfl,cond_true,cond_false,eq_self,M.qJ])
theorem F.zJ (plan:LS) (h_plan:Sm (Ty.sl aj) plan) (p0:M.ng plan):F.sg plan=some (M.jm plan):=by
 unfold F.sg M.jm
 have hl:=h_plan.1
 have hw:wrap64 ((plan.length:Int)-(1:Int))=(plan.length:Int)-1:=fD _ hl
 have h0:=p0.1
 rw[hw,ah (by omega),ah (by simp;omega),bH]
 have e1:(plan.length:Int).toNat=plan.length:=by simp
 have e2:((plan.length:Int)-1).toNat=plan.length-1:=by omega
 rw[e1,e2,(M.yq (M.bL plan) (fun u:List Bool=>u.length=plan.length) plan.length (fun k u k0 k1 hI=>by
   refine⟨?_,by rw[M.lq];exact hI⟩
   unfold F.jT M.bL
   have hin:=p0.2 k k0 k1
   have hu:k<(u.length:Int):=by rw[hI];exact k1
   simp only
   rw[decide_eq_true k0,cond_true,ah k0,ah k1,ah hu,aI (n:=k-1) (by omega) (by omega)]
   cases nth (t:=.bool) u k
   ·rfl
   by_cases h1:(nth (t:=aj) plan k).1=(1:Int)
   ·rw[decide_eq_true h1]
    rfl
   obtain⟨⟨a0,a1⟩,⟨b0,b1⟩⟩:=hin h1
   have a2:(nth (t:=aj) plan k).2.1<(u.length:Int):=by rw[hI];exact Int.lt_trans a1 k1
   have b2:(nth (t:=aj) plan k).2.2.1<((u.set (nth (t:=aj) plan k).2.1.toNat true).length:Int):=by rw[List.length_set,hI];exact Int.lt_trans b1 k1
   rw[decide_eq_false h1]
   simp only[Bool.not_false,Bool.and_true,cond_true,bH,show ((true:Bool)==true)=true from rfl]
   rw[ah a0,ah a2]
   repeat rw[ah b0]
   repeat rw[ah b2]
   unfold M.two
   cases decide ((nth (t:=aj) plan k).1=(4:Int))<;>cases decide ((nth (t:=aj) plan k).1=(5:Int))<;>rfl) (fun u hI=>rfl) plan.length _ (Nat.le_refl _) (by simp)).1]
 rfl
theorem F.wH (x:Int) (y:Int)  : F.uj x y=some (decide (x<y)):=by
 rfl
theorem F.oh (xs:(List Int)) (a:Int) (b:Int) (h_xs:Sm (Ty.sl (Ty.int .i64)) xs) (p0:a=0) (p1:b=(xs.length:Int)):F.gM xs a b=some (M.gO xs):=by
 subst p0
 subst p1
 have hl:=h_xs.1
 unfold F.gM
 rw[ah (by unfold dP;omega),show wrap64 ((0:Int)+(1:Int))=1 by decide,ah (by decide)]
 match xs,hl with
 | [],_=>rfl
 | x::R,hl=>
  simp only[List.length_cons] at hl
  have:=AM (xs:=x::R) (by simp only[List.length_cons];omega) ((x::R).length:Int) R [x] 1 (by simp) (by simp only[List.length_cons,List.length_nil];omega) (by simp;omega)
  rw[show ([x].reverse++R:List Int)=x::R by simp] at this
  rw[this]
  rfl
theorem F.uB (xs:(List Int)) (a:Int) (b:Int) (limit:Int) (h_xs:Sm (Ty.sl (Ty.int .i64)) xs) (p0:a=0) (p1:b=(xs.length:Int)) (p2:xs.length<=12):F.mm xs a b limit=some (M.gO xs):=by
 subst p0
 subst p1
 unfold F.mm
 rw[cR]
 unfold F.gv
 rw[aI (n:=(xs.length:Int)-0) (by omega) (by omega),decide_eq_true (by omega),cond_true,ah rfl,ah rfl]
 rfl
theorem F.zU (x:Int) (p0:0<=x) (p1:x<=12):F.mb x=some (M.xI x):=by
 have h:∃v,F.mb x=some v:=by
  unfold F.mb
  rw[decide_eq_false (show ¬(4294967296:Int)<=x by omega),cond_false,decide_eq_false (show ¬(65536:Int)<=x by omega),cond_false,decide_eq_false (show ¬(256:Int)<=x by omega),cond_false,ah (by omega),ah (Int.lt_of_lt_of_le (b:=256) (by omega) (by decide +kernel))]
  exact⟨_,rfl⟩
 obtain⟨v,hv⟩:=h
 unfold M.xI
 rw[hv]
 rfl
theorem F.Cr (x:Int) (p0:0<=x) (p1:x<=12):F.Du x=some (M.xI x):=by
 rfl
theorem F.xX (xs:(List Int)) (h_xs:Sm (Ty.sl (Ty.int .i64)) xs) (p0:xs.length<=12):F.qC xs=some (M.gO xs):=by
 unfold F.qC
 have hw:mJ .u64 (xs.length:Int)=(xs.length:Int):=by
  show IntKind.wrap .u64 (xs.length:Int)=_
  simp[IntKind.wrap,IntKind.bits,IntKind.signed]
  omega
 rw[hw,ah (by omega),ah (by omega),ah rfl,ah rfl]
 rfl
theorem F.wT (xs:(List Int)) (h_xs:Sm (Ty.sl (Ty.int .i64)) xs):F.tP xs=some xs:=by
 exact M.vg (t:=(Ty.int .i64))
theorem F.uA (xs:(List Int)) (h_xs:Sm (Ty.sl (Ty.int .i64)) xs):F.ju xs=some (M.cD xs):=by
 exact CI h_xs.1
theorem F.sE (tables:LTb) (plan:LS) (h_tables:Sm (Ty.sl aq) tables) (h_plan:Sm (Ty.sl aj) plan):F.kV tables plan=some (M.br tables plan):=by
 unfold F.kV
 cases hp:M.bQ tables plan
 ·unfold M.br
  rw[hp]
  rfl
 have p0:=M.gB hp
 have hl:=h_plan.1
 have h6:=M.FU hp
 have hnl:=M.FN plan
 have hs:Sm (.sl (.int .i64)) (M.dH plan):=⟨by show (M.dH plan).length<=1048576;omega,fun _ _=>trivial⟩
 simp only[Bool.not_true,cond_false,bH,M.iY]
 rw[ah p0,M.Ae,ah (by unfold dP;omega),M.yL (fun k=>nth (t:=.bool) (M.jm plan) k&&decide ((nth (t:=aj) plan k).1=(1:Int))) (fun k=>(nth (t:=aj) plan k).2.2.2.1) (plan.length:Int) (fun i s i0 i1 hs=>by
  unfold F.fK
  rw[ah (by rw[M.Ae];exact i1),ah i1,ah (by unfold lim;simp;omega)]
  cases nth (t:=.bool) (M.jm plan) i<;>cases decide ((nth (t:=aj) plan i).1=(1:Int))<;>rfl),aO]
 show af (Sm (Ty.sl (Ty.int .i64)) (M.dH plan)) _=_
 rw[ah hs]
 show af ((M.dH plan).length<=12) _=_
 rw[ah (by omega)]
 show af (Sm (Ty.sl (Ty.int .i64)) (M.gO (M.dH plan))) (af (Sm (Ty.sl (Ty.int .i64)) (M.cD (M.gO (M.dH plan)))) (some (M.cD (M.gO (M.dH plan)))))=_
 rw[ah (M.Cw hs),ah (M.Eg (M.Cw hs)),M.Hu hp]
theorem F.tO (b:(List Int)) (p:Int) (n:Int) (h_b:Sm (Ty.sl (Ty.int .u8)) b) (p0:M.ax b) (p1:0<=p) (p2:p<=1000000000000000):ok (F.od b p n) (fun r=>0<=r.1/\(1<=n->r.1<n)/\(n<1->r.1=0)/\r.2=p+1):=by
 unfold F.od
 have hw:wrap64 (p+1)=p+1:=aI (by omega) (by omega)
 have hw2:wrap64 (p+1-1)=p:=by rw[show p+1-1=p by omega];exact aI (by omega) (by omega)
 simp only[hw,hw2]
 refine IX (fun c0=>?_) (fun c0=>?_)
 ·refine okD (fun c1=>?_) (fun c1=>?_)
  ·exact okS ⟨by dsimp only;omega,fun h=>by dsimp only;omega,fun h=>rfl,rfl⟩
  ·have hl:1<=(b.length:Int):=by omega
   refine okD (fun c2=>?_) (fun c2=>?_)
   ·refine okG (okG (okG (okS ?_)))
    have:=M.FQ (M.vn p0 p) (n:=n) (by omega)
    exact⟨this.1,fun _=>this.2,fun h=>by omega,rfl⟩
   ·obtain⟨t0,t1⟩:=M.rj p1 hl
    have h7:wrap64 (wrap64 (p * 7)+3)=p * 7+3:=by rw[aI (n:=p * 7) (by omega) (by omega),aI (by omega) (by omega)]
    obtain⟨t2,t3⟩:=M.rj (a:=p * 7+3) (by omega) hl
    rw[h7]
    refine okG (okG (okG (okG (okG (okG (okS ?_))))))
    have:=M.Hl (M.vn p0 (p.tmod (b.length:Int))) (M.vn p0 ((p * 7+3).tmod (b.length:Int))) p1 p2 (M.Fa p1 hl) (n:=n) (by omega)
    exact⟨this.1,fun _=>this.2,fun h=>by omega,rfl⟩
 ·exact okS ⟨by dsimp only;omega,fun h=>by omega,fun h=>rfl,rfl⟩
theorem F.Bm (b:(List Int)) (p:Int) (n:Int) (h_b:Sm (Ty.sl (Ty.int .u8)) b) (p0:M.ax b) (p1:0<=p) (p2:p<=1000000000000000):F.od b p n=some (M.pick b p n):=gY (F.tO b p n h_b p0 p1 p2)
theorem M.Fk (b:(List Int)) (p:Int) (n:Int) (h_b:Sm (Ty.sl (Ty.int .u8)) b) (p0:M.ax b) (p1:0<=p) (p2:p<=1000000000000000):0<=(M.pick b p n).1/\(1<=n->(M.pick b p n).1<n)/\(n<1->(M.pick b p n).1=0)/\(M.pick b p n).2=p+1:=gU (F.tO b p n h_b p0 p1 p2)
theorem az {α:Type} {K:α->Prop} {f:Int×Int->Option α} {b:(List Int)} {p:Int} {n:Int} (k:∀r,(0<=r.1)->(1<=n->r.1<n)->(n<1->r.1=0)->(r.2=p+1)->ok (f r) K) (h_b:Sm (Ty.sl (Ty.int .u8)) b:=by exact au) (p0:M.ax b:=by exact au) (p1:0<=p:=by exact au) (p2:p<=1000000000000000:=by exact au):ok (aJ (M.pick b p n) f) K:=by
 have h:=M.Fk b p n h_b p0 p1 p2
 obtain⟨h0,h1,h2,h3⟩:=h
 exact k _ h0 h1 h2 h3
theorem F.vZ (b:(List Int)) (p:Int) (n:Int) (h_b:Sm (Ty.sl (Ty.int .u8)) b) (p0:M.ax b) (p1:0<=p) (p2:p<=999000000000000):ok (F.qR b p n) (fun r=>(n<1->r.1=false)/\p<=r.2/\r.2<=p+1):=by
  unfold F.qR
  refine FL (fun c_0=>?_) (fun c_0=>?_)
  ·refine okG ?_
   refine az fun r1 h_1_5_0 h_1_5_1 h_1_5_2 h_1_5_3=>?_
   exact rL
  ·exact rL
theorem F.Dt (b:(List Int)) (p:Int) (n:Int) (h_b:Sm (Ty.sl (Ty.int .u8)) b) (p0:M.ax b) (p1:0<=p) (p2:p<=999000000000000):F.qR b p n=some (M.odd b p n):=gY (F.vZ b p n h_b p0 p1 p2)
theorem M.Hh (b:(List Int)) (p:Int) (n:Int) (h_b:Sm (Ty.sl (Ty.int .u8)) b) (p0:M.ax b) (p1:0<=p) (p2:p<=999000000000000):(n<1->(M.odd b p n).1=false)/\p<=(M.odd b p n).2/\(M.odd b p n).2<=p+1:=gU (F.vZ b p n h_b p0 p1 p2)
theorem iU {α:Type} {K:α->Prop} {f:Bool×Int->Option α} {b:(List Int)} {p:Int} {n:Int} (k:∀r,(n<1->r.1=false)->(p<=r.2)->(r.2<=p+1)->ok (f r) K) (h_b:Sm (Ty.sl (Ty.int .u8)) b:=by exact au) (p0:M.ax b:=by exact au) (p1:0<=p:=by exact au) (p2:p<=999000000000000:=by exact au):ok (aJ (M.odd b p n) f) K:=by
 have h:=M.Hh b p n h_b p0 p1 p2
 obtain⟨h0,h1,h2⟩:=h
 exact k _ h0 h1 h2
theorem F.mh (b:(List Int)) (p:Int) (n:Int) (h_b:Sm (Ty.sl (Ty.int .u8)) b) (p0:M.ax b) (p1:0<=p) (p2:p<=998000000000000):ok (F.fO b p n) (fun r=>1<=r.1.length/\r.1.length<=6/\p<=r.2/\r.2<=p+20):=by
  unfold F.fO
  refine okG ?_
  refine az fun r1 h_2_1_0 h_2_1_1 h_2_1_2 h_2_1_3=>?_
  refine okB (A:=fun e0=>p<=e0.1/\e0.1<=p+10/\1<=e0.2.length/\e0.2.length<=3) ?_ (fun e0 h_e0=>?_)
  ·refine okW (fun(k:Nat) (v0:Int×Int×LC)=>0<=v0.1/\v0.1<=(k:Int)/\(v0.2.2.length:Int)+v0.1<=3/\1<=(v0.2.2.length:Int)+v0.1/\p<=v0.2.1/\v0.2.1+2 * v0.1<=p+10) (fun k v0 hI=>?_) (3:Nat) _ ⟨au,au,au,au,au,au⟩
   obtain⟨i_0,i_1,i_2,i_3,i_4,i_5⟩:=hI
   unfold F.fH
   refine okD (fun c_0=>?_) (fun c_0=>?_)
   ·refine okG ?_
    refine okG ?_
    refine okG ?_
    refine az fun r2 h_5_3_0 h_5_3_1 h_5_3_2 h_5_3_3=>?_
    refine okG ?_
    refine okG ?_
    refine okG ?_
    refine okG ?_
    refine az fun r3 h_5_7_0 h_5_7_1 h_5_7_2 h_5_7_3=>?_
    refine okG ?_
    exact fj ⟨k-1,by omega,au,au,au,au,au,au⟩
   ·exact dj ⟨au,au,au,au⟩
  ·obtain⟨e0_0,e0_1,e0_2,e0_3⟩:=h_e0
   refine okG ?_
   refine okG ?_
   refine iU fun r4 h_6_2_0 h_6_2_1 h_6_2_2=>?_
   refine okC (fun c_1=>?_) (fun c_1=>?_)
   ·refine okG ?_
    refine okG ?_
    refine az fun r5 h_7_2_0 h_7_2_1 h_7_2_2 h_7_2_3=>?_
    refine okG ?_
    exact IV
   ·exact IV
theorem F.sU (b:(List Int)) (p:Int) (n:Int) (h_b:Sm (Ty.sl (Ty.int .u8)) b) (p0:M.ax b) (p1:0<=p) (p2:p<=998000000000000):F.fO b p n=some (M.fI b p n):=gY (F.mh b p n h_b p0 p1 p2)
theorem M.wK (b:(List Int)) (p:Int) (n:Int) (h_b:Sm (Ty.sl (Ty.int .u8)) b) (p0:M.ax b) (p1:0<=p) (p2:p<=998000000000000):1<=(M.fI b p n).1.length/\(M.fI b p n).1.length<=6/\p<=(M.fI b p n).2/\(M.fI b p n).2<=p+20:=gU (F.mh b p n h_b p0 p1 p2)
theorem rJ {α:Type} {K:α->Prop} {f:LC×Int->Option α} {b:(List Int)} {p:Int} {n:Int} (k:∀r,(1<=r.1.length)->(r.1.length<=6)->(p<=r.2)->(r.2<=p+20)->ok (f r) K) (h_b:Sm (Ty.sl (Ty.int .u8)) b:=by exact au) (p0:M.ax b:=by exact au) (p1:0<=p:=by exact au) (p2:p<=998000000000000:=by exact au):ok (aJ (M.fI b p n) f) K:=by
 have h:=M.wK b p n h_b p0 p1 p2
 obtain⟨h0,h1,h2,h3⟩:=h
 exact k _ h0 h1 h2 h3
theorem F.pT (b:(List Int)) (p:Int) (c:ag.D) (h_b:Sm (Ty.sl (Ty.int .u8)) b) (p0:M.ax b) (p1:0<=p) (p2:p<=998000000000000):ok (F.iZ b p c) (fun r=>r.1.2.2.1.size<=20/\p<=r.2/\r.2<=p+3):=by
  unfold F.iZ
  refine okC (fun c_0=>?_) (fun c_0=>?_)
  ·refine okG ?_
   refine az fun r1 h_1_4_0 h_1_4_1 h_1_4_2 h_1_4_3=>?_
   refine okD (fun c_1=>?_) (fun c_1=>?_)
   ·exact rL
   ·refine okD (fun c_2=>?_) (fun c_2=>?_)
    ·refine okG ?_
     refine okG ?_
     refine az fun r2 h_5_1_0 h_5_1_1 h_5_1_2 h_5_1_3=>?_
     exact rL
    ·refine okD (fun c_3=>?_) (fun c_3=>?_)
     ·refine okG ?_
      refine okG ?_
      refine az fun r3 h_7_2_0 h_7_2_1 h_7_2_2 h_7_2_3=>?_
      refine okG ?_
      refine okG ?_
      exact rL
     ·refine okG ?_
      refine okG ?_
      refine az fun r4 h_8_1_0 h_8_1_1 h_8_1_2 h_8_1_3=>?_
      exact rL
  ·refine okD (fun c_4=>?_) (fun c_4=>?_)
   ·refine okG ?_
    refine az fun r2 h_5_1_0 h_5_1_1 h_5_1_2 h_5_1_3=>?_
    exact rL
   ·refine okD (fun c_5=>?_) (fun c_5=>?_)
    ·refine okG ?_
     refine az fun r3 h_7_2_0 h_7_2_1 h_7_2_2 h_7_2_3=>?_
     refine okG ?_
     refine okG ?_
     exact rL
    ·refine okG ?_
     refine az fun r4 h_8_1_0 h_8_1_1 h_8_1_2 h_8_1_3=>?_
     exact rL
theorem F.xu (b:(List Int)) (p:Int) (c:ag.D) (h_b:Sm (Ty.sl (Ty.int .u8)) b) (p0:M.ax b) (p1:0<=p) (p2:p<=998000000000000):F.iZ b p c=some (M.jU b p c):=gY (F.pT b p c h_b p0 p1 p2)
theorem M.Bs (b:(List Int)) (p:Int) (c:ag.D) (h_b:Sm (Ty.sl (Ty.int .u8)) b) (p0:M.ax b) (p1:0<=p) (p2:p<=998000000000000):(M.jU b p c).1.2.2.1.size<=20/\p<=(M.jU b p c).2/\(M.jU b p c).2<=p+3:=gU (F.pT b p c h_b p0 p1 p2)
theorem ot {α:Type} {K:α->Prop} {f:aa.D×Int->Option α} {b:(List Int)} {p:Int} {c:ag.D} (k:∀r,(r.1.2.2.1.size<=20)->(p<=r.2)->(r.2<=p+3)->ok (f r) K) (h_b:Sm (Ty.sl (Ty.int .u8)) b:=by exact au) (p0:M.ax b:=by exact au) (p1:0<=p:=by exact au) (p2:p<=998000000000000:=by exact au):ok (aJ (M.jU b p c) f) K:=by
 have h:=M.Bs b p c h_b p0 p1 p2
 obtain⟨h0,h1,h2⟩:=h
 exact k _ h0 h1 h2
theorem F.oe (b:(List Int)) (p:Int) (n:Int) (h_b:Sm (Ty.sl (Ty.int .u8)) b) (p0:M.ax b) (p1:0<=p) (p2:p<=998000000000000):ok (F.iu b p n) (fun r=>r.1.2.2.1.size<=20/\p<=r.2/\r.2<=p+20):=by
  unfold F.iu
  refine okG ?_
  refine az fun r1 h_2_1_0 h_2_1_1 h_2_1_2 h_2_1_3=>?_
  refine okB (A:=fun e0=>p<=e0.1/\e0.1<=p+12/\e0.2.2.2.size<=3) ?_ (fun e0 h_e0=>?_)
  ·refine okW (fun(_:Nat) (_:Unit)=>True) (fun _ v0 _=>?_) 0 _ trivial
   unfold F.gW
   refine okD (fun c_1=>?_) (fun c_1=>?_)
   ·exact dj ⟨au,au,au⟩
   ·refine okD (fun c_2=>?_) (fun c_2=>?_)
    ·refine okG ?_
     refine okG ?_
     refine okG ?_
     refine az fun r2 h_8_1_0 h_8_1_1 h_8_1_2 h_8_1_3=>?_
     refine okG ?_
     refine okG ?_
     refine az fun r3 h_9_1_0 h_9_1_1 h_9_1_2 h_9_1_3=>?_
     refine okD (fun c_3=>?_) (fun c_3=>?_)
     ·refine okG ?_
      refine okG ?_
      refine az fun r4 h_10_2_0 h_10_2_1 h_10_2_2 h_10_2_3=>?_
      refine okG ?_
      refine okG ?_
      exact dj ⟨au,au,au⟩
     ·exact dj ⟨au,au,au⟩
    ·refine okD (fun c_4=>?_) (fun c_4=>?_)
     ·refine okG ?_
      refine okG ?_
      refine okG ?_
      refine az fun r2 h_8_1_0 h_8_1_1 h_8_1_2 h_8_1_3=>?_
      refine okG ?_
      refine okG ?_
      refine az fun r3 h_9_1_0 h_9_1_1 h_9_1_2 h_9_1_3=>?_
      refine okD (fun c_5=>?_) (fun c_5=>?_)
      ·refine okG ?_
       refine okG ?_
       refine az fun r4 h_10_2_0 h_10_2_1 h_10_2_2 h_10_2_3=>?_
       refine okG ?_
       refine okG ?_
       exact dj ⟨au,au,au⟩
      ·exact dj ⟨au,au,au⟩
     ·refine okD (fun c_6=>?_) (fun c_6=>?_)
      ·refine okG ?_
       refine okG ?_
       refine okG ?_
       refine az fun r2 h_8_1_0 h_8_1_1 h_8_1_2 h_8_1_3=>?_
       refine okG ?_
       refine okG ?_
       refine az fun r3 h_9_1_0 h_9_1_1 h_9_1_2 h_9_1_3=>?_
       refine okD (fun c_7=>?_) (fun c_7=>?_)
       ·refine okG ?_
        refine okG ?_
        refine az fun r4 h_10_2_0 h_10_2_1 h_10_2_2 h_10_2_3=>?_
        refine okG ?_
        refine okG ?_
        exact dj ⟨au,au,au⟩
       ·exact dj ⟨au,au,au⟩
      ·refine okD (fun c_8=>?_) (fun c_8=>?_)
       ·refine okG ?_
        refine okG ?_
        refine okG ?_
        refine az fun r5 h_14_1_0 h_14_1_1 h_14_1_2 h_14_1_3=>?_
        refine okB (A:=fun e1=>p<=e1.1/\e1.1<=p+8/\e1.2.size<=3) ?_ (fun e1 h_e1=>?_)
        ·refine okW (fun(k:Nat) (v1:Int×Int×ByteArray)=>0<=v1.1/\v1.1<=(k:Int)/\(v1.2.2.size:Int)+v1.1<=3/\p<=v1.2.1/\v1.2.1+v1.1<=p+8) (fun k v1 hI=>?_) (3:Nat) _ ⟨au,au,au,au,au⟩
         obtain⟨i_0,i_1,i_2,i_3,i_4⟩:=hI
         unfold F.eg
         refine okD (fun c_0=>?_) (fun c_0=>?_)
         ·refine okG ?_
          refine okG ?_
          refine okG ?_
          refine az fun r6 h_17_3_0 h_17_3_1 h_17_3_2 h_17_3_3=>?_
          refine okG ?_
          exact fj ⟨k-1,by omega,au,au,au,au,au⟩
         ·exact dj ⟨au,au,au⟩
        ·obtain⟨e1_0,e1_1,e1_2⟩:=h_e1
         exact dj ⟨au,au,au⟩
       ·refine okD (fun c_9=>?_) (fun c_9=>?_)
        ·refine okG ?_
         refine okG ?_
         refine okG ?_
         refine az fun r5 h_14_1_0 h_14_1_1 h_14_1_2 h_14_1_3=>?_
         refine okB (A:=fun e1=>p<=e1.1/\e1.1<=p+8/\e1.2.size<=3) ?_ (fun e1 h_e1=>?_)
         ·refine okW (fun(k:Nat) (v1:Int×Int×ByteArray)=>0<=v1.1/\v1.1<=(k:Int)/\(v1.2.2.size:Int)+v1.1<=3/\p<=v1.2.1/\v1.2.1+v1.1<=p+8) (fun k v1 hI=>?_) (3:Nat) _ ⟨au,au,au,au,au⟩
          obtain⟨i_0,i_1,i_2,i_3,i_4⟩:=hI
          unfold F.eg
          refine okD (fun c_0=>?_) (fun c_0=>?_)
          ·refine okG ?_
           refine okG ?_
           refine okG ?_
           refine az fun r6 h_17_3_0 h_17_3_1 h_17_3_2 h_17_3_3=>?_
           refine okG ?_
           exact fj ⟨k-1,by omega,au,au,au,au,au⟩
          ·exact dj ⟨au,au,au⟩
         ·obtain⟨e1_0,e1_1,e1_2⟩:=h_e1
          exact dj ⟨au,au,au⟩
        ·refine okG ?_
         refine okG ?_
         refine okG ?_
         refine az fun r7 h_3_1_0 h_3_1_1 h_3_1_2 h_3_1_3=>?_
         exact dj ⟨au,au,au⟩
  ·obtain⟨e0_0,e0_1,e0_2⟩:=h_e0
   refine okG ?_
   refine okG ?_
   refine iU fun r8 h_18_2_0 h_18_2_1 h_18_2_2=>?_
   refine okC (fun c_10=>?_) (fun c_10=>?_)
   ·refine okG ?_
    refine okG ?_
    refine az fun r9 h_19_1_0 h_19_1_1 h_19_1_2 h_19_1_3=>?_
    refine okD (fun c_11=>?_) (fun c_11=>?_)
    ·exact rL
    ·refine okD (fun c_12=>?_) (fun c_12=>?_)
     ·refine okG ?_
      exact rL
     ·refine okD (fun c_13=>?_) (fun c_13=>?_)
      ·refine okG ?_
       refine okG ?_
       refine az fun r10 h_26_1_0 h_26_1_1 h_26_1_2 h_26_1_3=>?_
       exact rL
      ·refine okG ?_
       exact rL
   ·exact rL
theorem F.uO (b:(List Int)) (p:Int) (n:Int) (h_b:Sm (Ty.sl (Ty.int .u8)) b) (p0:M.ax b) (p1:0<=p) (p2:p<=998000000000000):F.iu b p n=some (M.eU b p n):=gY (F.oe b p n h_b p0 p1 p2)
theorem M.zV (b:(List Int)) (p:Int) (n:Int) (h_b:Sm (Ty.sl (Ty.int .u8)) b) (p0:M.ax b) (p1:0<=p) (p2:p<=998000000000000):(M.eU b p n).1.2.2.1.size<=20/\p<=(M.eU b p n).2/\(M.eU b p n).2<=p+20:=gU (F.oe b p n h_b p0 p1 p2)
theorem gy {α:Type} {K:α->Prop} {f:aa.D×Int->Option α} {b:(List Int)} {p:Int} {n:Int} (k:∀r,(r.1.2.2.1.size<=20)->(p<=r.2)->(r.2<=p+20)->ok (f r) K) (h_b:Sm (Ty.sl (Ty.int .u8)) b:=by exact au) (p0:M.ax b:=by exact au) (p1:0<=p:=by exact au) (p2:p<=998000000000000:=by exact au):ok (aJ (M.eU b p n) f) K:=by
 have h:=M.zV b p n h_b p0 p1 p2
 obtain⟨h0,h1,h2⟩:=h
 exact k _ h0 h1 h2
theorem F.qw (b:(List Int)) (p:Int) (columns:LC) (n:Int) (h_b:Sm (Ty.sl (Ty.int .u8)) b) (h_columns:Sm (Ty.sl ag) columns) (p0:M.ax b) (p1:0<=p) (p2:p<=997000000000000):ok (F.kD b p columns n) (fun r=>r.1.length<=columns.length+3/\(∀v∈r.1,v.2.2.1.size<=20)/\p<=r.2/\r.2<=p+3 * columns.length+70/\(n<1->r.1.length=columns.length)):=by
  unfold F.kD
  have hl:=h_columns.1
  refine okT (A:=fun v0=>p<=v0.1/\v0.1<=p+3 * (columns.length:Int)/\v0.2.length=columns.length/\(∀v∈v0.2,v.2.2.1.size<=20)) (B:=fun _=>False) ?_ (fun v0 h_v0=>?_) (fun _ h=>h.elim)
  ·refine Iw (fun(k:Nat) (v0:Int×LV)=>p<=v0.1/\v0.1<=p+3 * (k:Int)/\v0.2.length=k/\(∀v∈v0.2,v.2.2.1.size<=20)) ⟨au,au,au,au⟩ (fun z0 hz k v0 hk hI=>?_)
   obtain⟨i_0,i_1,i_2,i_3⟩:=hI
   unfold F.iV
   refine okG ?_
   refine okG ?_
   refine okG ?_
   refine ot fun r1 h_5_6_0 h_5_6_1 h_5_6_2=>?_
   refine okG ?_
   exact fj ⟨au,au,au,au⟩
  ·obtain⟨v0_0,v0_1,v0_2,v0_3⟩:=h_v0
   refine okG ?_
   refine okG ?_
   refine iU fun r2 h_6_2_0 h_6_2_1 h_6_2_2=>?_
   refine okC (fun c_0=>?_) (fun c_0=>?_)
   ·have n_a:¬n<1:=fun q=>by rw[h_6_2_0 q] at c_0;cases c_0
    refine okG ?_
    refine okG ?_
    refine az fun r3 h_7_1_0 h_7_1_1 h_7_1_2 h_7_1_3=>?_
    refine okD (fun c_1=>?_) (fun c_1=>?_)
    ·refine okG ?_
     exact qa
    ·refine okD (fun c_2=>?_) (fun c_2=>?_)
     ·refine okD (fun c_3=>?_) (fun c_3=>?_)
      ·refine okG ?_
       refine okG ?_
       refine az fun r4 h_13_4_0 h_13_4_1 h_13_4_2 h_13_4_3=>?_
       refine okG ?_
       refine okG ?_
       refine gy fun r5 h_13_6_0 h_13_6_1 h_13_6_2=>?_
       refine okG ?_
       refine okG ?_
       exact qa
      ·exact qa
     ·refine okG ?_
      refine okG ?_
      refine gy fun r6 h_8_2_0 h_8_2_1 h_8_2_2=>?_
      refine okG ?_
      refine okG ?_
      refine gy fun r7 h_8_4_0 h_8_4_1 h_8_4_2=>?_
      refine okG ?_
      refine okG ?_
      refine gy fun r8 h_8_6_0 h_8_6_1 h_8_6_2=>?_
      refine okG ?_
      exact qa
   ·exact qa
theorem F.yE (b:(List Int)) (p:Int) (columns:LC) (n:Int) (h_b:Sm (Ty.sl (Ty.int .u8)) b) (h_columns:Sm (Ty.sl ag) columns) (p0:M.ax b) (p1:0<=p) (p2:p<=997000000000000):F.kD b p columns n=some (M.kQ b p columns n):=gY (F.qw b p columns n h_b h_columns p0 p1 p2)
theorem M.Cn (b:(List Int)) (p:Int) (columns:LC) (n:Int) (h_b:Sm (Ty.sl (Ty.int .u8)) b) (h_columns:Sm (Ty.sl ag) columns) (p0:M.ax b) (p1:0<=p) (p2:p<=997000000000000):(M.kQ b p columns n).1.length<=columns.length+3/\(∀v∈(M.kQ b p columns n).1,v.2.2.1.size<=20)/\p<=(M.kQ b p columns n).2/\(M.kQ b p columns n).2<=p+3 * columns.length+70/\(n<1->(M.kQ b p columns n).1.length=columns.length):=gU (F.qw b p columns n h_b h_columns p0 p1 p2)
theorem pS {α:Type} {K:α->Prop} {f:LV×Int->Option α} {b:(List Int)} {p:Int} {columns:LC} {n:Int} (k:∀r,(r.1.length<=columns.length+3)->(∀v∈r.1,v.2.2.1.size<=20)->(p<=r.2)->(r.2<=p+3 * columns.length+70)->(n<1->r.1.length=columns.length)->ok (f r) K) (h_b:Sm (Ty.sl (Ty.int .u8)) b:=by exact au) (h_columns:Sm (Ty.sl ag) columns:=by exact au) (p0:M.ax b:=by exact au) (p1:0<=p:=by exact au) (p2:p<=997000000000000:=by exact au):ok (aJ (M.kQ b p columns n) f) K:=by
 have h:=M.Cn b p columns n h_b h_columns p0 p1 p2
 obtain⟨h0,h1,h2,h3,h4⟩:=h
 exact k _ h0 h1 h2 h3 h4
theorem F.zM (row:LV) (h_row:Sm (Ty.sl aa) row):F.yG row=some row:=by
 rfl
theorem F.qt (b:(List Int)) (p:Int) (c:LC) (n:Int) (h_b:Sm (Ty.sl (Ty.int .u8)) b) (h_c:Sm (Ty.sl ag) c) (p0:M.ax b) (p1:0<=p) (p2:p<=996000000000000) (p3:c.length<=6) (p4:n=0):ok (F.kq b p c n) (fun r=>r.1.length<=6/\(∀w∈r.1,M.tu w)/\p<=r.2/\r.2<=p+1000/\(∀w∈r.1,w.length=c.length)):=by
  unfold F.kq
  have hl:=p3
  refine okG ?_
  refine az fun r1 h_2_1_0 h_2_1_1 h_2_1_2 h_2_1_3=>?_
  refine okB (A:=fun e0=>p<=e0.1/\e0.1<=p+700/\e0.2.length<=6/\(∀w∈e0.2,M.tu w)/\(∀w∈e0.2,w.length=c.length)) ?_ (fun e0 h_e0=>?_)
  ·refine okW (fun(k:Nat) (v0:Int×Int×LLV)=>0<=v0.1/\v0.1<=(k:Int)/\(v0.2.2.length:Int)+v0.1<=6/\(∀w∈v0.2.2,M.tu w)/\p<=v0.2.1/\v0.2.1+100 * v0.1<=p+700/\(∀w∈v0.2.2,w.length=c.length)) (fun k v0 hI=>?_) (6:Nat) _ ⟨au,au,au,au,au,au,au⟩
   obtain⟨i_0,i_1,i_2,i_3,i_4,i_5,i_6⟩:=hI
   unfold F.iW
   refine okD (fun c_0=>?_) (fun c_0=>?_)
   ·refine FL (fun c_1=>?_) (fun c_1=>?_)
    ·refine okG ?_
     refine okG ?_
     refine okG ?_
     refine az fun r2 h_5_5_0 h_5_5_1 h_5_5_2 h_5_5_3=>?_
     refine okD (fun c_2=>?_) (fun c_2=>?_)
     ·refine okG ?_
      refine okG ?_
      refine az fun r3 h_6_5_0 h_6_5_1 h_6_5_2 h_6_5_3=>?_
      refine okG ?_
      refine okG ?_
      refine okG ?_
      refine okL fun r4 er4=>?_
      have w_a:M.tu r4:=er4▸M.zb i_3 _
      have w_b:r4.length=c.length:=by rw[er4];exact i_6 _ (iq (t:=.sl aa) h_6_5_0 (h_6_5_1 (by omega)))
      refine okG ?_
      exact fj ⟨k-1,by omega,au,au,au,au,au,au,au⟩
     ·refine okG ?_
      refine okG ?_
      refine pS fun r5 h_7_4_0 h_7_4_1 h_7_4_2 h_7_4_3 h_7_4_4=>?_
      have w_c:r5.1.length=c.length:=h_7_4_4 (by omega)
      refine okG ?_
      exact fj ⟨k-1,by omega,au,au,au,au,au,au,au⟩
    ·refine okG ?_
     refine okG ?_
     refine okG ?_
     refine pS fun r5 h_7_4_0 h_7_4_1 h_7_4_2 h_7_4_3 h_7_4_4=>?_
     have w_c:r5.1.length=c.length:=h_7_4_4 (by omega)
     refine okG ?_
     exact fj ⟨k-1,by omega,au,au,au,au,au,au,au⟩
   ·exact dj ⟨au,au,au,au,au⟩
  ·obtain⟨e0_0,e0_1,e0_2,e0_3,e0_4⟩:=h_e0
   exact qa
theorem F.yj (b:(List Int)) (p:Int) (c:LC) (n:Int) (h_b:Sm (Ty.sl (Ty.int .u8)) b) (h_c:Sm (Ty.sl ag) c) (p0:M.ax b) (p1:0<=p) (p2:p<=996000000000000) (p3:c.length<=6) (p4:n=0):F.kq b p c n=some (M.nK b p c n):=gY (F.qt b p c n h_b h_c p0 p1 p2 p3 p4)
theorem M.Dr (b:(List Int)) (p:Int) (c:LC) (n:Int) (h_b:Sm (Ty.sl (Ty.int .u8)) b) (h_c:Sm (Ty.sl ag) c) (p0:M.ax b) (p1:0<=p) (p2:p<=996000000000000) (p3:c.length<=6) (p4:n=0):(M.nK b p c n).1.length<=6/\(∀w∈(M.nK b p c n).1,M.tu w)/\p<=(M.nK b p c n).2/\(M.nK b p c n).2<=p+1000/\(∀w∈(M.nK b p c n).1,w.length=c.length):=gU (F.qt b p c n h_b h_c p0 p1 p2 p3 p4)
theorem xk {α:Type} {K:α->Prop} {f:LLV×Int->Option α} {b:(List Int)} {p:Int} {c:LC} {n:Int} (k:∀r,(r.1.length<=6)->(∀w∈r.1,M.tu w)->(p<=r.2)->(r.2<=p+1000)->(∀w∈r.1,w.length=c.length)->ok (f r) K) (h_b:Sm (Ty.sl (Ty.int .u8)) b:=by exact au) (h_c:Sm (Ty.sl ag) c:=by exact au) (p0:M.ax b:=by exact au) (p1:0<=p:=by exact au) (p2:p<=996000000000000:=by exact au) (p3:c.length<=6:=by exact au) (p4:n=0:=by exact au):ok (aJ (M.nK b p c n) f) K:=by
 have h:=M.Dr b p c n h_b h_c p0 p1 p2 p3 p4
 obtain⟨h0,h1,h2,h3,h4⟩:=h
 exact k _ h0 h1 h2 h3 h4
theorem F.mP (b:(List Int)) (p:Int) (n:Int) (h_b:Sm (Ty.sl (Ty.int .u8)) b) (p0:M.ax b) (p1:0<=p) (p2:p<=995000000000000):ok (F.gN b p n) (fun r=>r.1.length<=6/\1<=r.1.length/\(∀t∈r.1,M.hU t)/\p<=r.2/\r.2<=p+10000/\(n<1->r.1.length<=3)/\(n<1->(∀t∈r.1,M.wD t))):=by
  unfold F.gN
  refine okG ?_
  refine az fun r1 h_2_1_0 h_2_1_1 h_2_1_2 h_2_1_3=>?_
  refine okB (A:=fun e0=>p<=e0.1/\e0.1<=p+6100/\e0.2.length<=3/\1<=e0.2.length/\(∀t∈e0.2,M.hU t)/\(∀t∈e0.2,M.wD t)) ?_ (fun e0 h_e0=>?_)
  ·refine okW (fun(k:Nat) (v0:Int×Int×LTb)=>0<=v0.1/\v0.1<=(k:Int)/\(v0.2.2.length:Int)+v0.1<=3/\1<=(v0.2.2.length:Int)+v0.1/\(∀t∈v0.2.2,M.hU t)/\p<=v0.2.1/\v0.2.1+2000 * v0.1<=p+6100/\(∀t∈v0.2.2,M.wD t)) (fun k v0 hI=>?_) (3:Nat) _ ⟨au,au,au,au,au,au,au,au⟩
   obtain⟨i_0,i_1,i_2,i_3,i_4,i_5,i_6,i_7⟩:=hI
   unfold F.gp
   refine okD (fun c_0=>?_) (fun c_0=>?_)
   ·refine okG ?_
    refine okG ?_
    refine okG ?_
    refine rJ fun r2 h_5_1_0 h_5_1_1 h_5_1_2 h_5_1_3=>?_
    refine okG ?_
    refine okG ?_
    refine az fun r3 h_6_2_0 h_6_2_1 h_6_2_2 h_6_2_3=>?_
    refine okG ?_
    refine okG ?_
    refine okG ?_
    refine okG ?_
    refine okG ?_
    refine okG ?_
    refine okG ?_
    refine okG ?_
    refine xk fun r4 h_7_3_0 h_7_3_1 h_7_3_2 h_7_3_3 h_7_3_4=>?_
    have q_a:=M.Jk h_6_2_0 (h_6_2_1 (by decide)) (n:=(r2.1.length:Int)) (by omega)
    have q_b:(aD r2.1 (some ((0:Int),wrap64 ((1:Int)+(r3.1.tmod (r2.1.length:Int)))))).length<=2:=M.IE q_a
    have q_c:M.wD ((aD r2.1 (some ((0:Int),wrap64 ((1:Int)+(r3.1.tmod (r2.1.length:Int)))))),(r4.1,())):=⟨Nat.le_trans q_b (by decide),by omega,fun w hw=>by rw[h_7_3_4 w hw];omega⟩
    refine okG ?_
    exact fj ⟨k-1,by omega,au,au,au,au,au,au,au,au⟩
   ·exact dj ⟨au,au,au,au,au,au⟩
  ·obtain⟨e0_0,e0_1,e0_2,e0_3,e0_4,e0_5⟩:=h_e0
   refine okG ?_
   refine okG ?_
   refine iU fun r5 h_9_2_0 h_9_2_1 h_9_2_2=>?_
   refine okC (fun c_1=>?_) (fun c_1=>?_)
   ·have n_a:¬n<1:=fun q=>by rw[h_9_2_0 q] at c_1;cases c_1
    obtain⟨t_1,t_2,_⟩:=M.xS e0_5 (0:Int)
    refine okG ?_
    refine okG ?_
    refine az fun r6 h_10_1_0 h_10_1_1 h_10_1_2 h_10_1_3=>?_
    refine okD (fun c_2=>?_) (fun c_2=>?_)
    ·refine okG ?_
     exact BR
    ·refine okD (fun c_3=>?_) (fun c_3=>?_)
     ·have t_a:=M.Fu (i:=0) (k:=(0:Int).toNat) (w:=[[((9:Int),((0:Int),((⟨#[]⟩:ByteArray),())))]]) e0_4 e0_5 (by exact cl) (by decide)
      refine okG ?_
      refine okG ?_ (by simp only[List.length_cons,List.length_nil,List.length_append,lim];omega)
      refine okG ?_ (by rw[List.length_set];omega)
      refine okL fun y1 ey1=>?_
      subst ey1
      exact BR
     ·have t_a:=M.Fh (i:=0) (k:=(0:Int).toNat) (w:=[((1:Int),(false,()))]) e0_4 e0_5 (by decide)
      refine okG ?_
      refine okG ?_ (by simp only[List.length_cons,List.length_nil,List.length_append,lim];omega)
      refine okG ?_ (by rw[List.length_set];omega)
      refine okL fun y2 ey2=>?_
      subst ey2
      exact BR
   ·have t_b:n<1->∀t∈e0.2,M.wD t:=fun _=>e0_5
    exact BR
theorem F.tT (b:(List Int)) (p:Int) (n:Int) (h_b:Sm (Ty.sl (Ty.int .u8)) b) (p0:M.ax b) (p1:0<=p) (p2:p<=995000000000000):F.gN b p n=some (M.dO b p n):=gY (F.mP b p n h_b p0 p1 p2)
theorem M.yR (b:(List Int)) (p:Int) (n:Int) (h_b:Sm (Ty.sl (Ty.int .u8)) b) (p0:M.ax b) (p1:0<=p) (p2:p<=995000000000000):(M.dO b p n).1.length<=6/\1<=(M.dO b p n).1.length/\(∀t∈(M.dO b p n).1,M.hU t)/\p<=(M.dO b p n).2/\(M.dO b p n).2<=p+10000/\(n<1->(M.dO b p n).1.length<=3)/\(n<1->(∀t∈(M.dO b p n).1,M.wD t)):=gU (F.mP b p n h_b p0 p1 p2)
theorem mF {α:Type} {K:α->Prop} {f:LTb×Int->Option α} {b:(List Int)} {p:Int} {n:Int} (k:∀r,(r.1.length<=6)->(1<=r.1.length)->(∀t∈r.1,M.hU t)->(p<=r.2)->(r.2<=p+10000)->(n<1->r.1.length<=3)->(n<1->(∀t∈r.1,M.wD t))->ok (f r) K) (h_b:Sm (Ty.sl (Ty.int .u8)) b:=by exact au) (p0:M.ax b:=by exact au) (p1:0<=p:=by exact au) (p2:p<=995000000000000:=by exact au):ok (aJ (M.dO b p n) f) K:=by
 have h:=M.yR b p n h_b p0 p1 p2
 obtain⟨h0,h1,h2,h3,h4,h5,h6⟩:=h
 exact k _ h0 h1 h2 h3 h4 h5 h6
theorem F.pY (b:(List Int)) (p:Int) (columns:LC) (kind:Int) (h_b:Sm (Ty.sl (Ty.int .u8)) b) (h_columns:Sm (Ty.sl ag) columns) (p0:M.ax b) (p1:0<=p) (p2:p<=997000000000000):ok (F.jl b p columns kind) (fun r=>r.1.2.2.1.2.2.1.size<=20/\p<=r.2/\r.2<=p+20):=by
  unfold F.jl
  have hl:=h_columns.1
  refine okT (A:=fun e0=>p<=e0/\e0<=p+8) (B:=fun q0=>p<=q0.1/\q0.1<=p+10) ?_ (fun e0 h_e0=>?_) (fun q0 h_q0=>?_)
  ·refine okW (fun(k:Nat) (v0:Int×Int)=>0<=v0.1/\v0.1<=4/\4<=v0.1+(k:Int)/\p<=v0.2/\v0.2<=p+2 * v0.1) (fun k v0 hI=>?_) (4:Nat) _ ⟨au,au,au,au,au⟩
   obtain⟨i_0,i_1,i_2,i_3,i_4⟩:=hI
   unfold F.iB
   refine FL (fun c_0=>?_) (fun c_0=>?_)
   ·refine okD (fun c_1=>?_) (fun c_1=>?_)
    ·refine okG ?_
     refine okG ?_
     refine okG ?_
     refine az fun r1 h_4_3_0 h_4_3_1 h_4_3_2 h_4_3_3=>?_
     refine okG ?_
     refine okG ?_
     refine FL (fun c_2=>?_) (fun c_2=>?_)
     ·refine okG ?_
      refine okG ?_
      refine az fun r2 h_5_9_0 h_5_9_1 h_5_9_2 h_5_9_3=>?_
      refine okD (fun c_3=>?_) (fun c_3=>?_)
      ·exact Gx ⟨au,au⟩
      ·exact fj ⟨k-1,by omega,au,au,au,au,au⟩
     ·exact fj ⟨k-1,by omega,au,au,au,au,au⟩
    ·exact El ⟨au,au⟩
   ·exact El ⟨au,au⟩
  ·obtain⟨e0_0,e0_1⟩:=h_e0
   refine okG ?_
   refine okG ?_
   refine ot fun r3 h_7_3_0 h_7_3_1 h_7_3_2=>?_
   exact rL
  ·obtain⟨q0_0,q0_1⟩:=h_q0
   exact rL
theorem F.wO (b:(List Int)) (p:Int) (columns:LC) (kind:Int) (h_b:Sm (Ty.sl (Ty.int .u8)) b) (h_columns:Sm (Ty.sl ag) columns) (p0:M.ax b) (p1:0<=p) (p2:p<=997000000000000):F.jl b p columns kind=some (M.dy b p columns kind):=gY (F.pY b p columns kind h_b h_columns p0 p1 p2)
theorem M.BL (b:(List Int)) (p:Int) (columns:LC) (kind:Int) (h_b:Sm (Ty.sl (Ty.int .u8)) b) (h_columns:Sm (Ty.sl ag) columns) (p0:M.ax b) (p1:0<=p) (p2:p<=997000000000000):(M.dy b p columns kind).1.2.2.1.2.2.1.size<=20/\p<=(M.dy b p columns kind).2/\(M.dy b p columns kind).2<=p+20:=gU (F.pY b p columns kind h_b h_columns p0 p1 p2)
theorem fB {α:Type} {K:α->Prop} {f:aE.D×Int->Option α} {b:(List Int)} {p:Int} {columns:LC} {kind:Int} (k:∀r,(r.1.2.2.1.2.2.1.size<=20)->(p<=r.2)->(r.2<=p+20)->ok (f r) K) (h_b:Sm (Ty.sl (Ty.int .u8)) b:=by exact au) (h_columns:Sm (Ty.sl ag) columns:=by exact au) (p0:M.ax b:=by exact au) (p1:0<=p:=by exact au) (p2:p<=997000000000000:=by exact au):ok (aJ (M.dy b p columns kind) f) K:=by
 have h:=M.BL b p columns kind h_b h_columns p0 p1 p2
 obtain⟨h0,h1,h2⟩:=h
 exact k _ h0 h1 h2
theorem dg {α:Type} {K:α->Prop} {f:LPt×Int->Option α} {n_:Nat} (ih:∀(b:(List Int)),∀(p:Int),∀(columns:LC),∀(kind:Int),∀(deep:Int),(Sm (Ty.sl (Ty.int .u8)) b)->(Sm (Ty.sl ag) columns)->(M.ax b)->(0<=p)->(p+40 * (M.eB deep:Int)<=996000000000000)->(deep<=3)->(deep.toNat<n_)->1<=(M.bB n_ b p columns kind deep).1.length/\(M.bB n_ b p columns kind deep).1.length<=M.eB deep/\(∀v∈(M.bB n_ b p columns kind deep).1,v.2.2.1.2.2.1.size<=20)/\p<=(M.bB n_ b p columns kind deep).2/\(M.bB n_ b p columns kind deep).2<=p+40 * M.eB deep) {b:(List Int)} {p:Int} {columns:LC} {kind:Int} {deep:Int} (k:∀r,(1<=r.1.length)->(r.1.length<=M.eB deep)->(∀v∈r.1,v.2.2.1.2.2.1.size<=20)->(p<=r.2)->(r.2<=p+40 * M.eB deep)->ok (f r) K) (h_b:Sm (Ty.sl (Ty.int .u8)) b:=by exact au) (h_columns:Sm (Ty.sl ag) columns:=by exact au) (p0:M.ax b:=by exact au) (p1:0<=p:=by exact au) (p2:p+40 * (M.eB deep:Int)<=996000000000000:=by exact au) (p3:deep<=3:=by exact au) (p4:deep.toNat<n_:=by exact au):ok (aJ (M.bB n_ b p columns kind deep) f) K:=by
 have h:=ih b p columns kind deep h_b h_columns p0 p1 p2 p3 p4
 obtain⟨h0,h1,h2,h3,h4⟩:=h
 exact k _ h0 h1 h2 h3 h4
theorem F.pO (n_:Nat) (ih:∀(b:(List Int)),∀(p:Int),∀(columns:LC),∀(kind:Int),∀(deep:Int),(Sm (Ty.sl (Ty.int .u8)) b)->(Sm (Ty.sl ag) columns)->(M.ax b)->(0<=p)->(p+40 * (M.eB deep:Int)<=996000000000000)->(deep<=3)->(deep.toNat<n_)->1<=(M.bB n_ b p columns kind deep).1.length/\(M.bB n_ b p columns kind deep).1.length<=M.eB deep/\(∀v∈(M.bB n_ b p columns kind deep).1,v.2.2.1.2.2.1.size<=20)/\p<=(M.bB n_ b p columns kind deep).2/\(M.bB n_ b p columns kind deep).2<=p+40 * M.eB deep) (b:(List Int)) (p:Int) (columns:LC) (kind:Int) (deep:Int) (h_b:Sm (Ty.sl (Ty.int .u8)) b) (h_columns:Sm (Ty.sl ag) columns) (p0:M.ax b) (p1:0<=p) (p2:p+40 * (M.eB deep:Int)<=996000000000000) (p3:deep<=3) (p4:deep.toNat<(n_+1)):ok (F.lJ n_ b p columns kind deep) (fun r=>1<=r.1.length/\r.1.length<=M.eB deep/\(∀v∈r.1,v.2.2.1.2.2.1.size<=20)/\p<=r.2/\r.2<=p+40 * M.eB deep):=by
  unfold F.lJ
  have hE0:=M.EY (d:=deep)
  have hE1:=M.EY (d:=wrap64 (deep-(1:Int)))
  have hE2:=M.EY (d:=wrap64 (deep-(2:Int)))
  have hE3:=M.IY (d:=deep) p3
  have hE4:=M.IW (d:=deep) p3
  refine IX (fun c_0=>?_) (fun c_0=>?_)
  ·refine okG ?_
   refine az fun r1 h_1_4_0 h_1_4_1 h_1_4_2 h_1_4_3=>?_
   refine okD (fun c_1=>?_) (fun c_1=>?_)
   ·refine okG ?_
    refine okG ?_
    refine fB fun r2 h_2_3_0 h_2_3_1 h_2_3_2=>?_
    exact qa
   ·refine okD (fun c_2=>?_) (fun c_2=>?_)
    ·refine okG ?_
     refine okG ?_
     refine okG ?_
     refine okG ?_
     refine dg ih fun r3 h_4_5_0 h_4_5_1 h_4_5_2 h_4_5_3 h_4_5_4=>?_
     refine okG ?_
     refine okG ?_
     refine fB fun r4 h_4_9_0 h_4_9_1 h_4_9_2=>?_
     refine okG ?_
     refine okG ?_
     exact qa
    ·refine okD (fun c_3=>?_) (fun c_3=>?_)
     ·refine okG ?_
      refine okG ?_
      refine fB fun r5 h_6_3_0 h_6_3_1 h_6_3_2=>?_
      exact qa
     ·refine okG ?_
      refine okG ?_
      refine az fun r6 h_7_1_0 h_7_1_1 h_7_1_2 h_7_1_3=>?_
      refine okD (fun c_4=>?_) (fun c_4=>?_)
      ·refine okG ?_
       refine okG ?_
       refine okG ?_
       refine okG ?_
       refine dg ih fun r7 h_9_4_0 h_9_4_1 h_9_4_2 h_9_4_3 h_9_4_4=>?_
       refine okG ?_
       refine okG ?_
       refine okG ?_
       refine okG ?_
       refine dg ih fun r8 h_9_9_0 h_9_9_1 h_9_9_2 h_9_9_3 h_9_9_4=>?_
       refine okG ?_
       refine okG ?_
       refine okG ?_
       refine az fun r9 h_9_12_0 h_9_12_1 h_9_12_2 h_9_12_3=>?_
       refine okG ?_
       exact qa
      ·refine okD (fun c_5=>?_) (fun c_5=>?_)
       ·refine okG ?_
        refine okG ?_
        refine okG ?_
        refine okG ?_
        refine dg ih fun r10 h_11_4_0 h_11_4_1 h_11_4_2 h_11_4_3 h_11_4_4=>?_
        refine okG ?_
        exact qa
       ·refine okD (fun c_6=>?_) (fun c_6=>?_)
        ·refine okG ?_
         refine okG ?_
         refine az fun r11 h_13_3_0 h_13_3_1 h_13_3_2 h_13_3_3=>?_
         refine okG ?_
         refine okG ?_
         refine okG ?_
         refine okG ?_
         refine dg ih fun r12 h_13_7_0 h_13_7_1 h_13_7_2 h_13_7_3 h_13_7_4=>?_
         refine okG ?_
         exact qa
        ·refine okG ?_
         refine okG ?_
         refine az fun r13 h_14_1_0 h_14_1_1 h_14_1_2 h_14_1_3=>?_
         refine okG ?_
         refine okG ?_
         refine okG ?_
         refine okG ?_
         refine dg ih fun r14 h_15_5_0 h_15_5_1 h_15_5_2 h_15_5_3 h_15_5_4=>?_
         refine okG ?_
         refine okG ?_
         refine fB fun r15 h_15_9_0 h_15_9_1 h_15_9_2=>?_
         refine okG ?_
         refine okG ?_
         refine okG ?_
         refine az fun r16 h_15_13_0 h_15_13_1 h_15_13_2 h_15_13_3=>?_
         refine okG ?_
         exact qa
  ·refine okG ?_
   refine fB fun r2 h_2_3_0 h_2_3_1 h_2_3_2=>?_
   exact qa
theorem M.oO:∀(n_:Nat),∀(b:(List Int)),∀(p:Int),∀(columns:LC),∀(kind:Int),∀(deep:Int),(Sm (Ty.sl (Ty.int .u8)) b)->(Sm (Ty.sl ag) columns)->(M.ax b)->(0<=p)->(p+40 * (M.eB deep:Int)<=996000000000000)->(deep<=3)->(deep.toNat<n_)->1<=(M.bB n_ b p columns kind deep).1.length/\(M.bB n_ b p columns kind deep).1.length<=M.eB deep/\(∀v∈(M.bB n_ b p columns kind deep).1,v.2.2.1.2.2.1.size<=20)/\p<=(M.bB n_ b p columns kind deep).2/\(M.bB n_ b p columns kind deep).2<=p+40 * M.eB deep
 | 0,b,p,columns,kind,deep,h_b,h_columns,p0,p1,p2,p3,p4=>absurd p4 (Nat.not_lt_zero _)
 | n_+1,b,p,columns,kind,deep,h_b,h_columns,p0,p1,p2,p3,p4=>gU (F.pO n_ (M.oO n_) b p columns kind deep h_b h_columns p0 p1 p2 p3 p4)
theorem F.wG (n_:Nat) (b:(List Int)) (p:Int) (columns:LC) (kind:Int) (deep:Int) (h_b:Sm (Ty.sl (Ty.int .u8)) b) (h_columns:Sm (Ty.sl ag) columns) (p0:M.ax b) (p1:0<=p) (p2:p+40 * (M.eB deep:Int)<=996000000000000) (p3:deep<=3) (p4:deep.toNat<(n_+1)):F.lJ n_ b p columns kind deep=some (M.bB (n_+1) b p columns kind deep):=gY (F.pO n_ (M.oO n_) b p columns kind deep h_b h_columns p0 p1 p2 p3 p4)
theorem ee {α:Type} {K:α->Prop} {f:LPt×Int->Option α} {n_:Nat} {b:(List Int)} {p:Int} {columns:LC} {kind:Int} {deep:Int} (k:∀r,(1<=r.1.length)->(r.1.length<=M.eB deep)->(∀v∈r.1,v.2.2.1.2.2.1.size<=20)->(p<=r.2)->(r.2<=p+40 * M.eB deep)->ok (f r) K) (h_b:Sm (Ty.sl (Ty.int .u8)) b:=by exact au) (h_columns:Sm (Ty.sl ag) columns:=by exact au) (p0:M.ax b:=by exact au) (p1:0<=p:=by exact au) (p2:p+40 * (M.eB deep:Int)<=996000000000000:=by exact au) (p3:deep<=3:=by exact au) (p4:deep.toNat<n_:=by exact au):ok (aJ (M.bB n_ b p columns kind deep) f) K:=by
 have h:=M.oO n_ b p columns kind deep h_b h_columns p0 p1 p2 p3 p4
 obtain⟨h0,h1,h2,h3,h4⟩:=h
 exact k _ h0 h1 h2 h3 h4
theorem F.AZ (n:Int) (low:Int) (high:Int)  : F.uU n low high=some (M.inR n low high):=by
 unfold F.uU M.inR
 cases decide (low<=n)<;>rfl
theorem F.ue (columns:LC) (h_columns:Sm (Ty.sl ag) columns):F.mq columns=some (M.bA columns):=by
 unfold F.mq M.bA
 rw[iX M.dW () (fun x _=>by simp only[F.gi,oc,de]<;>rfl),show decide ((columns.length:Int)<=4)=decide (columns.length<=4) from decide_eq_decide.2 (by omega)]
 cases columns.all M.dW<;>simp
theorem F.yB (s:ByteArray) (h_s:Sm Ty.str s):F.qA s=some (M.text s):=by
 unfold F.qA M.text M.lower
 have key:∀c:Int,(cond ((decide (c<97))==false) (cond (decide (122<c)) (some (Sum.inr ())) (some (Sum.inl ()))) (some (Sum.inr ())):Option (Sum Unit Unit))=some (cond (M.inR c 97 122) (.inl ()) (.inr ())):=by
  intro c
  unfold M.inR
  by_cases h2:c<97
  ·simp[h2,show ¬ 97<=c by omega]
  ·by_cases h3:122<c
   ·simp[h2,h3,show 97<=c by omega,show ¬c<=122 by omega]
   ·simp[h2,h3,show 97<=c by omega,show c<=122 by omega]
 rw[iX (fun i=>M.inR (nth (t:=.int .u8) (bM s) i) 97 122) () (fun i hi=>by
  obtain⟨h0,h1⟩:=dV.1 hi
  simp only[F.jr,BC h0 h1]
  exact key _)]
 rw[<-kG,Ft (t:=.int .u8) (bM s) (fun n=>M.inR n 97 122),show decide (((bM s).length:Int)<=6)=decide ((bM s).length<=6) from decide_eq_decide.2 (by omega)]
 cases (bM s).all fun n=>M.inR n 97 122<;>simp
theorem F.wU (v:aa.D) (h_v:Sm aa v):F.oE v=some (M.aP v):=by
 unfold F.oE M.aP
 simp only[jL]
 simp only[de]
theorem F.ye (columns:LC) (kinds:(List Int)) (p:aE.D) (h_columns:Sm (Ty.sl ag) columns) (h_kinds:Sm (Ty.sl (Ty.int .i64)) kinds) (h_p:Sm aE p) (p0:kinds.length<=1000):F.ki columns kinds p=some (M.vr columns kinds p):=by
 obtain⟨o,s,e,_⟩:=uy (columns:=columns) p p0 h_columns.1
 unfold M.vr
 rw[e]
 rfl
theorem F.vD (columns:LC) (e:LPt) (h_columns:Sm (Ty.sl ag) columns) (h_e:Sm (Ty.sl aE) e):F.nB columns e=some (M.cT columns e):=by
 unfold F.nB M.cT
 cases M.bA columns
 ·rfl
 by_cases hl:e.length<=12
 ·rw[decide_eq_false (show ¬(12:Int)<(e.length:Int) by omega),decide_eq_true hl]
  obtain⟨o,s,h1,h2⟩:=zO (columns:=columns) (E:=e) (by omega) h_columns.1 e.length 0 [] (by omega) (by omega) (by simp;omega)
  rw[show (0:Int)=((0:Nat):Int) from rfl,h1]
  rw[List.drop_zero] at h2
  unfold mW at h2
  cases hk:M.jq columns e [] with
  | none=>
   rw[hk] at h2
   simp only at h2
   subst h2
   rfl
  | some s'=>
   rw[hk] at h2
   obtain⟨rfl,rfl⟩:=h2
   match s with
   | []=>rfl
   | [a]=>exact ah (by simp)
   | a::b::l=>
    have:¬((a::b::l).length:Int)=1:=by simp;omega
    simp only[Option.bind_some,this,decide_false]
    rfl
 ·rw[decide_eq_true (show (12:Int)<(e.length:Int) by omega),decide_eq_false hl]
  rfl
theorem F.vo (s:aj.D) (h_s:Sm aj s):F.nr s=some (M.bT s):=by
 unfold F.nr M.bT M.two
 generalize decide (s.2.1=(0:Int))=a0
 generalize decide (s.2.2.1=(0:Int))=b0
 generalize decide (s.2.2.2.1=(0:Int))=n0
 generalize decide ((s.2.2.2.2.1.length:Int)=(0:Int))=e0
 generalize decide ((s.2.2.2.2.2.1.length:Int)=(0:Int))=l0
 by_cases h1:s.1=(1:Int)
 ·simp only[h1,Int.reduceEq,decide_true,decide_false]
  cases a0<;>cases b0<;>cases n0<;>cases e0<;>cases l0<;>rfl
 by_cases h2:s.1=(2:Int)
 ·simp only[h2,Int.reduceEq,decide_true,decide_false]
  cases a0<;>cases b0<;>cases n0<;>cases e0<;>cases l0<;>rfl
 by_cases h3:s.1=(3:Int)
 ·simp only[h3,Int.reduceEq,decide_true,decide_false]
  cases a0<;>cases b0<;>cases n0<;>cases e0<;>cases l0<;>rfl
 by_cases h4:s.1=(4:Int)
 ·simp only[h4,Int.reduceEq,decide_true,decide_false]
  cases a0<;>cases b0<;>cases n0<;>cases e0<;>cases l0<;>rfl
 by_cases h5:s.1=(5:Int)
 ·simp only[h5,Int.reduceEq,decide_true,decide_false]
  cases a0<;>cases b0<;>cases n0<;>cases e0<;>cases l0<;>rfl
 simp only[h1,h2,h3,h4,h5,decide_false]
 cases a0<;>cases b0<;>cases n0<;>cases e0<;>cases l0<;>rfl
theorem F.tM (tables:LTb) (ahead:LLC) (s:aj.D) (h_tables:Sm (Ty.sl aq) tables) (h_ahead:Sm (Ty.sl (Ty.sl ag)) ahead) (h_s:Sm aj s):F.gD tables ahead s=some (M.fy tables ahead s):=by
 obtain⟨r,h1,_⟩:=yS h_tables h_ahead h_s
 unfold M.fy
 rw[h1]
 rfl
theorem F.yJ (ahead:(List Int)) (s:aj.D) (h_ahead:Sm (Ty.sl (Ty.int .i64)) ahead) (h_s:Sm aj s) (p0:M.hY (ahead.length:Int) s):F.qk ahead s=some (M.aZ ahead s):=by
 unfold F.qk M.aZ
 by_cases h1:s.1=(1:Int)
 ·simp only[h1,decide_true,cond_true]
 obtain⟨⟨a0,a1⟩,⟨b0,b1⟩⟩:=p0 h1
 rw[decide_eq_false h1]
 repeat rw[ah a0]
 repeat rw[ah a1]
 repeat rw[ah b0]
 repeat rw[ah b1]
 cases decide (s.1=(4:Int))<;>cases decide (s.1=(5:Int))<;>rfl
theorem F.zQ (tables:LTb) (plan:LS) (h_tables:Sm (Ty.sl aq) tables) (h_plan:Sm (Ty.sl aj) plan):F.sF tables plan=some (M.cY tables plan):=by
 unfold F.sF M.cY M.lC
 obtain⟨o,h1,h2⟩:=M.AN (f:=F.ic tables plan) (M.bW tables) (fun t=>t) (fun n (st:gA)=>st.1.length=n/\st.2.length=n/\∀x∈st.1,x.length<=1048576) plan plan [] ([],[]) rfl ⟨rfl,rfl,fun x h=>by cases h⟩ (fun m st hm hI=>by
  obtain⟨l1,l2,hx⟩:=hI
  have hp:=h_plan.1
  have hc:Sm (.sl (.sl ag)) st.1:=⟨by omega,fun x h=>M.yK (hx x h)⟩
  have hstep:=aU h_plan (m:Int)
  have hl6:=Ja h_tables hc hstep
  unfold F.ic M.bW
  rw[ah hc,bH,<-hl6]
  cases hb:(M.fy tables st.1 (nth (t:=aj) plan (m:Int))).2 with
  | false=>exact⟨.inr (),rfl,rfl⟩
  | true=>
   rw[hb,cond_true] at hl6
   have hin:=M.qU hl6.symm
   have hsm:=M.vU h_tables hx hl6.symm
   have e12:(st.1.length:Int)=(st.2.length:Int):=by omega
   rw[e12] at hin
   simp only[Bool.not_true,cond_false,cond_true]
   rw[ah (by unfold lim;simp;omega),ah (show Sm (.sl (.int .i64)) st.2 from⟨by omega,fun x _=>trivial⟩),ah hin,ah (by unfold lim;simp;omega),ah (by simp;omega)]
   have hn:nth (t:=.int .i64) (st.2++[M.aZ st.2 (nth (t:=aj) plan (m:Int))]) (m:Int)=M.aZ st.2 (nth (t:=aj) plan (m:Int)):=by
    unfold nth
    rw[List.getD_eq_getElem?_getD]
    simp[<-l2]
   rw[hn]
   cases hd:decide ((300:Int)<M.aZ st.2 (nth (t:=aj) plan (m:Int))) with
   | true=>exact⟨.inr (),rfl,rfl⟩
   | false=>
    refine⟨_,rfl,rfl,by simp[l1],by simp[l2],fun x h=>?_⟩
    rcases List.mem_append.1 h with h | h
    ·exact hx x h
    ·cases List.mem_singleton.1 h
     exact hsm)
 rw[show (aM (0:Int) (plan.length:Int))=aM ((([]:List aj.D).length:Nat):Int) (plan.length:Int) from rfl,h1]
 match o with
 | .inl st=>
  simp only at h2
  rw[h2.1]
  rfl
 | .inr _=>
  simp only at h2
  rw[h2]
  rfl
theorem F.pX (b:(List Int)) (p:Int) (tables:LTb) (h_b:Sm (Ty.sl (Ty.int .u8)) b) (h_tables:Sm (Ty.sl aq) tables) (p0:M.ax b) (p1:0<=p) (p2:p<=995000000000000) (p3:(∀t∈tables,M.hU t)):ok (F.jb b p tables) (fun r=>r.1.length<=6/\1<=r.1.length/\(∀s∈r.1,M.eL s)/\p<=r.2/\r.2<=p+100000):=by
  unfold F.jb
  have hE:=M.EY (d:=(2:Int))
  have hE2:M.eB (2:Int)=27:=by decide
  refine okG ?_
  refine az fun r1 h_1_3_0 h_1_3_1 h_1_3_2 h_1_3_3=>?_
  refine okG ?_
  refine okG ?_
  refine az fun r2 h_2_1_0 h_2_1_1 h_2_1_2 h_2_1_3=>?_
  refine okT (A:=fun e0=>p<=e0.1/\e0.1<=p+16000/\e0.2.length<=6/\1<=e0.2.length/\(∀s∈e0.2,M.eL s)) (B:=fun q0=>p<=q0.1/\q0.1<=p+16000/\q0.2.length<=6/\1<=q0.2.length/\(∀s∈q0.2,M.eL s)) ?_ (fun e0 h_e0=>?_) (fun q0 h_q0=>?_)
  ·refine okW (fun(k:Nat) (v0:Int×Int×LS)=>0<=v0.1/\v0.1<=(k:Int)/\(v0.2.2.length:Int)+v0.1<=6/\1<=v0.2.2.length/\(∀s∈v0.2.2,M.eL s)/\p<=v0.2.1/\v0.2.1+3000 * v0.1<=p+16000) (fun k v0 hI=>?_) (6:Nat) _ ⟨au,au,au,au,au,au,au⟩
   obtain⟨i_0,i_1,i_2,i_3,i_4,i_5,i_6⟩:=hI
   unfold F.iC
   refine okD (fun c_11=>?_) (fun c_11=>?_)
   ·refine okG ?_ (M.qT (n:=1000) (by first | omega | (simp only[List.length_append,List.length_cons,List.length_nil];omega)) (by exact cl) (by decide))
    refine okL fun r3 er3=>?_
    have k_a:=M.Bb p3 er3
    refine okC (fun c_12=>?_) (fun c_12=>?_)
    ·exact Gx ⟨au,au,au,au,au⟩
    ·have l_a:=M.CC er3 c_12
     have l_b:r3.1.length<=6:=by omega
     refine okG ?_
     refine okG ?_
     refine okG ?_
     refine az fun r4 h_9_3_0 h_9_3_1 h_9_3_2 h_9_3_3=>?_
     have t_a:=M.IC h_9_3_0 (h_9_3_1 (by decide)) (n:=(v0.2.2.length:Int)) (by omega) (by omega)
     refine okD (fun c_13=>?_) (fun c_13=>?_)
     ·refine okG ?_
      refine okG ?_
      refine az fun r5 h_12_3_0 h_12_3_1 h_12_3_2 h_12_3_3=>?_
      refine okG ?_
      refine okG ?_
      refine az fun r6 h_13_1_0 h_13_1_1 h_13_1_2 h_13_1_3=>?_
      refine okB (A:=fun e2=>v0.2.1<=e2.1/\e2.1<=v0.2.1+2000/\e2.2.2.2.2.2.1.length<=81/\(∀v∈e2.2.2.2.2.2.1,v.2.2.1.2.2.1.size<=20)/\e2.2.2.2.2.2.2.length<=3) ?_ (fun e2 h_e2=>?_)
      ·refine okW (fun(_:Nat) (_:Unit)=>True) (fun _ v2 _=>?_) 0 _ trivial
       unfold F.dS
       refine okD (fun c_3=>?_) (fun c_3=>?_)
       ·refine okG ?_
        refine okG ?_
        refine okG ?_ (M.lA rfl (M.lD k_a _) (by decide))
        refine okG ?_
        refine okG ?_
        refine okG ?_
        refine okG ?_
        refine okG ?_
        refine ee fun r7 h_15_6_0 h_15_6_1 h_15_6_2 h_15_6_3 h_15_6_4=>?_
        exact dj ⟨au,au,au,au,au⟩
       ·refine okD (fun c_4=>?_) (fun c_4=>?_)
        ·refine okG ?_
         refine okG ?_
         refine okG ?_
         refine az fun r8 h_18_1_0 h_18_1_1 h_18_1_2 h_18_1_3=>?_
         refine okB (A:=fun e3=>v0.2.1<=e3.1/\e3.1<=v0.2.1+30/\e3.2.length<=3) ?_ (fun e3 h_e3=>?_)
         ·refine okW (fun(k:Nat) (v3:Int×Int×(List Int))=>0<=v3.1+1/\v3.1+1<=(k:Int)/\(v3.2.2.length:Int)+v3.1<=2/\v0.2.1<=v3.2.1/\v3.2.1+v3.1<=v0.2.1+20) (fun k v3 hI=>?_) (3:Nat) _ ⟨au,au,au,au,au⟩
          obtain⟨i_0,i_1,i_2,i_3,i_4⟩:=hI
          unfold F.fU
          refine FL (fun c_0=>?_) (fun c_0=>?_)
          ·refine okG ?_
           refine okG ?_
           refine okD (fun c_1=>?_) (fun c_1=>?_)
           ·refine okG ?_
            refine okG ?_
            refine okG ?_
            refine az fun r9 h_21_8_0 h_21_8_1 h_21_8_2 h_21_8_3=>?_
            refine okG ?_ (by simp only[List.length_cons,List.length_nil,List.length_append,lim];omega)
            exact fj ⟨k-1,by omega,au,au,au,au,au⟩
           ·exact dj ⟨au,au,au⟩
          ·exact dj ⟨au,au,au⟩
         ·obtain⟨e3_0,e3_1,e3_2⟩:=h_e3
          exact dj ⟨au,au,au,au,au⟩
        ·refine okD (fun c_5=>?_) (fun c_5=>?_)
         ·refine okG ?_
          refine okG ?_
          refine okG ?_
          refine az fun r10 h_24_2_0 h_24_2_1 h_24_2_2 h_24_2_3=>?_
          refine okG ?_
          refine okG ?_
          refine okG ?_
          refine okG ?_
          refine okG ?_ (M.jl1 k_a)
          refine okG ?_ (M.jl2 k_a)
          refine okD (fun c_6=>?_) (fun c_6=>?_)
          ·refine okG ?_ (M.jl3 k_a)
           refine okG ?_
           refine okG ?_
           refine okG ?_
           refine okG ?_
           refine ee fun r11 h_27_4_0 h_27_4_1 h_27_4_2 h_27_4_3 h_27_4_4=>?_
           exact dj ⟨au,au,au,au,au⟩
          ·exact dj ⟨au,au,au,au,au⟩
         ·refine okD (fun c_7=>?_) (fun c_7=>?_)
          ·refine okG ?_
           refine okG ?_
           refine okG ?_
           refine az fun r10 h_24_2_0 h_24_2_1 h_24_2_2 h_24_2_3=>?_
           refine okG ?_
           refine okG ?_
           refine okG ?_
           refine okG ?_
           refine okG ?_ (M.jl1 k_a)
           refine okG ?_ (M.jl2 k_a)
           refine okD (fun c_8=>?_) (fun c_8=>?_)
           ·refine okG ?_ (M.jl3 k_a)
            refine okG ?_
            refine okG ?_
            refine okG ?_
            refine okG ?_
            refine ee fun r11 h_27_4_0 h_27_4_1 h_27_4_2 h_27_4_3 h_27_4_4=>?_
            exact dj ⟨au,au,au,au,au⟩
           ·exact dj ⟨au,au,au,au,au⟩
          ·refine okD (fun c_9=>?_) (fun c_9=>?_)
           ·refine okG ?_ (by unfold dP;omega)
            refine okT (A:=fun v5=>(0:Int)<=0/\(0:Int)<=0) (B:=fun _=>False) ?_ (fun v5 h_v5=>?_) (fun _ h=>h.elim)
            ·refine Iw (fun(k:Nat) (v5:Int×Int×Int×Int)=>(0:Int)<=0/\(0:Int)<=0) ⟨au,au⟩ (fun z5 hz k v5 hk hI=>?_)
             obtain⟨i_0,i_1⟩:=hI
             unfold F.fQ
             refine okG ?_ (M.Bh l_b k_a (by decide))
             refine okL fun r12 er12=>?_
             refine okC (fun c_2=>?_) (fun c_2=>?_)
             ·exact fj ⟨au,au⟩
             ·exact fj ⟨au,au⟩
            ·obtain⟨v5_0,v5_1⟩:=h_v5
             exact dj ⟨au,au,au,au,au⟩
           ·refine okD (fun c_10=>?_) (fun c_10=>?_)
            ·exact dj ⟨au,au,au,au,au⟩
            ·exact dj ⟨au,au,au,au,au⟩
      ·obtain⟨e2_0,e2_1,e2_2,e2_3,e2_4⟩:=h_e2
       refine okG ?_ (by simp only[List.length_cons,List.length_nil,List.length_append,lim];omega)
       refine okG ?_ (by simp only[List.length_cons,List.length_nil,List.length_append,lim];omega)
       refine okG ?_ (M.qT (n:=1000) (by first | omega | (simp only[List.length_append,List.length_cons,List.length_nil];omega)) (by exact cl) (by decide))
       refine okL fun r13 er13=>?_
       refine okC (fun c_14=>?_) (fun c_14=>?_)
       ·refine okG ?_ (by simp only[List.length_cons,List.length_nil,List.length_append,lim];omega)
        exact fj ⟨k-1,by omega,au,au,au,au,au,au,au⟩
       ·exact fj ⟨k-1,by omega,au,au,au,au,au,au,au⟩
     ·refine okG ?_
      refine okG ?_
      refine az fun r5 h_12_3_0 h_12_3_1 h_12_3_2 h_12_3_3=>?_
      refine okG ?_
      refine okG ?_
      refine az fun r6 h_13_1_0 h_13_1_1 h_13_1_2 h_13_1_3=>?_
      refine okB (A:=fun e2=>v0.2.1<=e2.1/\e2.1<=v0.2.1+2000/\e2.2.2.2.2.2.1.length<=81/\(∀v∈e2.2.2.2.2.2.1,v.2.2.1.2.2.1.size<=20)/\e2.2.2.2.2.2.2.length<=3) ?_ (fun e2 h_e2=>?_)
      ·refine okW (fun(_:Nat) (_:Unit)=>True) (fun _ v2 _=>?_) 0 _ trivial
       unfold F.dS
       refine okD (fun c_3=>?_) (fun c_3=>?_)
       ·refine okG ?_
        refine okG ?_
        refine okG ?_ (M.lA rfl (M.lD k_a _) (by decide))
        refine okG ?_
        refine okG ?_
        refine okG ?_
        refine okG ?_
        refine okG ?_
        refine ee fun r7 h_15_6_0 h_15_6_1 h_15_6_2 h_15_6_3 h_15_6_4=>?_
        exact dj ⟨au,au,au,au,au⟩
       ·refine okD (fun c_4=>?_) (fun c_4=>?_)
        ·refine okG ?_
         refine okG ?_
         refine okG ?_
         refine az fun r8 h_18_1_0 h_18_1_1 h_18_1_2 h_18_1_3=>?_
         refine okB (A:=fun e3=>v0.2.1<=e3.1/\e3.1<=v0.2.1+30/\e3.2.length<=3) ?_ (fun e3 h_e3=>?_)
         ·refine okW (fun(k:Nat) (v3:Int×Int×(List Int))=>0<=v3.1+1/\v3.1+1<=(k:Int)/\(v3.2.2.length:Int)+v3.1<=2/\v0.2.1<=v3.2.1/\v3.2.1+v3.1<=v0.2.1+20) (fun k v3 hI=>?_) (3:Nat) _ ⟨au,au,au,au,au⟩
          obtain⟨i_0,i_1,i_2,i_3,i_4⟩:=hI
          unfold F.fU
          refine FL (fun c_0=>?_) (fun c_0=>?_)
          ·refine okG ?_
           refine okG ?_
           refine okD (fun c_1=>?_) (fun c_1=>?_)
           ·refine okG ?_
            refine okG ?_
            refine okG ?_
            refine az fun r9 h_21_8_0 h_21_8_1 h_21_8_2 h_21_8_3=>?_
            refine okG ?_ (by simp only[List.length_cons,List.length_nil,List.length_append,lim];omega)
            exact fj ⟨k-1,by omega,au,au,au,au,au⟩
           ·exact dj ⟨au,au,au⟩
          ·exact dj ⟨au,au,au⟩
         ·obtain⟨e3_0,e3_1,e3_2⟩:=h_e3
          exact dj ⟨au,au,au,au,au⟩
        ·refine okD (fun c_5=>?_) (fun c_5=>?_)
         ·refine okG ?_
          refine okG ?_
          refine okG ?_
          refine az fun r10 h_24_2_0 h_24_2_1 h_24_2_2 h_24_2_3=>?_
          refine okG ?_
          refine okG ?_
          refine okG ?_
          refine okG ?_
          refine okG ?_ (M.jl1 k_a)
          refine okG ?_ (M.jl2 k_a)
          refine okD (fun c_6=>?_) (fun c_6=>?_)
          ·refine okG ?_ (M.jl3 k_a)
           refine okG ?_
           refine okG ?_
           refine okG ?_
           refine okG ?_
           refine ee fun r11 h_27_4_0 h_27_4_1 h_27_4_2 h_27_4_3 h_27_4_4=>?_
           exact dj ⟨au,au,au,au,au⟩
          ·exact dj ⟨au,au,au,au,au⟩
         ·refine okD (fun c_7=>?_) (fun c_7=>?_)
          ·refine okG ?_
           refine okG ?_
           refine okG ?_
           refine az fun r10 h_24_2_0 h_24_2_1 h_24_2_2 h_24_2_3=>?_
           refine okG ?_
           refine okG ?_
           refine okG ?_
           refine okG ?_
           refine okG ?_ (M.jl1 k_a)
           refine okG ?_ (M.jl2 k_a)
           refine okD (fun c_8=>?_) (fun c_8=>?_)
           ·refine okG ?_ (M.jl3 k_a)
            refine okG ?_
            refine okG ?_
            refine okG ?_
            refine okG ?_
            refine ee fun r11 h_27_4_0 h_27_4_1 h_27_4_2 h_27_4_3 h_27_4_4=>?_
            exact dj ⟨au,au,au,au,au⟩
           ·exact dj ⟨au,au,au,au,au⟩
          ·refine okD (fun c_9=>?_) (fun c_9=>?_)
           ·refine okG ?_ (by unfold dP;omega)
            refine okT (A:=fun v5=>(0:Int)<=0/\(0:Int)<=0) (B:=fun _=>False) ?_ (fun v5 h_v5=>?_) (fun _ h=>h.elim)
            ·refine Iw (fun(k:Nat) (v5:Int×Int×Int×Int)=>(0:Int)<=0/\(0:Int)<=0) ⟨au,au⟩ (fun z5 hz k v5 hk hI=>?_)
             obtain⟨i_0,i_1⟩:=hI
             unfold F.fQ
             refine okG ?_ (M.Bh l_b k_a (by decide))
             refine okL fun r12 er12=>?_
             refine okC (fun c_2=>?_) (fun c_2=>?_)
             ·exact fj ⟨au,au⟩
             ·exact fj ⟨au,au⟩
            ·obtain⟨v5_0,v5_1⟩:=h_v5
             exact dj ⟨au,au,au,au,au⟩
           ·refine okD (fun c_10=>?_) (fun c_10=>?_)
            ·exact dj ⟨au,au,au,au,au⟩
            ·exact dj ⟨au,au,au,au,au⟩
      ·obtain⟨e2_0,e2_1,e2_2,e2_3,e2_4⟩:=h_e2
       refine okG ?_ (by simp only[List.length_cons,List.length_nil,List.length_append,lim];omega)
       refine okG ?_ (by simp only[List.length_cons,List.length_nil,List.length_append,lim];omega)
       refine okG ?_ (M.qT (n:=1000) (by first | omega | (simp only[List.length_append,List.length_cons,List.length_nil];omega)) (by exact cl) (by decide))
       refine okL fun r13 er13=>?_
       refine okC (fun c_15=>?_) (fun c_15=>?_)
       ·refine okG ?_ (by simp only[List.length_cons,List.length_nil,List.length_append,lim];omega)
        exact fj ⟨k-1,by omega,au,au,au,au,au,au,au⟩
       ·exact fj ⟨k-1,by omega,au,au,au,au,au,au,au⟩
   ·exact El ⟨au,au,au,au,au⟩
  ·obtain⟨e0_0,e0_1,e0_2,e0_3,e0_4⟩:=h_e0
   exact qa
  ·obtain⟨q0_0,q0_1,q0_2,q0_3,q0_4⟩:=h_q0
   exact qa
theorem F.xj (b:(List Int)) (p:Int) (tables:LTb) (h_b:Sm (Ty.sl (Ty.int .u8)) b) (h_tables:Sm (Ty.sl aq) tables) (p0:M.ax b) (p1:0<=p) (p2:p<=995000000000000) (p3:(∀t∈tables,M.hU t)):F.jb b p tables=some (M.jV b p tables):=gY (F.pX b p tables h_b h_tables p0 p1 p2 p3)
theorem M.Bj (b:(List Int)) (p:Int) (tables:LTb) (h_b:Sm (Ty.sl (Ty.int .u8)) b) (h_tables:Sm (Ty.sl aq) tables) (p0:M.ax b) (p1:0<=p) (p2:p<=995000000000000) (p3:(∀t∈tables,M.hU t)):(M.jV b p tables).1.length<=6/\1<=(M.jV b p tables).1.length/\(∀s∈(M.jV b p tables).1,M.eL s)/\p<=(M.jV b p tables).2/\(M.jV b p tables).2<=p+100000:=gU (F.pX b p tables h_b h_tables p0 p1 p2 p3)
theorem vI {α:Type} {K:α->Prop} {f:LS×Int->Option α} {b:(List Int)} {p:Int} {tables:LTb} (k:∀r,(r.1.length<=6)->(1<=r.1.length)->(∀s∈r.1,M.eL s)->(p<=r.2)->(r.2<=p+100000)->ok (f r) K) (h_b:Sm (Ty.sl (Ty.int .u8)) b:=by exact au) (h_tables:Sm (Ty.sl aq) tables:=by exact au) (p0:M.ax b:=by exact au) (p1:0<=p:=by exact au) (p2:p<=995000000000000:=by exact au) (p3:(∀t∈tables,M.hU t):=by exact au):ok (aJ (M.jV b p tables) f) K:=by
 have h:=M.Bj b p tables h_b h_tables p0 p1 p2 p3
 obtain⟨h0,h1,h2,h3,h4⟩:=h
 exact k _ h0 h1 h2 h3 h4
theorem F.pW (b:(List Int)) (p:Int) (n:Int) (h_b:Sm (Ty.sl (Ty.int .u8)) b) (p0:M.ax b) (p1:0<=p) (p2:p<=994000000000000):ok (F.jn b p n) (fun r=>r.1.length<=6/\1<=r.1.length/\(∀t∈r.1,M.hU t)/\r.2.1.length<=6/\(∀s∈r.2.1,M.eL s)/\p<=r.2.2/\r.2.2<=p+200000):=by
  unfold F.jn
  refine okG ?_
  refine mF fun r1 h_1_1_0 h_1_1_1 h_1_1_2 h_1_1_3 h_1_1_4 h_1_1_5 h_1_1_6=>?_
  have q_a:=h_1_1_5 (by decide)
  have q_b:=h_1_1_6 (by decide)
  refine okG ?_
  refine okG ?_
  refine okG ?_
  refine okG ?_
  refine vI fun r2 h_2_2_0 h_2_2_1 h_2_2_2 h_2_2_3 h_2_2_4=>?_
  refine okG ?_
  refine okG ?_
  refine iU fun r3 h_3_2_0 h_3_2_1 h_3_2_2=>?_
  refine okC (fun c_0=>?_) (fun c_0=>?_)
  ·refine okG ?_
   refine okG ?_
   refine az fun r4 h_4_1_0 h_4_1_1 h_4_1_2 h_4_1_3=>?_
   refine okD (fun c_1=>?_) (fun c_1=>?_)
   ·exact BR
   ·refine okD (fun c_2=>?_) (fun c_2=>?_)
    ·refine okG ?_
     refine okG ?_
     refine az fun r5 h_9_4_0 h_9_4_1 h_9_4_2 h_9_4_3=>?_
     refine okG ?_
     refine okG ?_
     refine az fun r6 h_9_6_0 h_9_6_1 h_9_6_2 h_9_6_3=>?_
     have s_a:=M.Jg (k:=r5.1.toNat) (i:=r5.1) (v:=wrap64 (r6.1-(1:Int))) h_2_2_2
     refine okG ?_
     refine okG ?_
     refine okL fun y1 ey1=>?_
     subst ey1
     exact BR
    ·refine okD (fun c_3=>?_) (fun c_3=>?_)
     ·refine okG ?_
      refine okG ?_
      refine az fun r7 h_11_4_0 h_11_4_1 h_11_4_2 h_11_4_3=>?_
      refine okG ?_
      refine okG ?_
      refine az fun r8 h_11_6_0 h_11_6_1 h_11_6_2 h_11_6_3=>?_
      have s_b:=M.Jb (k:=r7.1.toNat) (i:=r7.1) (v:=r8.1) h_2_2_2
      refine okG ?_
      refine okG ?_
      exact BR
     ·refine okG ?_
      refine okG ?_
      refine mF fun r9 h_5_1_0 h_5_1_1 h_5_1_2 h_5_1_3 h_5_1_4 h_5_1_5 h_5_1_6=>?_
      exact BR
  ·exact BR
theorem F.wI (b:(List Int)) (p:Int) (n:Int) (h_b:Sm (Ty.sl (Ty.int .u8)) b) (p0:M.ax b) (p1:0<=p) (p2:p<=994000000000000):F.jn b p n=some (M.ga b p n):=gY (F.pW b p n h_b p0 p1 p2)
theorem M.Bv (b:(List Int)) (p:Int) (n:Int) (h_b:Sm (Ty.sl (Ty.int .u8)) b) (p0:M.ax b) (p1:0<=p) (p2:p<=994000000000000):(M.ga b p n).1.length<=6/\1<=(M.ga b p n).1.length/\(∀t∈(M.ga b p n).1,M.hU t)/\(M.ga b p n).2.1.length<=6/\(∀s∈(M.ga b p n).2.1,M.eL s)/\p<=(M.ga b p n).2.2/\(M.ga b p n).2.2<=p+200000:=gU (F.pW b p n h_b p0 p1 p2)
theorem nW {α:Type} {K:α->Prop} {f:LTb×LS×Int->Option α} {b:(List Int)} {p:Int} {n:Int} (k:∀r,(r.1.length<=6)->(1<=r.1.length)->(∀t∈r.1,M.hU t)->(r.2.1.length<=6)->(∀s∈r.2.1,M.eL s)->(p<=r.2.2)->(r.2.2<=p+200000)->ok (f r) K) (h_b:Sm (Ty.sl (Ty.int .u8)) b:=by exact au) (p0:M.ax b:=by exact au) (p1:0<=p:=by exact au) (p2:p<=994000000000000:=by exact au):ok (aJ (M.ga b p n) f) K:=by
 have h:=M.Bv b p n h_b p0 p1 p2
 obtain⟨h0,h1,h2,h3,h4,h5,h6⟩:=h
 exact k _ h0 h1 h2 h3 h4 h5 h6
theorem F.jf (code:(List Int)) (h_code:Sm (Ty.sl (Ty.int .u8)) code) (p0:M.ax code):ok (F.dY code) (fun r=>r.1.length<=6/\1<=r.1.length/\(∀t∈r.1,M.hU t)/\r.2.length<=6/\(∀s∈r.2,M.eL s)):=by
  unfold F.dY
  refine okD (fun c_0=>?_) (fun c_0=>?_)
  ·refine okG ?_
   refine okG ?_
   refine okG ?_
   refine okG ?_
   refine okG ?_
   refine nW fun r1 h_1_2_0 h_1_2_1 h_1_2_2 h_1_2_3 h_1_2_4 h_1_2_5 h_1_2_6=>?_
   exact qa
  ·refine okG ?_
   refine okG ?_
   refine nW fun r1 h_1_2_0 h_1_2_1 h_1_2_2 h_1_2_3 h_1_2_4 h_1_2_5 h_1_2_6=>?_
   exact qa
theorem F.oJ (code:(List Int)) (h_code:Sm (Ty.sl (Ty.int .u8)) code) (p0:M.ax code):F.dY code=some (M.cw code):=gY (F.jf code h_code p0)
theorem M.lf (code:(List Int)) (h_code:Sm (Ty.sl (Ty.int .u8)) code) (p0:M.ax code):(M.cw code).1.length<=6/\1<=(M.cw code).1.length/\(∀t∈(M.cw code).1,M.hU t)/\(M.cw code).2.length<=6/\(∀s∈(M.cw code).2,M.eL s):=gU (F.jf code h_code p0)
theorem AX {α:Type} {K:α->Prop} {f:LTb×LS->Option α} {code:(List Int)} (k:∀r,(r.1.length<=6)->(1<=r.1.length)->(∀t∈r.1,M.hU t)->(r.2.length<=6)->(∀s∈r.2,M.eL s)->ok (f r) K) (h_code:Sm (Ty.sl (Ty.int .u8)) code:=by exact au) (p0:M.ax code:=by exact au):ok (aJ (M.cw code) f) K:=by
 have h:=M.lf code h_code p0
 obtain⟨h0,h1,h2,h3,h4⟩:=h
 exact k _ h0 h1 h2 h3 h4
theorem F.Ab (row:LV) (h_row:Sm (Ty.sl aa) row):F.sJ row=some (M.nY row):=by
 unfold F.sJ M.nY
 rw[iX M.aP () (fun x _=>by simp only[F.jX,oc,de]<;>rfl),show decide ((row.length:Int)<=4)=decide (row.length<=4) from decide_eq_decide.2 (by omega)]
 cases row.all M.aP<;>simp
theorem F.wM (columns:LC) (row:LV) (h_columns:Sm (Ty.sl ag) columns) (h_row:Sm (Ty.sl aa) row):F.ow columns row=some (M.cq columns row):=by
 unfold F.ow M.cq
 cases M.bA columns
 ·rfl
 cases M.nY row
 ·rfl
 by_cases hl:row.length=columns.length
 ·rw[iX (M.sM columns row) () (fun i hi=>by
   obtain⟨h0,h1⟩:=dV.1 hi
   have h2:i<(columns.length:Int):=by omega
   simp only[F.iF,ah h2]
   unfold M.sM
   cases decide ((nth (t:=aa) row i).1=(nth (t:=ag) columns i).1)<;>cases decide ((nth (t:=aa) row i).1=(0:Int))<;>cases (nth (t:=ag) columns i).2.1<;>rfl)]
  simp only[hl,Bool.not_true,decide_true,Bool.true_and,cond_true,cond_false]
  cases (aM 0 (columns.length:Int)).all (M.sM columns row)<;>rfl
 ·have h3:¬(row.length:Int)=(columns.length:Int):=by omega
  simp[hl,h3]
theorem F.zv (columns:LC) (rows:LLV) (h_columns:Sm (Ty.sl ag) columns) (h_rows:Sm (Ty.sl (Ty.sl aa)) rows):F.qP columns rows=some (M.fX columns rows):=by
 unfold F.qP M.fX
 rw[iX (M.cq columns) () (fun x _=>by simp only[F.je,oc,de])]
 cases rows.all (M.cq columns)<;>simp
theorem F.uQ (tables:LTb) (h_tables:Sm (Ty.sl aq) tables):F.ni tables=some (M.ck tables):=by
 unfold F.ni M.ck
 rw[iX M.cW () (fun x _=>by
  simp only[F.gR]
  unfold M.cW
  by_cases h:x.2.1.length<=6
  ·have h2:¬(6:Int)<(x.2.1.length:Int):=by omega
   simp only[h2,h,decide_true,decide_false,Bool.true_and]
   cases M.fX x.1 x.2.1<;>rfl
  ·have h2:(6:Int)<(x.2.1.length:Int):=by omega
   simp[h2,h]),show decide ((tables.length:Int)<=3)=decide (tables.length<=3) from decide_eq_decide.2 (by omega)]
 cases tables.all M.cW<;>simp
theorem F.zh (tables:LTb) (plan:LS) (h_tables:Sm (Ty.sl aq) tables) (h_plan:Sm (Ty.sl aj) plan):F.qO tables plan=some (M.bQ tables plan):=by
 unfold F.qO M.bQ
 rw[bH]
 cases (M.cY tables plan).2<;>cases M.ck tables<;>rfl
theorem F.sY (tables:LTb) (plan:LS) (h_tables:Sm (Ty.sl aq) tables) (h_plan:Sm (Ty.sl aj) plan):F.kY tables plan=some (M.br tables plan):=by
 unfold F.kY M.br
 cases hp:M.bQ tables plan
 ·rfl
 have p0:=M.gB hp
 have ht:∀k:Int,0<=k->k<(plan.length:Int)->(nth (t:=aj) plan k).1=(1:Int)->0<=(nth (t:=aj) plan k).2.2.2.1/\(nth (t:=aj) plan k).2.2.2.1<(tables.length:Int):=fun k k0 k1 hk=>M.pK hp (iq (t:=aj) k0 k1) hk
 have hl:=h_plan.1
 have htl:=h_tables.1
 have hw:wrap64 ((plan.length:Int)-(1:Int))=(plan.length:Int)-1:=fD _ hl
 have h0:=p0.1
 simp only[Bool.not_true,cond_true,cond_false,bH]
 rw[hw,ah (by omega),ah (by simp;omega)]
 have e1:(plan.length:Int).toNat=plan.length:=by simp
 have e2:((plan.length:Int)-1).toNat=plan.length-1:=by omega
 have e3:(tables.length:Int).toNat=tables.length:=by simp
 have hrun:=M.wv (f:=F.ez tables plan) (M.eI plan) (fun u=>u.2) (fun u:List Bool×List Bool=>u.1.length=plan.length/\u.2.length=tables.length) plan.length (fun k v k0 k1 hI=>by
   obtain⟨u,a⟩:=v
   obtain⟨hI,hA⟩:=hI
   replace hI:u.length=plan.length:=hI
   replace hA:a.length=tables.length:=hA
   refine⟨?_,?_⟩
   ·unfold F.ez M.eI M.bL
    have hin:=p0.2 k k0 k1
    have hu:k<(u.length:Int):=by rw[hI];exact k1
    simp only
    rw[decide_eq_true k0,cond_true,ah k0,ah k1,ah hu,aI (n:=k-1) (by omega) (by omega)]
    cases nth (t:=.bool) u k
    ·rfl
    by_cases h1:(nth (t:=aj) plan k).1=(1:Int)
    ·obtain⟨t0,t1⟩:=ht k k0 k1 h1
     rw[decide_eq_true h1,ah t0,ah (by rw[hA];exact t1)]
     rfl
    obtain⟨⟨a0,a1⟩,⟨b0,b1⟩⟩:=hin h1
    have a2:(nth (t:=aj) plan k).2.1<(u.length:Int):=by rw[hI];exact Int.lt_trans a1 k1
    have b2:(nth (t:=aj) plan k).2.2.1<((u.set (nth (t:=aj) plan k).2.1.toNat true).length:Int):=by rw[List.length_set,hI];exact Int.lt_trans b1 k1
    rw[decide_eq_false h1]
    simp only[Bool.not_false,Bool.not_true,Bool.and_true,Bool.and_false,cond_true,cond_false,bH,show ((true:Bool)==true)=true from rfl]
    rw[ah a0,ah a2,ah b0,ah b2]
    have hsame:=M.GJ (t:=.bool) (u:=u.set (nth (t:=aj) plan k).2.1.toNat true) b0 b2
    unfold M.two
    cases hb:nth (t:=.bool) (u.set (nth (t:=aj) plan k).2.1.toNat true) (nth (t:=aj) plan k).2.2.1 with
    | false=>
     rw[hb] at hsame
     cases decide ((nth (t:=aj) plan k).1=(4:Int))<;>cases decide ((nth (t:=aj) plan k).1=(5:Int))<;>simp[hsame]
    | true=>
     rw[hb] at hsame
     cases decide ((nth (t:=aj) plan k).1=(4:Int))<;>cases decide ((nth (t:=aj) plan k).1=(5:Int))<;>simp[hsame]
   ·refine⟨by show (M.bL plan k u).length=_;rw[M.lq];exact hI,?_⟩
    show (cond _ _ a).length=_
    cases (nth (t:=.bool) (u,a).1 k&&decide ((nth (t:=aj) plan k).1=(1:Int))) with
    | false=>exact hA
    | true=>show (List.set _ _ _).length=_;rw[List.length_set];exact hA) (fun u hI=>rfl) plan.length ((List.replicate plan.length false).set (plan.length-1) true,List.replicate tables.length false) (Nat.le_refl _) ⟨by simp,by simp⟩
 obtain⟨h1,_,h2⟩:=hrun
 rw[e1,e2,e3,h1]
 show bu (aL (F.eC tables plan (M.asked tables.length plan)) _ _) _ _=_
 replace h2:(M.asked tables.length plan).length=tables.length:=h2
 rw[M.yL (fun k=>nth (t:=.bool) (M.asked tables.length plan) k) (fun k=>k) (tables.length:Int) (fun i s i0 i1 hs=>by
  unfold F.eC
  rw[ah (by rw[h2];exact i1),ah (by unfold lim;simp;omega)]
  cases nth (t:=.bool) (M.asked tables.length plan) i<;>rfl),aO,M.CV]
theorem F.zc (list:(List Int)) (n:Int) (h_list:Sm (Ty.sl (Ty.int .i64)) list):F.qI list n=some (decide (n∈list)):=by
 unfold F.qI
 rw[M.Ct (f:=F.jo list n) (n:=n) (fun z=>rfl)]
 cases decide (n∈list)<;>rfl
theorem F.qh (code:(List Int)) (h_code:Ln (Ty.sl (Ty.int .u8)) code) (p0:M.ax code):F.jh code=some true:=by
 unfold F.jh
 by_cases hc:(1048576:Int)<(code.length:Int)
 ·rw[decide_eq_true hc]
  rfl
 rw[decide_eq_false hc,cond_false]
 have hs:Sm (.sl (.int .u8)) code:=⟨by omega,fun _ _=>trivial⟩
 rw[ah hs,bH]
 obtain⟨d0,d1,d2,d3,d4⟩:=M.lf code hs p0
 generalize M.cw code=r at *
 obtain⟨ts,plan⟩:=r
 simp only at d0 d1 d2 d3 d4 ⊢
 have st:Sm (.sl aq) ts:=M.EL d0 d2 (by decide)
 have sp:Sm (.sl aj) plan:=M.qT d3 d4 (by decide)
 simp only[bH,M.oA]
 rw[ah st,ah sp]
 have sI:Sm (.sl (.int .i64)) (M.br ts plan):=M.zF st
 have hl:aL (F.dL code ts plan (M.br ts plan)) (aM (0:Int) (ts.length:Int)) []=some (.inl (M.others ts (M.br ts plan))):=by
  refine M.Au (fun k=>cond (decide (k∈M.br ts plan)) (nth (t:=aq) ts k) ((nth (t:=aq) ts k).1,([],()))) _ _ (fun z hz v hv=>?_)
  have hv2:v.length<6:=by
   have e:(aM (0:Int) (ts.length:Int)).length=ts.length:=by simp[aM]
   rw[e] at hv
   simp only[List.length_nil] at hv
   omega
  unfold F.dL
  rw[ah sI]
  cases decide (z∈M.br ts plan) with
  | true=>rw[cond_true,ah (by simp only[List.length_cons,List.length_nil,lim];omega)];rfl
  | false=>rw[cond_false,ah (by simp only[List.length_cons,List.length_nil,lim];omega)];rfl
 rw[ah sI,ah sI,M.qJ]
 simp only[Bool.not_true,cond_false]
 rw[ah (show (ts.length:Int)<=dP by unfold dP;omega),hl,aO]
 cases h:M.bQ ts plan with
 | false=>
  rw[M.wQ h]
  rfl
 | true=>
  rw[decide_eq_true (show (0:Int)<((M.br ts plan).length:Int) by have:=M.xh h;omega)]
  have so:Sm (.sl aq) (M.others ts (M.br ts plan)):=M.Fs _ st
  have sr:Sm (.sl (.sl aa)) (M.dm ts plan):=Cx st sp
  simp only[Bool.not_true,cond_false,show ((true:Bool)==true)=true from rfl,cond_true]
  rw[ah so,M.Cb h,ah sr,ah sr,ah rfl]
end Go.AE
