/- What the functions compute is what is said. -/
import Derived.Test.YtiplhefglgpdoaaGreatAeF
import Derived.Test.YtiplhefglgpdoaaGreatAeY
import Derived.Test.YtiplhefglgpdoaaGreatAeEqI
import Derived.Test.YtiplhefglgpdoaaGreatAeEqR
import Derived.Test.YtiplhefglgpdoaaGreatAeRT
import Derived.Test.YtiplhefglgpdoaaGreatAeMV
import Derived.Test.YtiplhefglgpdoaaGreatAeRT
import Derived.Test.YtiplhefglgpdoaaGreatAeEqI
namespace Go.AE
open Go Go.RowKit
set_option linter.unusedVariables false
set_option linter.unusedSimpArgs false
set_option maxHeartbeats 2000000
theorem F.xB (n:Int) (low:Int) (high:Int)  : F.pM n low high=some (M.inR n low high):=by
 unfold F.pM M.inR
 cases decide (low<=n)<;>rfl
theorem F.xu (s:ByteArray) (h_s:Sm Ty.str s):F.oT s=some (M.lower (bU s)):=by
 unfold F.oT M.lower
 rw[jh (fun n=>M.inR n 97 122) () (fun x hx=>by
  obtain⟨h0,h1⟩:=Ht hx
  simp only[F.iR,jJ,cF,aI (n:=x) (by omega) (by omega)])]
 cases (bU s).all fun n=>M.inR n 97 122<;>rfl
theorem F.wk (v:aa.D) (h_v:Sm aa v):F.nE v=some (M.aS v):=by
 unfold F.nE M.aS M.text
 simp only[jT]
 rw[show decide ((v.2.2.1.size:Int)<=6)=decide (v.2.2.1.size<=6) from decide_eq_decide.2 (by omega)]
 simp only[Ty.beq]
 cases h0:decide (v.1=(0:Int))
 ·generalize decide (v.1=(1:Int))=b1
  generalize decide (v.1=(2:Int))=b2
  generalize decide (v.1=(3:Int))=b3
  generalize decide (v.2.1=(0:Int))=c0
  generalize decide (v.2.2.1.size<=6)=c6
  generalize M.inR v.2.1 (-9999) 9999=c1
  generalize M.inR v.2.1 0 1=c3
  generalize decide (v.2.2.1=M.none_)=e0
  cases b1<;>cases b2<;>cases b3<;>cases c0<;>cases c6<;>cases c1<;>cases c3<;>cases e0<;>rfl
 ·simp only[cond_true,Bool.true_and,Bool.and_true]
theorem F.xz (v:aa.D) (h_v:Sm aa v):F.uG v=some (M.aS v):=by
 rfl
theorem F.Aj   : F.tB  = some true:=by
 unfold F.tB
 rw[show M.aS ((1:Int),((3:Int),((⟨#[]⟩:ByteArray),())))=true from rfl,show M.aS ((9:Int),((0:Int),((⟨#[]⟩:ByteArray),())))=false from rfl]
 rfl
theorem F.tV (a:LPt) (b:LPt) (h_a:Sm (Ty.sl ax) a) (h_b:Sm (Ty.sl ax) b) (p0:a=b):F.mu a b=some true:=by
 subst p0
 unfold F.mu
 exact M.eq_eq (fun i h0 h1=>by
  unfold F.gq
  rw[ai h1,(beq_iff (t:=ax) rfl _ _).2 rfl]
  rfl)
theorem F.vF (a:(List Int)) (b:(List Int)) (h_a:Sm (Ty.sl (Ty.int .i64)) a) (h_b:Sm (Ty.sl (Ty.int .i64)) b) (p0:a=b):F.oh a b=some true:=by
 subst p0
 unfold F.oh
 exact M.eq_eq (fun i h0 h1=>by
  unfold F.gR
  rw[ai h1]
  simp only[decide_true,Bool.not_true,show ((false:Bool)==false)=true from rfl,cond_true,cond_false,eq_self,M.jb])
theorem F.uF (a:LS) (b:LS) (h_a:Sm (Ty.sl ah) a) (h_b:Sm (Ty.sl ah) b) (p0:a=b):F.mA a b=some true:=by
 subst p0
 unfold F.mA
 exact M.eq_eq (fun i h0 h1=>by
  unfold F.gj
  rw[ai h1]
  simp only[decide_true,Bool.not_true,show ((false:Bool)==false)=true from rfl,cond_true,cond_false,eq_self,M.jb])
theorem F.si (c:ag.D)  : F.oS c=some (!M.eg c):=by
 rfl
theorem F.kG (xs:LC) (h_xs:Sm (Ty.sl ag) xs):F.gN xs=some (M.idx (t:=ag) (fun e=>!M.eg e) xs):=by
 exact jx (t:=ag) (p:=(fun e=>!M.eg e)) (fun i h0 h1=>by simp only[F.cP,cF])
theorem F.jo (xs:LC) (h_xs:Sm (Ty.sl ag) xs):F.dL xs=some (List.any xs (fun e=>!M.eg e)):=by
 unfold F.dL
 exact fU (t:=ag)
theorem F.va (columns:LC) (h_columns:Sm (Ty.sl ag) columns):F.mM columns=some (M.bA columns):=by
 unfold F.mM M.bA
 rw[jT,show decide ((columns.length:Int)<=4)=decide (columns.length<=4) from decide_eq_decide.2 (by omega)]
 rw[List.all_eq_not_any_not]
theorem F.xG (v:aa.D) (h_v:Sm aa v):F.tT v=some (!M.aS v):=by
 rfl
theorem F.mW (xs:LV) (h_xs:Sm (Ty.sl aa) xs):F.ji xs=some (M.idx (t:=aa) (fun e=>!M.aS e) xs):=by
 exact jx (t:=aa) (p:=(fun e=>!M.aS e)) (fun i h0 h1=>by simp only[F.dn,cF])
theorem F.lC (xs:LV) (h_xs:Sm (Ty.sl aa) xs):F.eM xs=some (List.any xs (fun e=>!M.aS e)):=by
 unfold F.eM
 exact fU (t:=aa)
theorem F.Ab (row:LV) (h_row:Sm (Ty.sl aa) row):F.tv row=some (M.ow row):=by
 unfold F.tv M.ow
 rw[jT,show decide ((row.length:Int)<=4)=decide (row.length<=4) from decide_eq_decide.2 (by omega)]
 rw[List.all_eq_not_any_not]
theorem F.xp (columns:LC) (row:LV) (h_columns:Sm (Ty.sl ag) columns) (h_row:Sm (Ty.sl aa) row):F.qf columns row=some (M.cG columns row):=by
 unfold F.qf M.cG
 cases M.bA columns
 ·rfl
 cases M.ow row
 ·rfl
 by_cases hl:row.length=columns.length
 ·rw[jh (M.sZ columns row) () (fun i hi=>by
   obtain⟨h0,h1⟩:=jQ.1 hi
   have h2:i<(columns.length:Int):=by omega
   simp only[F.iN,ai h2]
   unfold M.sZ
   cases decide ((nth (t:=aa) row i).1=(nth (t:=ag) columns i).1)<;>cases decide ((nth (t:=aa) row i).1=(0:Int))<;>cases (nth (t:=ag) columns i).2.1<;>rfl)]
  simp only[hl,Bool.not_true,decide_true,Bool.true_and,cond_true,cond_false]
  cases (aY 0 (columns.length:Int)).all (M.sZ columns row)<;>rfl
 ·have h3:¬(row.length:Int)=(columns.length:Int):=by omega
  simp[hl,h3]
theorem F.vE (r:LV) (columns:LC) (h_r:Sm (Ty.sl aa) r) (h_columns:Sm (Ty.sl ag) columns):F.sB r columns=some (!M.cG columns r):=by
 rfl
theorem F.mo (xs:LLV) (k0:LC) (h_xs:Sm (Ty.sl (Ty.sl aa)) xs) (h_k0:Sm (Ty.sl ag) k0):F.jd xs k0=some (M.idx (t:=(Ty.sl aa)) (fun e=>!M.cG k0 e) xs):=by
 exact jx (t:=(Ty.sl aa)) (p:=(fun e=>!M.cG k0 e)) (fun i h0 h1=>by simp only[F.dg,cF])
theorem F.kL (xs:LLV) (k0:LC) (h_xs:Sm (Ty.sl (Ty.sl aa)) xs) (h_k0:Sm (Ty.sl ag) k0):F.eJ xs k0=some (List.any xs (fun e=>!M.cG k0 e)):=by
 unfold F.eJ
 exact fU (t:=(Ty.sl aa))
theorem F.yy (columns:LC) (rows:LLV) (h_columns:Sm (Ty.sl ag) columns) (h_rows:Sm (Ty.sl (Ty.sl aa)) rows):F.rq columns rows=some (M.fO columns rows):=by
 unfold F.rq M.fO
 rw[jT,List.all_eq_not_any_not]
theorem F.tj (t:az.D) (h_t:Sm az t):F.lz t=some (!M.cQ t):=by
 unfold F.lz M.cQ
 cases hc:M.bA t.1
 ·have:M.fO t.1 t.2.1=false:=by unfold M.fO;rw[hc];rfl
  rw[this]
  simp
 by_cases h:t.2.1.length<=6
 ·have h2:¬(6:Int)<(t.2.1.length:Int):=by omega
  simp[h2,h]
 ·have h2:(6:Int)<(t.2.1.length:Int):=by omega
  simp[h2,h]
theorem F.kX (xs:LTb) (h_xs:Sm (Ty.sl az) xs):F.ir xs=some (M.idx (t:=az) (fun e=>!M.cQ e) xs):=by
 exact jx (t:=az) (p:=(fun e=>!M.cQ e)) (fun i h0 h1=>by simp only[F.cW,cF])
theorem F.jF (xs:LTb) (h_xs:Sm (Ty.sl az) xs):F.dX xs=some (List.any xs (fun e=>!M.cQ e)):=by
 unfold F.dX
 exact fU (t:=az)
theorem F.wo (tables:LTb) (h_tables:Sm (Ty.sl az) tables):F.nK tables=some (M.bX tables):=by
 unfold F.nK M.bX
 rw[jT,show decide ((tables.length:Int)<=3)=decide (tables.length<=3) from decide_eq_decide.2 (by omega)]
 rw[List.all_eq_not_any_not]
theorem F.sG (p:ax.D) (h_p:Sm ax p):F.lB p=some (M.takes p):=by
 unfold F.lB M.takes
 generalize decide (p.1=(3:Int))=c3
 generalize decide (p.1=(4:Int))=c4
 generalize decide (p.1=(5:Int))=c5
 generalize decide (p.1=(6:Int))=c6
 generalize decide (p.1=(7:Int))=c7
 generalize decide (p.1=(8:Int))=c8
 cases c3<;>cases c4<;>cases c5<;>cases c6<;>cases c7<;>cases c8<;>rfl
theorem F.tA (p:ax.D) (columns:LC) (h_p:Sm ax p) (h_columns:Sm (Ty.sl ag) columns):F.ld p columns=some (M.lH p columns):=by
 unfold F.ld M.lH M.noV
 rw[gX _ h_columns.1]
 simp only[jT,show Ty.beq aa p.2.2.1 ((0:Int),(0:Int),(⟨#[]⟩:ByteArray),())=Ty.beq aa p.2.2.1 M.zeroV from rfl]
 generalize Ty.beq aa p.2.2.1 M.zeroV=nv
 by_cases e1:p.1=(1:Int)
 ·simp only[e1,decide_true,cond_true]
 by_cases e2:p.1=(2:Int)
 ·simp only[e2,decide_true,cond_true,Int.reduceEq,decide_false,cond_false]
 by_cases e4:p.1=(4:Int)
 ·simp only[e4,decide_true,cond_true,Int.reduceEq,decide_false,cond_false]
 by_cases e3:p.1=(3:Int)
 ·simp only[e3,decide_true,cond_true,Int.reduceEq,decide_false,cond_false]
  rfl
 by_cases e5:p.1=(5:Int)
 ·simp only[e5,decide_true,cond_true,Int.reduceEq,decide_false,cond_false]
  rfl
 by_cases e6:p.1=(6:Int)
 ·simp only[e6,decide_true,cond_true,Int.reduceEq,decide_false,cond_false]
  rfl
 by_cases e7:p.1=(7:Int)
 ·simp only[e7,decide_true,cond_true,Int.reduceEq,decide_false,cond_false]
  rfl
 by_cases e8:p.1=(8:Int)
 ·simp only[e8,decide_true,cond_true,Int.reduceEq,decide_false,cond_false]
  rfl
 simp only[e1,e2,e3,e4,e5,e6,e7,e8,decide_false,cond_false,Fm e3 e4 e5 e6 e7 e8]
theorem F.qw (k:Int) (kind:Int)  : F.mh k kind=some (!decide (k=kind)):=by
 rfl
theorem F.jE (xs:(List Int)) (k0:Int) (h_xs:Sm (Ty.sl (Ty.int .i64)) xs):F.fV xs k0=some (M.idx (t:=(Ty.int .i64)) (fun e=>!decide (e=k0)) xs):=by
 exact jx (t:=(Ty.int .i64)) (p:=(fun e=>!decide (e=k0))) (fun i h0 h1=>by simp only[F.cH,cF])
theorem F.iW (xs:(List Int)) (k0:Int) (h_xs:Sm (Ty.sl (Ty.int .i64)) xs):F.dm xs k0=some (List.any xs (fun e=>!decide (e=k0))):=by
 unfold F.dm
 exact fU (t:=(Ty.int .i64))
theorem F.sj (kind:Int) (ins:(List Int)) (h_ins:Sm (Ty.sl (Ty.int .i64)) ins):F.jL kind ins=some (List.all ins (fun k=>decide (k=kind))):=by
 unfold F.jL
 rw[List.all_eq_not_any_not]
theorem F.uM (p:ax.D) (columns:LC) (inp:(List Int)) (h_p:Sm ax p) (h_columns:Sm (Ty.sl ag) columns) (h_inp:Sm (Ty.sl (Ty.int .i64)) inp) (p0:M.lH p columns=true) (p1:(inp.length:Int)=M.takes p):F.mC p columns inp=some (M.cT p columns inp):=by
 unfold F.mC M.cT
 obtain⟨_,hc⟩:=zI p0
 by_cases e1:p.1=(1:Int)
 ·simp only[e1,decide_true,cond_true]
 by_cases e2:p.1=(2:Int)
 ·obtain⟨c0,c1⟩:=hc e2
  simp only[e2,decide_true,cond_true,Int.reduceEq,decide_false,cond_false]
  rw[ai c0,ai c1]
 by_cases e4:p.1=(4:Int)
 ·rw[jI (.inr (.inl e4))] at p1
  simp only[e4,decide_true,cond_true,Int.reduceEq,decide_false,cond_false]
  repeat rw[ai (by omega)]
 cases decide (p.1=(3:Int))<;>cases decide (p.1=(8:Int))<;>simp[e1,e2,e4]
theorem F.vK (columns:LC) (e:LPt) (h_columns:Sm (Ty.sl ag) columns) (h_e:Sm (Ty.sl ax) e):F.nZ columns e=some (M.bu columns e):=by
 unfold F.nZ M.bu
 cases M.bA columns
 ·rfl
 by_cases hl:e.length<=12
 ·rw[decide_eq_false (show ¬(12:Int)<(e.length:Int) by omega),decide_eq_true hl]
  rw[sn e [] (by simp;omega)]
  cases M.ig columns e [] with
  | none=>rfl
  | some s=>
   match s with
   | []=>rfl
   | [a]=>exact ai (by simp)
   | a::b::l=>
    have:¬((a::b::l).length:Int)=1:=by simp;omega
    simp only[this,decide_false]
    rfl
 ·rw[decide_eq_true (show (12:Int)<(e.length:Int) by omega),decide_eq_false hl]
  rfl
theorem F.wB (xs:LC) (h_xs:Sm (Ty.sl ag) xs):F.sC xs=some xs:=by
 exact M.rP (t:=ag)
theorem F.tg (s:ah.D) (h_s:Sm ah s):F.kY s=some (M.cr s):=by
 unfold F.kY M.cr M.two
 generalize decide (s.2.1=(0:Int))=a0
 generalize decide (s.2.2.1=(0:Int))=b0
 generalize decide (s.2.2.2.1=(0:Int))=n0
 generalize decide ((s.2.2.2.2.1.length:Int)=(0:Int))=e0
 generalize decide ((s.2.2.2.2.2.1.length:Int)=(0:Int))=l0
 by_cases h1:s.1=(1:Int)
 ·simp only[h1,Int.reduceEq,decide_true,decide_false]
  cases a0<;>cases b0<;>cases n0<;>cases e0<;>cases l0<;>rfl
 by_cases h2:s.1=(2:Int)
 ·simp only[h2,Int.reduceEq,decide_true,decide_false]
  cases a0<;>cases b0<;>cases n0<;>cases e0<;>cases l0<;>rfl
 by_cases h3:s.1=(3:Int)
 ·simp only[h3,Int.reduceEq,decide_true,decide_false]
  cases a0<;>cases b0<;>cases n0<;>cases e0<;>cases l0<;>rfl
 by_cases h4:s.1=(4:Int)
 ·simp only[h4,Int.reduceEq,decide_true,decide_false]
  cases a0<;>cases b0<;>cases n0<;>cases e0<;>cases l0<;>rfl
 by_cases h5:s.1=(5:Int)
 ·simp only[h5,Int.reduceEq,decide_true,decide_false]
  cases a0<;>cases b0<;>cases n0<;>cases e0<;>cases l0<;>rfl
 simp only[h1,h2,h3,h4,h5,decide_false]
 cases a0<;>cases b0<;>cases n0<;>cases e0<;>cases l0<;>rfl
theorem F.xy (n:Int) (p0:0<=n) (p1:n<=1099511627776):F.pJ n=some ([]:List ag.D):=by
 unfold F.pJ
 have e:wrap64 (n-wrap64 ((0:Int)-(0:Int)))=n:=by
  rw[show wrap64 ((0:Int)-(0:Int))=0 by decide,Int.sub_zero]
  exact aI (by omega) (by omega)
 rw[decide_eq_false (by omega),e]
 by_cases h:0<n
 ·rw[decide_eq_true h]
  simp only[cond_true,cond_false]
  rw[ai p0,ai (by unfold lim;omega)]
  rfl
 ·rw[decide_eq_false h]
  rfl
theorem F.uH (xss:LLC) (h_xss:Sm (Ty.sl (Ty.sl ag)) xss):F.mm xss=some (List.flatten xss):=by
 unfold F.mm
 exact M.oY (t:=ag) h_xss (fun z v h0 h1=>by
  unfold F.gk
  rw[aI (n:=v+(z.length:Int)) (by omega) (by omega),decide_eq_false (by omega)]
  rfl) (fun z v h1=>by
  unfold F.gi
  rw[ai (by unfold lim;omega)])
theorem F.uY (s:ah.D) (tables:LTb) (ahead:(List aF.D)) (h_s:Sm ah s) (h_tables:Sm (Ty.sl az) tables) (h_ahead:Sm (Ty.sl aF) ahead):F.gM s tables ahead=some (M.make s tables ahead):=by
 obtain⟨r,h1,_⟩:=ve h_s h_tables h_ahead
 unfold M.make
 rw[h1]
 rfl
theorem F.Ai (tables:LTb) (plan:LS) (h_tables:Sm (Ty.sl az) tables) (h_plan:Sm (Ty.sl ah) plan):F.mT tables plan=some (M.makes tables plan):=by
 obtain⟨r,h1,_⟩:=nO h_tables h_plan
 unfold M.makes
 rw[h1]
 rfl
theorem F.yG (tables:LTb) (plan:LS) (h_tables:Sm (Ty.sl az) tables) (h_plan:Sm (Ty.sl ah) plan):F.rF tables plan=some (M.bB tables plan):=by
 unfold F.rF
 rw[bz]
 exact congrArg some (GN h_tables h_plan)
theorem F.xw (a:LV) (b:LV) (h_a:Sm (Ty.sl aa) a) (h_b:Sm (Ty.sl aa) b) (p0:a=b):F.qb a b=some true:=by
 subst p0
 unfold F.qb
 exact M.eq_eq (fun i h0 h1=>by
  unfold F.iQ
  rw[ai h1,(beq_iff (t:=aa) rfl _ _).2 rfl]
  rfl)
theorem F.vW (a:LLV) (b:LLV) (h_a:Sm (Ty.sl (Ty.sl aa)) a) (h_b:Sm (Ty.sl (Ty.sl aa)) b) (p0:a=b):F.nQ a b=some true:=by
 subst p0
 unfold F.nQ
 exact M.eq_eq (fun i h0 h1=>by
  unfold F.gY
  rw[ai h1]
  simp only[decide_true,Bool.not_true,show ((false:Bool)==false)=true from rfl,cond_true,cond_false,eq_self,M.jb])
theorem F.xx (truth:Int)  : F.pK truth=some (M.valueOf truth):=by
 unfold F.pK M.valueOf
 cases M.inR truth 0 1<;>rfl
theorem F.xM (b:Bool)  : F.pL b=some (M.bool b):=by
 unfold F.pL M.bool
 rw[cF]
theorem F.Ar (vals:(List Int)) (h_vals:Sm (Ty.sl (Ty.int .i64)) vals):F.tn vals=some (M.orI vals):=by
 unfold F.tn
 suffices h:∀(A B:List Int),bq (aO (F.iH A) B ()) (fun v0:Unit=>some (0:Int)) (fun q0:Int=>some q0)=some (M.orI B) from h vals vals
 intro A B
 induction B with
 | nil=>rfl
 | cons x l ih=>
  rw[bO]
  simp only[F.iH,M.orI]
  by_cases hx:x=0
  ·simp only[hx,decide_true,Bool.not_true,cond_false,cond_true,aX]
   exact ih
  ·simp[hx]
theorem F.vN (x:Int)  : F.nJ x=some false:=by
 unfold F.nJ
 simp
theorem F.sU (x:Int) (y:Int)  : F.lA x y=some (M.wC x y):=by
 unfold F.lA M.wC
 simp only[cond_false,cF]
theorem F.rZ (x:ByteArray) (h_x:Sm Ty.str x):F.jS x=some false:=by
 unfold F.jS
 simp
theorem F.qv (x:ByteArray) (y:ByteArray) (h_x:Sm Ty.str x) (h_y:Sm Ty.str y):F.iX x y=some (M.Dl x y):=by
 unfold F.iX M.Dl
 simp only[cond_false,cF]
theorem F.sk (v:aa.D) (w:aa.D) (h_v:Sm aa v) (h_w:Sm aa w):F.jR v w=some (M.order v w):=by
 unfold F.jR
 rw[ai ⟨by simp,fun _ _=>trivial⟩]
 rfl
theorem F.xX (kind:Int) (a:aa.D) (b:aa.D) (h_a:Sm aa a) (h_b:Sm aa b):F.pN kind a b=some (M.compare kind a b):=by
 unfold F.pN M.compare M.CH
 cases hk:M.inR kind 1 4
 ·rfl
 cases M.aS a
 ·rfl
 cases M.aS b
 ·rfl
 have h4:decide (kind=1)=false->decide (kind=2)=false->decide (kind=3)=false->decide (kind=4)=true:=by
  unfold M.inR at hk
  simp at hk ⊢
  omega
 cases decide (a.1=(0:Int))<;>cases decide (b.1=(0:Int))<;>cases decide (a.1=b.1)<;>cases h1:decide (kind=1)<;>cases h2:decide (kind=2)<;>cases h3:decide (kind=3)<;>(try rw[h4 h1 h2 h3])<;>cases decide (M.order a b=0)<;>cases decide (M.order a b<0)<;>rfl
theorem F.xQ (n:Int)  : F.uV n=some (M.inR n 0 2):=by
 rfl
theorem F.BN (a:Int) (b:Int) (alone:Int) (p0:0<=alone/\alone<=1):F.vp a b alone=some (M.fold a b alone):=by
 unfold F.vp M.fold
 rw[aI (n:=1-alone) (by omega) (by omega)]
 cases M.inR a 0 2
 ·rfl
 cases M.inR b 0 2
 ·rfl
 cases decide (a=alone)<;>cases decide (b=alone)<;>cases decide (a=2)<;>cases decide (b=2)<;>rfl
theorem F.Ae (a:Int) (b:Int)  : F.tC a b=some (M.sv a b):=by
 unfold F.tC M.sv
 rw[ai (by decide)]
theorem F.xW (v:aa.D) (h_v:Sm aa v):F.pH v=some (M.de v):=by
 unfold F.pH M.de
 cases M.aS v<;>simp only[Bool.not_true,Bool.not_false,cond_true,cond_false,cF]
theorem F.BQ (a:Int) (b:Int)  : F.vz a b=some (M.Ge a b):=by
 unfold F.vz M.Ge
 rw[ai (by decide)]
theorem F.AD (a:Int)  : F.sW a=some (M.AX a):=by
 unfold F.sW M.AX
 simp only[cF]
theorem F.sH (p:ax.D) (row:LV) (inp:LV) (h_p:Sm ax p) (h_row:Sm (Ty.sl aa) row) (h_inp:Sm (Ty.sl aa) inp) (p0:(inp.length:Int)=M.takes p) (p1:M.xj p row.length) (p2:1<=p.1/\p.1<=8):F.lg p row inp=some (M.eN p row inp):=by
 unfold F.lg M.eN
 have hz:(((0:Int),(0:Int),(⟨#[]⟩:ByteArray),()):aa.D)=M.zeroV:=rfl
 by_cases e1:p.1=(1:Int)
 ·simp only[e1,decide_true,cond_true]
 by_cases e2:p.1=(2:Int)
 ·obtain⟨c0,c1⟩:=p1 e2
  simp only[e2,decide_true,cond_true,Int.reduceEq,decide_false,cond_false]
  rw[ai c0,ai c1]
 by_cases e3:p.1=(3:Int)
 ·rw[jI (.inl e3)] at p0
  simp only[e3,decide_true,cond_true,Int.reduceEq,decide_false,cond_false]
  repeat rw[ai (by omega)]
  generalize nth (t:=aa) inp 0=a
  generalize nth (t:=aa) inp 1=b
  unfold M.sum
  have hv:M.aS ((1:Int),wrap64 (a.2.1+b.2.1),(⟨#[]⟩:ByteArray),())=M.inR (wrap64 (a.2.1+b.2.1)) (-9999) 9999:=by unfold M.aS;simp
  rw[hv]
  cases decide (a.1=(0:Int))<;>cases decide (b.1=(0:Int))<;>cases M.inR (wrap64 (a.2.1+b.2.1)) (-9999) 9999<;>rfl
 by_cases e4:p.1=(4:Int)
 ·rw[jI (.inr (.inl e4))] at p0
  simp only[e4,decide_true,cond_true,Int.reduceEq,decide_false,cond_false,bz]
  repeat rw[ai (by omega)]
 by_cases e5:p.1=(5:Int)
 ·rw[jI (.inr (.inr (.inl e5)))] at p0
  simp only[e5,decide_true,cond_true,Int.reduceEq,decide_false,cond_false,bz]
  repeat rw[ai (by omega)]
 by_cases e6:p.1=(6:Int)
 ·rw[jI (.inr (.inr (.inr e6)))] at p0
  simp only[e6,decide_true,cond_true,Int.reduceEq,decide_false,cond_false,bz]
  repeat rw[ai (by omega)]
 by_cases e7:p.1=(7:Int)
 ·rw[rM (.inl e7)] at p0
  simp only[e7,decide_true,cond_true,Int.reduceEq,decide_false,cond_false,bz]
  repeat rw[ai (by omega)]
 ·simp only[e1,e2,e3,e4,e5,e6,e7,decide_false,cond_false,bz]
  have e8:p.1=(8:Int):=by
   rcases Ik p2 with h | h | h | h | h | h | h | h<;>first | exact h | exact absurd h (by assumption)
  rw[rM (.inr e8)] at p0
  rw[ai (by omega)]
theorem F.ud (row:LV) (e:LPt) (h_row:Sm (Ty.sl aa) row) (h_e:Sm (Ty.sl ax) e) (p0:M.fR row.length e):F.mJ row e=some (M.dD row e):=by
 unfold F.mJ M.dD
 obtain⟨h1,h2⟩:=Dp (f:=F.dR row e) h_row (fun p st hp hs hl h1 hk hc=>Av p st hp hs hl h1 hk hc) e [] h_e.2 (iw aa) (by simp;have:=p0.1;omega) p0.2
 rw[h1,aX,ai (by omega)]
theorem F.uD (row:LV) (e:LPt) (h_row:Sm (Ty.sl aa) row) (h_e:Sm (Ty.sl ax) e) (p0:M.fR row.length e):F.qM row e=some (M.holds row e):=by
 rfl
theorem F.xA (xs:LV) (h_xs:Sm (Ty.sl aa) xs):F.uC xs=some xs:=by
 exact M.rP (t:=aa)
theorem F.Aw (row:LV) (list:(List Int)) (h_row:Sm (Ty.sl aa) row) (h_list:Sm (Ty.sl (Ty.int .i64)) list) (p0:M.Bn row list):F.sF row list=some (M.taken row list):=by
 unfold F.sF
 rw[uZ (fun i=>nth (t:=aa) row i) (fun x hx s hs=>by
  have hl:=h_list.1
  obtain⟨h0,h1⟩:=p0 x hx
  simp only[F.kf]
  rw[ai h0,ai h1,ai (by unfold lim;simp;omega)])]
 show af (Sm (.sl aa) (M.taken row list)) (aJ (M.taken row list) fun r:List aa.D=>some (aj r (some ((0:Int),(r.length:Int)))))=_
 rw[ai (M.Hf h_row h_list)]
 simp only[bz,M.jZ]
theorem F.zj (n:Int) (p0:0<=n) (p1:n<=1099511627776):F.qL n=some ([]:List aa.D):=by
 unfold F.qL
 have e:wrap64 (n-wrap64 ((0:Int)-(0:Int)))=n:=by
  rw[show wrap64 ((0:Int)-(0:Int))=0 by decide,Int.sub_zero]
  exact aI (by omega) (by omega)
 rw[decide_eq_false (by omega),e]
 by_cases h:0<n
 ·rw[decide_eq_true h]
  simp only[cond_true,cond_false]
  rw[ai p0,ai (by unfold lim;omega)]
  rfl
 ·rw[decide_eq_false h]
  rfl
theorem F.vr (xss:LLV) (h_xss:Sm (Ty.sl (Ty.sl aa)) xss):F.ot xss=some (List.flatten xss):=by
 unfold F.ot
 exact M.oY (t:=aa) h_xss (fun z v h0 h1=>by
  unfold F.gZ
  rw[aI (n:=v+(z.length:Int)) (by omega) (by omega),decide_eq_false (by omega)]
  rfl) (fun z v h1=>by
  unfold F.hD
  rw[ai (by unfold lim;omega)])
theorem F.yT (a:LV) (b:LV) (h_a:Sm (Ty.sl aa) a) (h_b:Sm (Ty.sl aa) b) (p0:a.length+b.length<=1048576):F.qB a b=some (a++b):=by
 unfold F.qB
 have h1:=h_a.1
 have h2:=h_b.1
 have hs:Sm (.sl aa) (a++b):=⟨by rw[List.length_append];omega,fun x hx=>by
  rcases List.mem_append.1 hx with h | h
  ·exact h_a.2 x h
  ·exact h_b.2 x h⟩
 rw[ai (show Sm (.sl (.sl aa)) [a,b] from⟨by simp,fun x hx=>by
  rcases List.mem_cons.1 hx with rfl | hx
  ·exact h_a
  ·cases List.mem_singleton.1 hx
   exact h_b⟩),bz,List.flatten_cons,List.flatten_cons,List.flatten_nil,List.append_nil,ai hs,bz,M.ju]
theorem F.xC (n:Int) (p0:0<=n) (p1:n<=1099511627776):F.pz n=some ([]:List (Ty.sl aa).D):=by
 unfold F.pz
 have e:wrap64 (n-wrap64 ((0:Int)-(0:Int)))=n:=by
  rw[show wrap64 ((0:Int)-(0:Int))=0 by decide,Int.sub_zero]
  exact aI (by omega) (by omega)
 rw[decide_eq_false (by omega),e]
 by_cases h:0<n
 ·rw[decide_eq_true h]
  simp only[cond_true,cond_false]
  rw[ai p0,ai (by unfold lim;omega)]
  rfl
 ·rw[decide_eq_false h]
  rfl
theorem F.uo (xss:(List LLV)) (h_xss:Sm (Ty.sl (Ty.sl (Ty.sl aa))) xss):F.mV xss=some (List.flatten xss):=by
 unfold F.mV
 exact M.oY (t:=(Ty.sl aa)) h_xss (fun z v h0 h1=>by
  unfold F.gf
  rw[aI (n:=v+(z.length:Int)) (by omega) (by omega),decide_eq_false (by omega)]
  rfl) (fun z v h1=>by
  unfold F.gv
  rw[ai (by unfold lim;omega)])
theorem F.vu (rows:LLV) (h_rows:Sm (Ty.sl (Ty.sl aa)) rows):F.oo rows=some rows:=by
 unfold F.oo
 rw[uZ (fun r=>r) (fun x hx s hs=>by
  have hl:=h_rows.1
  simp only[F.hY,bz,M.jZ]
  rw[ai (by unfold lim;simp;omega)]),M.yo,aX,M.ju]
theorem F.xK (xs:LV) (ys:LV) (h_xs:Sm (Ty.sl aa) xs) (h_ys:Sm (Ty.sl aa) ys):F.tO xs ys=some (decide (xs=ys)):=by
 exact Gp (t:=aa) (fun i h0 h1 h2=>by simp only[F.iT,ai h2,jJ,cF,IM (t:=aa) rfl])
theorem F.xN (rows:LLV) (row:LV) (h_rows:Sm (Ty.sl (Ty.sl aa)) rows) (h_row:Sm (Ty.sl aa) row):F.qd rows row=some (M.eV rows row:Int):=by
 unfold F.qd M.eV
 have hl:=h_rows.1
 have key:∀(l:List (List aa.D)) (v:Int),0<=v->v+(l.length:Int)<=1048576->aO (F.fT rows row) l v=some (.inl (v+(l.countP (fun r=>decide (r=row)):Int))):=by
  intro l
  induction l with
  | nil=>intro v _ _;show some (Sum.inl v)=some (Sum.inl (v+0));rw[Int.add_zero]
  | cons x l ih=>
   intro v h0 hb
   simp only[List.length_cons] at hb
   rw[bO,List.countP_cons,show F.fT rows row x v=cond (decide (x=row)) (some (.inl (wrap64 (v+(1:Int))))) (some (.inl v)) from rfl]
   cases decide (x=row) with
   | true=>
    rw[cond_true,aI (n:=v+(1:Int)) (by omega) (by omega),aX,ih _ (by omega) (by omega)]
    congr 2
    simp
    omega
   | false=>
    rw[cond_false,aX,ih _ h0 (by omega)]
    congr 2
 rw[key rows 0 (by omega) (by omega),aX,Int.zero_add]
theorem F.xq (rows:LLV) (row:LV) (h_rows:Sm (Ty.sl (Ty.sl aa)) rows) (h_row:Sm (Ty.sl aa) row):F.uE rows row=some (decide (0<(M.eV rows row:Int))):=by
 rfl
theorem F.wg (rows:LLV) (h_rows:Sm (Ty.sl (Ty.sl aa)) rows):F.oe rows=some (M.cS rows):=by
 unfold F.oe M.cS
 have hfold:=AI (f:=F.fj rows) rows h_rows (fun z v hz hv=>by
  unfold F.fj M.cZ
  have hl:=h_rows.1
  rw[ai hv.1]
  rw[show (!decide ((0:Int)<(M.eV v z:Int)))=decide ((M.eV v z:Int)=(0:Int)) by
   generalize M.eV v z=n
   by_cases h:n=0
   ·rw[decide_eq_false (by omega),decide_eq_true (by omega)];rfl
   ·rw[decide_eq_true (by omega),decide_eq_false (by omega)];rfl]
  cases decide ((M.eV v z:Int)=(0:Int)) with
  | false=>rfl
  | true=>
   simp only[cond_true]
   rw[ai (by have:=hv.2;unfold lim;simp;omega)])
 rw[hfold.1,aX,ai hfold.2,bz,M.ju]
theorem F.uj (s:ah.D) (tables:LTb) (ahead:(List LLV)) (h_s:Sm ah s) (h_tables:Sm (Ty.sl az) tables) (h_ahead:Sm (Ty.sl (Ty.sl (Ty.sl aa))) ahead) (p0:M.rQ tables ahead s):F.mS s tables ahead=some (M.bQ tables ahead s):=by
 obtain⟨r1,rin,rfew,r2,r3,r4⟩:=p0
 unfold F.mS M.bQ
 by_cases h1:s.1=(1:Int)
 ·obtain⟨n0,n1⟩:=r1 h1
  have hsm:=(aL h_tables s.2.2.2.1).2.1
  have hl:=hsm.1
  simp only[h1,decide_true,cond_true]
  rw[ai n0,ai n1]
 obtain⟨⟨a0,a1⟩,⟨b0,b1⟩⟩:=rin h1
 obtain⟨fa,fb⟩:=rfew h1
 have ha:=fa.1
 have hb:=fb.1
 have sa:Sm (.sl (.sl aa)) (nth (t:=.sl (.sl aa)) ahead s.2.1):=aL h_ahead _
 have sb:Sm (.sl (.sl aa)) (nth (t:=.sl (.sl aa)) ahead s.2.2.1):=aL h_ahead _
 by_cases h2:s.1=(2:Int)
 ·simp only[h2,decide_true,cond_true,Int.reduceEq,decide_false,cond_false]
  rw[ai a0,ai a1,vB (fun x:List aa.D=>cond (M.holds x s.2.2.2.2.1) [x] []) (nth (t:=.sl (.sl aa)) ahead s.2.1) 1 (fun x _=>by cases M.holds x s.2.2.2.2.1<;>simp) [] (fun x hx v hv=>by
   unfold F.gu
   rw[ai (r2 h2 _ hx)]
   cases M.holds x s.2.2.2.2.1
   ·rw[cond_false,cond_false,List.append_nil]
   ·rw[cond_true,cond_true,ai (by simp at hv;unfold lim;simp;omega)]),wS]
  rfl
 by_cases h3:s.1=(3:Int)
 ·simp only[h3,decide_true,cond_true,Int.reduceEq,decide_false,cond_false]
  rw[ai a0,ai a1,vB (fun x:List aa.D=>[M.taken x s.2.2.2.2.2.1]) (nth (t:=.sl (.sl aa)) ahead s.2.1) 1 (fun x _=>Nat.le_refl _) [] (fun x hx v hv=>by
   unfold F.gB
   rw[ai (r3 h3 _ hx),bz,ai (by simp at hv;unfold lim;simp;omega)]),CK]
  rfl
 by_cases h4:s.1=(4:Int)
 ·simp only[h4,decide_true,cond_true,Int.reduceEq,decide_false,cond_false]
  rw[ai a0,ai a1,DS (t:=.sl aa) (fun r=>M.joined s.2.2.2.2.1 r (nth (t:=.sl (.sl aa)) ahead s.2.2.1)) (nth (t:=.sl (.sl aa)) ahead s.2.1) ((nth (t:=.sl (.sl aa)) ahead s.2.2.1):List (List aa.D)).length (fun r _=>M.yl _ _ _) [] (fun i v i0 i1 hv=>by
   have hv9:v.length<=300 * 300:=Nat.le_trans (by simpa using hv) (Nat.mul_le_mul ha hb)
   have hrm:=qz (t:=.sl aa) i0 i1
   unfold F.gn
   rw[ai b0,ai b1,vB (fun q:List aa.D=>cond (M.holds (nth (t:=.sl aa) (nth (t:=.sl (.sl aa)) ahead s.2.1) i++q:List aa.D) s.2.2.2.2.1) [(nth (t:=.sl aa) (nth (t:=.sl (.sl aa)) ahead s.2.1) i++q:List aa.D)] []) (nth (t:=.sl (.sl aa)) ahead s.2.2.1) 1 (fun q _=>by cases M.holds (nth (t:=.sl aa) (nth (t:=.sl (.sl aa)) ahead s.2.1) i++q:List aa.D) s.2.2.2.2.1<;>simp) v (fun q hqm w hw=>by
    have l1:=fa.2 _ hrm
    have l2:=fb.2 _ hqm
    unfold F.gw
    rw[ai (show (nth (t:=.sl aa) (nth (t:=.sl (.sl aa)) ahead s.2.1) i:List aa.D).length+q.length<=1048576 by omega),bz]
    simp only[M.jZ]
    rw[ai (show Sm (.sl aa) (nth (t:=.sl aa) (nth (t:=.sl (.sl aa)) ahead s.2.1) i++q) from⟨by rw[List.length_append];omega,fun x hx=>(List.mem_append.1 hx).elim ((sa.2 _ hrm).2 x) ((sb.2 _ hqm).2 x)⟩),ai (r4 h4 _ hrm _ hqm)]
    cases M.holds (nth (t:=.sl aa) (nth (t:=.sl (.sl aa)) ahead s.2.1) i++q:List aa.D) s.2.2.2.2.1
    ·rw[cond_false,cond_false,List.append_nil]
    ·rw[cond_true,cond_true,ai (by simp at hw;unfold lim;simp;omega)]),xg]
   rfl)]
  rfl
 by_cases h5:s.1=(5:Int)
 ·simp only[h5,decide_true,cond_true,Int.reduceEq,decide_false,cond_false]
  rw[ai a0,ai a1,ai b0,ai b1,ai (show Sm (.sl (.sl (.sl aa))) [(nth (t:=.sl (.sl aa)) ahead s.2.1),(nth (t:=.sl (.sl aa)) ahead s.2.2.1)] from⟨by simp,fun x hx=>by
   rcases List.mem_cons.1 hx with rfl | hx
   ·exact sa
   ·cases List.mem_singleton.1 hx
    exact sb⟩)]
  simp only[bz,List.flatten_cons,List.flatten_nil,List.append_nil,M.jZ,M.ju]
 by_cases h6:s.1=(6:Int)
 ·simp only[h6,decide_true,cond_true,Int.reduceEq,decide_false,cond_false]
  rw[ai a0,ai a1]
  simp only[bz,M.jZ,M.ju]
 simp only[h1,h2,h3,h4,h5,h6,decide_false,cond_false]
theorem F.vD (tables:LTb) (plan:LS) (h_tables:Sm (Ty.sl az) tables) (h_plan:Sm (Ty.sl ah) plan) (p0:M.bB tables plan=true):F.nU tables plan=some (M.cw tables plan):=by
 unfold F.nU M.cw
 rw[p0,cond_true]
 have hl:=h_plan.1
 have hpos:=(M.nk p0).1
 obtain⟨h1,h2⟩:=Gj (f:=F.fB tables plan) h_tables h_plan p0 (fun z v h1 h2 h3=>by
  unfold F.fB M.eC
  rw[ai h1,ai h2,bz,ai (by unfold lim;simp;omega)])
 obtain⟨st,_,hR⟩:=DD h_tables h_plan p0
 have hsm:=BL hR (by show (plan.foldl (M.eC tables) []).length<=1048576;rw[h2];exact hl)
 rw[h1,aX,h2,gX _ hl,ai (by omega),ai (by omega),show plan.foldl (M.eC tables) []=M.cq tables plan from rfl,ai (aL hsm _),bz,M.ju]
theorem F.wz (tables:LTb) (plan:LS) (h_tables:Sm (Ty.sl az) tables) (h_plan:Sm (Ty.sl ah) plan):F.nL tables plan=some (M.cw tables plan):=by
 unfold F.nL
 cases hp:M.bB tables plan
 ·unfold M.cw
  rw[hp]
  rfl
 ·simp only[Bool.not_true,cond_false,bz,M.ju]
theorem F.BT (n:Int) (low:Int) (high:Int)  : F.vO n low high=some (M.inR n low high):=by
 unfold F.vO M.inR
 cases decide (low<=n)<;>rfl
theorem F.uJ (columns:LC) (h_columns:Sm (Ty.sl ag) columns):F.mB columns=some (M.bA columns):=by
 unfold F.mB M.bA
 rw[jh M.eg () (fun x _=>by simp only[F.gr,jJ,cF]<;>rfl),show decide ((columns.length:Int)<=4)=decide (columns.length<=4) from decide_eq_decide.2 (by omega)]
 cases columns.all M.eg<;>simp
theorem F.yq (s:ByteArray) (h_s:Sm Ty.str s):F.rz s=some (M.text s):=by
 unfold F.rz M.text M.lower
 have key:∀c:Int,(cond ((decide (c<97))==false) (cond (decide (122<c)) (some (Sum.inr ())) (some (Sum.inl ()))) (some (Sum.inr ())):Option (Sum Unit Unit))=some (cond (M.inR c 97 122) (.inl ()) (.inr ())):=by
  intro c
  unfold M.inR
  by_cases h2:c<97
  ·simp[h2,show ¬ 97<=c by omega]
  ·by_cases h3:122<c
   ·simp[h2,h3,show 97<=c by omega,show ¬c<=122 by omega]
   ·simp[h2,h3,show 97<=c by omega,show c<=122 by omega]
 rw[jh (fun i=>M.inR (nth (t:=.int .u8) (bU s) i) 97 122) () (fun i hi=>by
  obtain⟨h0,h1⟩:=jQ.1 hi
  simp only[F.jB,BO h0 h1]
  exact key _)]
 rw[<-kT,FL (t:=.int .u8) (bU s) (fun n=>M.inR n 97 122),show decide (((bU s).length:Int)<=6)=decide ((bU s).length<=6) from decide_eq_decide.2 (by omega)]
 cases (bU s).all fun n=>M.inR n 97 122<;>simp
theorem F.xV (v:aa.D) (h_v:Sm aa v):F.pE v=some (M.aS v):=by
 unfold F.pE M.aS
 simp only[jT]
 simp only[cF]
theorem F.zv (columns:LC) (kinds:(List Int)) (p:ax.D) (h_columns:Sm (Ty.sl ag) columns) (h_kinds:Sm (Ty.sl (Ty.int .i64)) kinds) (h_p:Sm ax p) (p0:kinds.length<=1000):F.kK columns kinds p=some (M.vJ columns kinds p):=by
 obtain⟨o,s,e,_⟩:=uw (columns:=columns) p p0 h_columns.1
 unfold M.vJ
 rw[e]
 rfl
theorem F.vG (columns:LC) (e:LPt) (h_columns:Sm (Ty.sl ag) columns) (h_e:Sm (Ty.sl ax) e):F.oc columns e=some (M.bu columns e):=by
 unfold F.oc M.bu
 cases M.bA columns
 ·rfl
 by_cases hl:e.length<=12
 ·rw[decide_eq_false (show ¬(12:Int)<(e.length:Int) by omega),decide_eq_true hl]
  obtain⟨o,s,h1,h2⟩:=AJ (columns:=columns) (E:=e) (by omega) h_columns.1 e.length 0 [] (by omega) (by omega) (by simp;omega)
  rw[show (0:Int)=((0:Nat):Int) from rfl,h1]
  rw[List.drop_zero] at h2
  unfold nF at h2
  cases hk:M.ig columns e [] with
  | none=>
   rw[hk] at h2
   simp only at h2
   subst h2
   rfl
  | some s'=>
   rw[hk] at h2
   obtain⟨rfl,rfl⟩:=h2
   match s with
   | []=>rfl
   | [a]=>exact ai (by simp)
   | a::b::l=>
    have:¬((a::b::l).length:Int)=1:=by simp;omega
    simp only[Option.bind_some,this,decide_false]
    rfl
 ·rw[decide_eq_true (show (12:Int)<(e.length:Int) by omega),decide_eq_false hl]
  rfl
theorem F.wA (s:ah.D) (h_s:Sm ah s):F.nX s=some (M.cr s):=by
 unfold F.nX M.cr M.two
 generalize decide (s.2.1=(0:Int))=a0
 generalize decide (s.2.2.1=(0:Int))=b0
 generalize decide (s.2.2.2.1=(0:Int))=n0
 generalize decide ((s.2.2.2.2.1.length:Int)=(0:Int))=e0
 generalize decide ((s.2.2.2.2.2.1.length:Int)=(0:Int))=l0
 by_cases h1:s.1=(1:Int)
 ·simp only[h1,Int.reduceEq,decide_true,decide_false]
  cases a0<;>cases b0<;>cases n0<;>cases e0<;>cases l0<;>rfl
 by_cases h2:s.1=(2:Int)
 ·simp only[h2,Int.reduceEq,decide_true,decide_false]
  cases a0<;>cases b0<;>cases n0<;>cases e0<;>cases l0<;>rfl
 by_cases h3:s.1=(3:Int)
 ·simp only[h3,Int.reduceEq,decide_true,decide_false]
  cases a0<;>cases b0<;>cases n0<;>cases e0<;>cases l0<;>rfl
 by_cases h4:s.1=(4:Int)
 ·simp only[h4,Int.reduceEq,decide_true,decide_false]
  cases a0<;>cases b0<;>cases n0<;>cases e0<;>cases l0<;>rfl
 by_cases h5:s.1=(5:Int)
 ·simp only[h5,Int.reduceEq,decide_true,decide_false]
  cases a0<;>cases b0<;>cases n0<;>cases e0<;>cases l0<;>rfl
 simp only[h1,h2,h3,h4,h5,decide_false]
 cases a0<;>cases b0<;>cases n0<;>cases e0<;>cases l0<;>rfl
theorem F.tI (tables:LTb) (ahead:LLC) (s:ah.D) (h_tables:Sm (Ty.sl az) tables) (h_ahead:Sm (Ty.sl (Ty.sl ag)) ahead) (h_s:Sm ah s):F.gQ tables ahead s=some (M.fm tables ahead s):=by
 obtain⟨r,h1,_⟩:=yw h_tables h_ahead h_s
 unfold M.fm
 rw[h1]
 rfl
theorem F.yJ (ahead:(List Int)) (s:ah.D) (h_ahead:Sm (Ty.sl (Ty.int .i64)) ahead) (h_s:Sm ah s) (p0:M.mN (ahead.length:Int) s):F.qY ahead s=some (M.bt ahead s):=by
 unfold F.qY M.bt
 by_cases h1:s.1=(1:Int)
 ·simp only[h1,decide_true,cond_true]
 obtain⟨⟨a0,a1⟩,⟨b0,b1⟩⟩:=p0 h1
 rw[decide_eq_false h1]
 repeat rw[ai a0]
 repeat rw[ai a1]
 repeat rw[ai b0]
 repeat rw[ai b1]
 cases decide (s.1=(4:Int))<;>cases decide (s.1=(5:Int))<;>rfl
theorem F.AH (tables:LTb) (plan:LS) (h_tables:Sm (Ty.sl az) tables) (h_plan:Sm (Ty.sl ah) plan):F.tr tables plan=some (M.cn tables plan):=by
 unfold F.tr M.cn M.kz
 obtain⟨o,h1,h2⟩:=M.Ba (f:=F.iE tables plan) (M.bK tables) (fun t=>t) (fun n (st:fA)=>st.1.length=n/\st.2.length=n/\∀x∈st.1,x.length<=1048576) plan plan [] ([],[]) rfl ⟨rfl,rfl,fun x h=>by cases h⟩ (fun m st hm hI=>by
  obtain⟨l1,l2,hx⟩:=hI
  have hp:=h_plan.1
  have hc:Sm (.sl (.sl ag)) st.1:=⟨by omega,fun x h=>M.vI (hx x h)⟩
  have hstep:=aL h_plan (m:Int)
  have hl6:=JG h_tables hc hstep
  unfold F.iE M.bK
  rw[ai hc,bz,<-hl6]
  cases hb:(M.fm tables st.1 (nth (t:=ah) plan (m:Int))).2 with
  | false=>exact⟨.inr (),rfl,rfl⟩
  | true=>
   rw[hb,cond_true] at hl6
   have hin:=M.kH hl6.symm
   have hsm:=M.wK h_tables hx hl6.symm
   have e12:(st.1.length:Int)=(st.2.length:Int):=by omega
   rw[e12] at hin
   simp only[Bool.not_true,cond_false,cond_true]
   rw[ai (by unfold lim;simp;omega),ai (show Sm (.sl (.int .i64)) st.2 from⟨by omega,fun x _=>trivial⟩),ai hin,ai (by unfold lim;simp;omega),ai (by simp;omega)]
   have hn:nth (t:=.int .i64) (st.2++[M.bt st.2 (nth (t:=ah) plan (m:Int))]) (m:Int)=M.bt st.2 (nth (t:=ah) plan (m:Int)):=by
    unfold nth
    rw[List.getD_eq_getElem?_getD]
    simp[<-l2]
   rw[hn]
   cases hd:decide ((300:Int)<M.bt st.2 (nth (t:=ah) plan (m:Int))) with
   | true=>exact⟨.inr (),rfl,rfl⟩
   | false=>
    refine⟨_,rfl,rfl,by simp[l1],by simp[l2],fun x h=>?_⟩
    rcases List.mem_append.1 h with h | h
    ·exact hx x h
    ·cases List.mem_singleton.1 h
     exact hsm)
 rw[show (aY (0:Int) (plan.length:Int))=aY ((([]:List ah.D).length:Nat):Int) (plan.length:Int) from rfl,h1]
 match o with
 | .inl st=>
  simp only at h2
  rw[h2.1]
  rfl
 | .inr _=>
  simp only at h2
  rw[h2]
  rfl
theorem F.Ax (row:LV) (h_row:Sm (Ty.sl aa) row):F.sR row=some (M.ow row):=by
 unfold F.sR M.ow
 rw[jh M.aS () (fun x _=>by simp only[F.jY,jJ,cF]<;>rfl),show decide ((row.length:Int)<=4)=decide (row.length<=4) from decide_eq_decide.2 (by omega)]
 cases row.all M.aS<;>simp
theorem F.xD (columns:LC) (row:LV) (h_columns:Sm (Ty.sl ag) columns) (h_row:Sm (Ty.sl aa) row):F.pF columns row=some (M.cG columns row):=by
 unfold F.pF M.cG
 cases M.bA columns
 ·rfl
 cases M.ow row
 ·rfl
 by_cases hl:row.length=columns.length
 ·rw[jh (M.sZ columns row) () (fun i hi=>by
   obtain⟨h0,h1⟩:=jQ.1 hi
   have h2:i<(columns.length:Int):=by omega
   simp only[F.iS,ai h2]
   unfold M.sZ
   cases decide ((nth (t:=aa) row i).1=(nth (t:=ag) columns i).1)<;>cases decide ((nth (t:=aa) row i).1=(0:Int))<;>cases (nth (t:=ag) columns i).2.1<;>rfl)]
  simp only[hl,Bool.not_true,decide_true,Bool.true_and,cond_true,cond_false]
  cases (aY 0 (columns.length:Int)).all (M.sZ columns row)<;>rfl
 ·have h3:¬(row.length:Int)=(columns.length:Int):=by omega
  simp[hl,h3]
theorem F.yF (columns:LC) (rows:LLV) (h_columns:Sm (Ty.sl ag) columns) (h_rows:Sm (Ty.sl (Ty.sl aa)) rows):F.qK columns rows=some (M.fO columns rows):=by
 unfold F.qK M.fO
 rw[jh (M.cG columns) () (fun x _=>by simp only[F.jj,jJ,cF])]
 cases rows.all (M.cG columns)<;>simp
theorem F.vX (tables:LTb) (h_tables:Sm (Ty.sl az) tables):F.nY tables=some (M.bX tables):=by
 unfold F.nY M.bX
 rw[jh M.cQ () (fun x _=>by
  simp only[F.gS]
  unfold M.cQ
  by_cases h:x.2.1.length<=6
  ·have h2:¬(6:Int)<(x.2.1.length:Int):=by omega
   simp only[h2,h,decide_true,decide_false,Bool.true_and]
   cases M.fO x.1 x.2.1<;>rfl
  ·have h2:(6:Int)<(x.2.1.length:Int):=by omega
   simp[h2,h]),show decide ((tables.length:Int)<=3)=decide (tables.length<=3) from decide_eq_decide.2 (by omega)]
 cases tables.all M.cQ<;>simp
theorem F.zB (tables:LTb) (plan:LS) (h_tables:Sm (Ty.sl az) tables) (h_plan:Sm (Ty.sl ah) plan):F.qE tables plan=some (M.bB tables plan):=by
 unfold F.qE M.bB
 rw[bz]
 cases (M.cn tables plan).2<;>cases M.bX tables<;>rfl
theorem F.Ah (plan:LS) (h_plan:Sm (Ty.sl ah) plan):F.th plan=some plan:=by
 unfold F.th
 rw[uZ (fun r=>r) (fun x hx s hs=>by
  have hl:=h_plan.1
  simp only[F.jX,List.nil_append]
  rw[ai (by unfold lim;simp;omega)]),M.yo]
 rfl
theorem F.yp (a:LPt) (b:LPt) (h_a:Sm (Ty.sl ax) a) (h_b:Sm (Ty.sl ax) b):F.qT a b=some (M.fS a b):=by
 unfold F.qT
 have ha:=h_a.1
 have hb:=h_b.1
 rw[ai (by unfold lim;simp;omega),ai (by unfold lim;simp;omega)]
 rfl
theorem F.uu (columns:LC) (e:LPt) (to:(List Int)) (h_columns:Sm (Ty.sl ag) columns) (h_e:Sm (Ty.sl ax) e) (h_to:Sm (Ty.sl (Ty.int .i64)) to):F.mQ columns e to=some (M.jU columns e to):=by
 unfold F.mQ M.jU
 by_cases hk:M.bu columns e<0
 ·rw[decide_eq_true hk]
  rfl
 rw[decide_eq_false hk]
 simp only[show ((false:Bool)==false)=true from rfl,cond_true,cond_false]
 have hc:=M.Br (Int.not_lt.1 hk)
 have hl:=h_e.1
 cases hd:decide ((to.length:Int)=(columns.length:Int)) with
 | false=>rfl
 | true=>
  have hd':=of_decide_eq_true hd
  simp only[Bool.not_true,cond_false]
  rw[He (fun z=>!(M.inR z 0 3)) () (fun x _=>by unfold F.gA;rw[cF]),mO (M.kW to) e [] (fun z hz v hv=>by
   simp only[List.length_nil,Nat.zero_add] at hv
   unfold F.gp M.kW
   by_cases h2:z.1=(2:Int)
   ·obtain⟨c0,c1⟩:=hc z hz h2
    rw[decide_eq_true h2]
    simp only[cond_true]
    rw[ai c0,ai (by rw[hd'];exact c1),ai (by unfold lim;simp;omega)]
   ·rw[decide_eq_false h2]
    simp only[cond_false]
    rw[ai (by unfold lim;simp;omega)]),aX,cF]
  rfl
theorem F.AF (columns:LLC) (plan:LS) (at_:Int) (rule:Int) (h_columns:Sm (Ty.sl (Ty.sl ag)) columns) (h_plan:Sm (Ty.sl ah) plan) (p0:M.iG plan at_) (p1:M.mI columns plan at_):F.sV columns plan at_ rule=some (M.bS plan at_ rule):=by
 unfold F.sV M.bS
 obtain⟨⟨a0,a1⟩,hsafe⟩:=p0
 rw[ai a0,ai a1]
 have sS:=aL h_plan at_
 obtain⟨_,_,_,_,_,⟨sl,_⟩,_⟩:=sS
 unfold M.mI M.HB at p1
 generalize hs:nth (t:=ah) plan at_=s at *
 generalize hj:nth (t:=ah) plan s.2.1=j at *
 obtain⟨q1,q2,q3⟩:=hsafe
 by_cases h1:s.1=(1:Int)
 ·have h2:¬s.1=(2:Int):=by rw[h1];decide
  have h3:¬s.1=(3:Int):=by rw[h1];decide
  have h6:¬s.1=(6:Int):=by rw[h1];decide
  unfold M.gm
  rw[decide_eq_true h1,decide_eq_false h2,decide_eq_false h3,decide_eq_false h6]
  cases decide (rule=(1:Int))<;>cases decide (rule=(2:Int))<;>cases decide (rule=(3:Int))<;>cases decide (rule=(4:Int))<;>cases decide (rule=(5:Int))<;>cases decide (rule=(6:Int))<;>cases decide (rule=(7:Int))<;>rfl
 rw[decide_eq_false h1,cond_false,ai (q1 h1).1,ai (q1 h1).2]
 unfold M.gm
 by_cases r1:rule=(1:Int)
 ·rw[decide_eq_true r1]
  cases decide (s.1=(2:Int))<;>cases decide (j.1=(2:Int))<;>rfl
 rw[decide_eq_false r1]
 simp only[cond_false,show ((false:Bool)==true)=false from rfl]
 by_cases r2:rule=(2:Int)
 ·rw[decide_eq_true r2]
  cases decide (s.1=(2:Int))<;>cases decide (j.1=(4:Int))<;>rfl
 rw[decide_eq_false r2]
 simp only[cond_false,show ((false:Bool)==true)=false from rfl]
 by_cases r3:rule=(3:Int)
 ·rw[decide_eq_true r3]
  by_cases s2:s.1=(2:Int)
  ·by_cases j2:j.1=(3:Int)
   ·rw[decide_eq_true s2,decide_eq_true j2]
    simp only[cond_true,Bool.and_self,show ((true:Bool)==true)=true from rfl]
    rw[ai (p1 s2 j2).1,bz,(p1 s2 j2).2]
    rfl
   ·rw[decide_eq_true s2,decide_eq_false j2]
    rfl
  ·rw[decide_eq_false s2]
   rfl
 rw[decide_eq_false r3]
 simp only[cond_false,show ((false:Bool)==true)=false from rfl]
 by_cases r4:rule=(4:Int)
 ·rw[decide_eq_true r4]
  cases decide (s.1=(2:Int))<;>cases decide (j.1=(6:Int))<;>rfl
 rw[decide_eq_false r4]
 simp only[cond_false,show ((false:Bool)==true)=false from rfl]
 by_cases r5:rule=(5:Int)
 ·rw[decide_eq_true r5]
  cases decide (s.1=(2:Int))<;>cases decide (j.1=(5:Int))<;>rfl
 rw[decide_eq_false r5]
 simp only[cond_false,show ((false:Bool)==true)=false from rfl]
 by_cases r6:rule=(6:Int)
 ·rw[decide_eq_true r6]
  by_cases s2:s.1=(3:Int)
  ·by_cases j2:j.1=(3:Int)
   ·rw[decide_eq_true s2,decide_eq_true j2]
    simp only[cond_true,Bool.and_self,show ((true:Bool)==true)=true from rfl]
    rw[mO (fun z=>nth (t:=.int .i64) j.2.2.2.2.2.1 z) s.2.2.2.2.2.1 [] (fun z hz v hv=>by
     simp only[List.length_nil,Nat.zero_add] at hv
     have hz2:=q3 s2 j2 z hz
     unfold F.kr
     rw[hs,hj,ai hz2.1,ai hz2.2,ai (by unfold lim;simp;omega)]),aX]
    rfl
   ·rw[decide_eq_true s2,decide_eq_false j2]
    rfl
  ·rw[decide_eq_false s2]
   rfl
 rw[decide_eq_false r6]
 simp only[cond_false,show ((false:Bool)==true)=false from rfl]
 by_cases r7:rule=(7:Int)
 ·rw[decide_eq_true r7]
  cases decide (s.1=(6:Int))<;>cases decide (j.1=(6:Int))<;>rfl
 rw[decide_eq_false r7]
 rfl
theorem F.zZ (plan:LS) (at_:Int) (steps:LS) (h_plan:Sm (Ty.sl ah) plan) (h_steps:Sm (Ty.sl ah) steps) (p0:0<=at_) (p1:at_<(plan.length:Int)):F.tc plan at_ steps=some (M.bY plan at_ steps):=by
 unfold F.tc M.bY
 have hl:=h_plan.1
 have hn:=h_steps.1
 rw[bz,ai p0,ai (Int.le_of_lt p1)]
 simp only[Dh]
 have ht:(plan.take at_.toNat).length<=1048576:=Nat.le_trans (List.length_take_le' _ _) hl
 rw[ai (by unfold lim;simp;omega),ai (by unfold lim;simp;omega),ai (by unfold fG;omega),aI (n:=at_+(1:Int)) (by omega) (by omega),ai (by omega)]
 have:=sE (t:=ah) (β:=ah.D) (ρ:=Unit) (M.shift at_ (wrap64 ((steps.length:Int)-1))) plan 4000000 (plan.drop (at_.toNat+1)) (plan.take (at_.toNat+1)) (f:=F.iK plan at_ steps plan) (plan.take at_.toNat++steps) (List.take_append_drop _ _).symm (by simp;omega) (fun i v i0 i1 hv=>by
  have hlim:∀s:ah.D,(v.length+[s].length) * 80<=lim:=fun s=>by unfold lim;simp;omega
  unfold F.iK M.shift M.two
  generalize nth (t:=ah) plan i=s
  by_cases h1:s.1=(1:Int)
  ·rw[decide_eq_true h1,decide_eq_false (show ¬s.1=(4:Int) by rw[h1];decide),decide_eq_false (show ¬s.1=(5:Int) by rw[h1];decide)]
   cases decide (at_<=s.2.1)<;>cases decide (at_<=s.2.2.1)<;>simp only[cond_true,cond_false,Bool.and_self,Bool.and_true,Bool.true_and,Bool.and_false,Bool.false_and,Bool.or_self,Bool.or_true,Bool.true_or,Bool.or_false,Bool.false_or,Bool.not_true,Bool.not_false,show ((true:Bool)==true)=true from rfl,show ((false:Bool)==true)=false from rfl,show ((false:Bool)==false)=true from rfl,show ((true:Bool)==false)=false from rfl]<;>rw[ai (hlim _)]
  ·rw[decide_eq_false h1]
   cases decide (s.1=(4:Int))<;>cases decide (s.1=(5:Int))<;>cases decide (at_<=s.2.1)<;>cases decide (at_<=s.2.2.1)<;>simp only[cond_true,cond_false,Bool.and_self,Bool.and_true,Bool.true_and,Bool.and_false,Bool.false_and,Bool.or_self,Bool.or_true,Bool.true_or,Bool.or_false,Bool.false_or,Bool.not_true,Bool.not_false,show ((true:Bool)==true)=true from rfl,show ((false:Bool)==true)=false from rfl,show ((false:Bool)==false)=true from rfl,show ((true:Bool)==false)=false from rfl]<;>rw[ai (hlim _)])
 rw[show (((plan.take (at_.toNat+1)).length:Nat):Int)=at_+1 by rw[List.length_take];omega] at this
 rw[List.nil_append,this]
 rfl
theorem F.tw (tables:LTb) (plan:LS) (at_:Int) (rule:Int) (h_tables:Sm (Ty.sl az) tables) (h_plan:Sm (Ty.sl ah) plan):F.lf tables plan at_ rule=some (M.ck tables plan at_ rule):=by
 unfold F.lf M.ck
 cases hp:M.bB tables plan
 ·rfl
 cases ha:M.inR at_ 0 (wrap64 ((plan.length:Int)-(1:Int)))
 ·rfl
 cases hr:M.inR rule 1 7
 ·rfl
 have a0:=dP ha
 have a1:=iz ha
 simp only[Bool.not_true,cond_true,cond_false,Bool.and_self,show ((false:Bool)==false)=true from rfl]
 have facts:=M.pV hp h_plan a0 a1
 have h6:=M.tU hp
 obtain⟨f1,f2,f3,f4,f5⟩:=facts
 have hn:=f5 rule
 have h3:(M.bS plan at_ rule).length<=3:=M.vg _ _ _ _
 unfold M.iy
 have hcs:Sm (.sl (.sl ag)) (M.cn tables plan).1:=⟨show (M.cn tables plan).1.length<=1048576 by omega,fun x hx=>M.vI (Nat.le_trans (f3 x hx) (by decide))⟩
 rw[bz,ai hcs,ai f1,ai f2,bz]
 generalize M.bS plan at_ rule=N at *
 cases decide ((N.length:Int)=(0:Int)) with
 | true=>rfl
 | false=>
  simp only[cond_false,bz]
  rw[ai hn,ai (M.Eb h_plan h6 hn h3),cF,jJ]
theorem F.uQ (b:(List Int)) (p:Int) (n:Int) (h_b:Sm (Ty.sl (Ty.int .u8)) b) (p0:M.ay b) (p1:0<=p) (p2:p<=1000000000000000):ok (F.ov b p n) (fun r=>0<=r.1/\(1<=n->r.1<n)/\(n<1->r.1=0)/\r.2=p+1):=by
 unfold F.ov
 have hw:wrap64 (p+1)=p+1:=aI (by omega) (by omega)
 have hw2:wrap64 (p+1-1)=p:=by rw[show p+1-1=p by omega];exact aI (by omega) (by omega)
 simp only[hw,hw2]
 refine JM (fun c0=>?_) (fun c0=>?_)
 ·refine okD (fun c1=>?_) (fun c1=>?_)
  ·exact okS ⟨by dsimp only;omega,fun h=>by dsimp only;omega,fun h=>rfl,rfl⟩
  ·have hl:1<=(b.length:Int):=by omega
   refine okD (fun c2=>?_) (fun c2=>?_)
   ·refine okG (okG (okG (okS ?_)))
    have:=M.FI (M.vT p0 p) (n:=n) (by omega)
    exact⟨this.1,fun _=>this.2,fun h=>by omega,rfl⟩
   ·obtain⟨t0,t1⟩:=M.uf p1 hl
    have h7:wrap64 (wrap64 (p * 7)+3)=p * 7+3:=by rw[aI (n:=p * 7) (by omega) (by omega),aI (by omega) (by omega)]
    obtain⟨t2,t3⟩:=M.uf (a:=p * 7+3) (by omega) hl
    rw[h7]
    refine okG (okG (okG (okG (okG (okG (okS ?_))))))
    have:=M.HS (M.vT p0 (p.tmod (b.length:Int))) (M.vT p0 ((p * 7+3).tmod (b.length:Int))) p1 p2 (M.Fe p1 hl) (n:=n) (by omega)
    exact⟨this.1,fun _=>this.2,fun h=>by omega,rfl⟩
 ·exact okS ⟨by dsimp only;omega,fun h=>by omega,fun h=>rfl,rfl⟩
theorem F.Ce (b:(List Int)) (p:Int) (n:Int) (h_b:Sm (Ty.sl (Ty.int .u8)) b) (p0:M.ay b) (p1:0<=p) (p2:p<=1000000000000000):F.ov b p n=some (M.pick b p n):=hH (F.uQ b p n h_b p0 p1 p2)
theorem M.FV (b:(List Int)) (p:Int) (n:Int) (h_b:Sm (Ty.sl (Ty.int .u8)) b) (p0:M.ay b) (p1:0<=p) (p2:p<=1000000000000000):0<=(M.pick b p n).1/\(1<=n->(M.pick b p n).1<n)/\(n<1->(M.pick b p n).1=0)/\(M.pick b p n).2=p+1:=hG (F.uQ b p n h_b p0 p1 p2)
theorem aA {α:Type} {K:α->Prop} {f:Int×Int->Option α} {b:(List Int)} {p:Int} {n:Int} (k:∀r,(0<=r.1)->(1<=n->r.1<n)->(n<1->r.1=0)->(r.2=p+1)->ok (f r) K) (h_b:Sm (Ty.sl (Ty.int .u8)) b:=by exact au) (p0:M.ay b:=by exact au) (p1:0<=p:=by exact au) (p2:p<=1000000000000000:=by exact au):ok (aJ (M.pick b p n) f) K:=by
 have h:=M.FV b p n h_b p0 p1 p2
 obtain⟨h0,h1,h2,h3⟩:=h
 exact k _ h0 h1 h2 h3
theorem F.qo (b:(List Int)) (p:Int) (c:ag.D) (h_b:Sm (Ty.sl (Ty.int .u8)) b) (p0:M.ay b) (p1:0<=p) (p2:p<=998000000000000):ok (F.jz b p c) (fun r=>r.1.2.2.1.size<=20/\p<=r.2/\r.2<=p+3):=by
  unfold F.jz
  refine okC (fun c_0=>?_) (fun c_0=>?_)
  ·refine okG ?_
   refine aA fun r1 h_1_4_0 h_1_4_1 h_1_4_2 h_1_4_3=>?_
   refine okD (fun c_1=>?_) (fun c_1=>?_)
   ·exact rY
   ·refine okD (fun c_2=>?_) (fun c_2=>?_)
    ·refine okG ?_
     refine okG ?_
     refine aA fun r2 h_5_1_0 h_5_1_1 h_5_1_2 h_5_1_3=>?_
     exact rY
    ·refine okD (fun c_3=>?_) (fun c_3=>?_)
     ·refine okG ?_
      refine okG ?_
      refine aA fun r3 h_7_2_0 h_7_2_1 h_7_2_2 h_7_2_3=>?_
      refine okG ?_
      refine okG ?_
      exact rY
     ·refine okG ?_
      refine okG ?_
      refine aA fun r4 h_8_1_0 h_8_1_1 h_8_1_2 h_8_1_3=>?_
      exact rY
  ·refine okD (fun c_4=>?_) (fun c_4=>?_)
   ·refine okG ?_
    refine aA fun r2 h_5_1_0 h_5_1_1 h_5_1_2 h_5_1_3=>?_
    exact rY
   ·refine okD (fun c_5=>?_) (fun c_5=>?_)
    ·refine okG ?_
     refine aA fun r3 h_7_2_0 h_7_2_1 h_7_2_2 h_7_2_3=>?_
     refine okG ?_
     refine okG ?_
     exact rY
    ·refine okG ?_
     refine aA fun r4 h_8_1_0 h_8_1_1 h_8_1_2 h_8_1_3=>?_
     exact rY
theorem F.xP (b:(List Int)) (p:Int) (c:ag.D) (h_b:Sm (Ty.sl (Ty.int .u8)) b) (p0:M.ay b) (p1:0<=p) (p2:p<=998000000000000):F.jz b p c=some (M.kD b p c):=hH (F.qo b p c h_b p0 p1 p2)
theorem M.BR (b:(List Int)) (p:Int) (c:ag.D) (h_b:Sm (Ty.sl (Ty.int .u8)) b) (p0:M.ay b) (p1:0<=p) (p2:p<=998000000000000):(M.kD b p c).1.2.2.1.size<=20/\p<=(M.kD b p c).2/\(M.kD b p c).2<=p+3:=hG (F.qo b p c h_b p0 p1 p2)
theorem oN {α:Type} {K:α->Prop} {f:aa.D×Int->Option α} {b:(List Int)} {p:Int} {c:ag.D} (k:∀r,(r.1.2.2.1.size<=20)->(p<=r.2)->(r.2<=p+3)->ok (f r) K) (h_b:Sm (Ty.sl (Ty.int .u8)) b:=by exact au) (p0:M.ay b:=by exact au) (p1:0<=p:=by exact au) (p2:p<=998000000000000:=by exact au):ok (aJ (M.kD b p c) f) K:=by
 have h:=M.BR b p c h_b p0 p1 p2
 obtain⟨h0,h1,h2⟩:=h
 exact k _ h0 h1 h2
theorem F.qn (b:(List Int)) (p:Int) (columns:LC) (kind:Int) (h_b:Sm (Ty.sl (Ty.int .u8)) b) (h_columns:Sm (Ty.sl ag) columns) (p0:M.ay b) (p1:0<=p) (p2:p<=997000000000000):ok (F.jr b p columns kind) (fun r=>r.1.2.2.1.2.2.1.size<=20/\p<=r.2/\r.2<=p+20):=by
  unfold F.jr
  have hl:=h_columns.1
  refine okT (A:=fun e0=>p<=e0/\e0<=p+8) (B:=fun q0=>p<=q0.1/\q0.1<=p+10) ?_ (fun e0 h_e0=>?_) (fun q0 h_q0=>?_)
  ·refine okW (fun(k:Nat) (v0:Int×Int)=>0<=v0.1/\v0.1<=4/\4<=v0.1+(k:Int)/\p<=v0.2/\v0.2<=p+2 * v0.1) (fun k v0 hI=>?_) (4:Nat) _ ⟨au,au,au,au,au⟩
   obtain⟨i_0,i_1,i_2,i_3,i_4⟩:=hI
   unfold F.iP
   refine Ca (fun c_0=>?_) (fun c_0=>?_)
   ·refine okD (fun c_1=>?_) (fun c_1=>?_)
    ·refine okG ?_
     refine okG ?_
     refine okG ?_
     refine aA fun r1 h_4_3_0 h_4_3_1 h_4_3_2 h_4_3_3=>?_
     refine okG ?_
     refine okG ?_
     refine Ca (fun c_2=>?_) (fun c_2=>?_)
     ·refine okG ?_
      refine okG ?_
      refine aA fun r2 h_5_9_0 h_5_9_1 h_5_9_2 h_5_9_3=>?_
      refine okD (fun c_3=>?_) (fun c_3=>?_)
      ·exact Ez ⟨au,au⟩
      ·exact dy ⟨k-1,by omega,au,au,au,au,au⟩
     ·exact dy ⟨k-1,by omega,au,au,au,au,au⟩
    ·exact zV ⟨au,au⟩
   ·exact zV ⟨au,au⟩
  ·obtain⟨e0_0,e0_1⟩:=h_e0
   refine okG ?_
   refine okG ?_
   refine oN fun r3 h_7_3_0 h_7_3_1 h_7_3_2=>?_
   exact rY
  ·obtain⟨q0_0,q0_1⟩:=h_q0
   exact rY
theorem F.xH (b:(List Int)) (p:Int) (columns:LC) (kind:Int) (h_b:Sm (Ty.sl (Ty.int .u8)) b) (h_columns:Sm (Ty.sl ag) columns) (p0:M.ay b) (p1:0<=p) (p2:p<=997000000000000):F.jr b p columns kind=some (M.dH b p columns kind):=hH (F.qn b p columns kind h_b h_columns p0 p1 p2)
theorem M.BM (b:(List Int)) (p:Int) (columns:LC) (kind:Int) (h_b:Sm (Ty.sl (Ty.int .u8)) b) (h_columns:Sm (Ty.sl ag) columns) (p0:M.ay b) (p1:0<=p) (p2:p<=997000000000000):(M.dH b p columns kind).1.2.2.1.2.2.1.size<=20/\p<=(M.dH b p columns kind).2/\(M.dH b p columns kind).2<=p+20:=hG (F.qn b p columns kind h_b h_columns p0 p1 p2)
theorem fz {α:Type} {K:α->Prop} {f:ax.D×Int->Option α} {b:(List Int)} {p:Int} {columns:LC} {kind:Int} (k:∀r,(r.1.2.2.1.2.2.1.size<=20)->(p<=r.2)->(r.2<=p+20)->ok (f r) K) (h_b:Sm (Ty.sl (Ty.int .u8)) b:=by exact au) (h_columns:Sm (Ty.sl ag) columns:=by exact au) (p0:M.ay b:=by exact au) (p1:0<=p:=by exact au) (p2:p<=997000000000000:=by exact au):ok (aJ (M.dH b p columns kind) f) K:=by
 have h:=M.BM b p columns kind h_b h_columns p0 p1 p2
 obtain⟨h0,h1,h2⟩:=h
 exact k _ h0 h1 h2
theorem dj {α:Type} {K:α->Prop} {f:LPt×Int->Option α} {n_:Nat} (ih:∀(b:(List Int)),∀(p:Int),∀(columns:LC),∀(kind:Int),∀(deep:Int),(Sm (Ty.sl (Ty.int .u8)) b)->(Sm (Ty.sl ag) columns)->(M.ay b)->(0<=p)->(p+40 * (M.eB deep:Int)<=996000000000000)->(deep<=3)->(deep.toNat<n_)->1<=(M.bD n_ b p columns kind deep).1.length/\(M.bD n_ b p columns kind deep).1.length<=M.eB deep/\(∀v∈(M.bD n_ b p columns kind deep).1,v.2.2.1.2.2.1.size<=20)/\p<=(M.bD n_ b p columns kind deep).2/\(M.bD n_ b p columns kind deep).2<=p+40 * M.eB deep) {b:(List Int)} {p:Int} {columns:LC} {kind:Int} {deep:Int} (k:∀r,(1<=r.1.length)->(r.1.length<=M.eB deep)->(∀v∈r.1,v.2.2.1.2.2.1.size<=20)->(p<=r.2)->(r.2<=p+40 * M.eB deep)->ok (f r) K) (h_b:Sm (Ty.sl (Ty.int .u8)) b:=by exact au) (h_columns:Sm (Ty.sl ag) columns:=by exact au) (p0:M.ay b:=by exact au) (p1:0<=p:=by exact au) (p2:p+40 * (M.eB deep:Int)<=996000000000000:=by exact au) (p3:deep<=3:=by exact au) (p4:deep.toNat<n_:=by exact au):ok (aJ (M.bD n_ b p columns kind deep) f) K:=by
 have h:=ih b p columns kind deep h_b h_columns p0 p1 p2 p3 p4
 obtain⟨h0,h1,h2,h3,h4⟩:=h
 exact k _ h0 h1 h2 h3 h4
theorem F.qq (n_:Nat) (ih:∀(b:(List Int)),∀(p:Int),∀(columns:LC),∀(kind:Int),∀(deep:Int),(Sm (Ty.sl (Ty.int .u8)) b)->(Sm (Ty.sl ag) columns)->(M.ay b)->(0<=p)->(p+40 * (M.eB deep:Int)<=996000000000000)->(deep<=3)->(deep.toNat<n_)->1<=(M.bD n_ b p columns kind deep).1.length/\(M.bD n_ b p columns kind deep).1.length<=M.eB deep/\(∀v∈(M.bD n_ b p columns kind deep).1,v.2.2.1.2.2.1.size<=20)/\p<=(M.bD n_ b p columns kind deep).2/\(M.bD n_ b p columns kind deep).2<=p+40 * M.eB deep) (b:(List Int)) (p:Int) (columns:LC) (kind:Int) (deep:Int) (h_b:Sm (Ty.sl (Ty.int .u8)) b) (h_columns:Sm (Ty.sl ag) columns) (p0:M.ay b) (p1:0<=p) (p2:p+40 * (M.eB deep:Int)<=996000000000000) (p3:deep<=3) (p4:deep.toNat<(n_+1)):ok (F.lS n_ b p columns kind deep) (fun r=>1<=r.1.length/\r.1.length<=M.eB deep/\(∀v∈r.1,v.2.2.1.2.2.1.size<=20)/\p<=r.2/\r.2<=p+40 * M.eB deep):=by
  unfold F.lS
  have hE0:=M.Fl (d:=deep)
  have hE1:=M.Fl (d:=wrap64 (deep-(1:Int)))
  have hE2:=M.Fl (d:=wrap64 (deep-(2:Int)))
  have hE3:=M.JI (d:=deep) p3
  have hE4:=M.JH (d:=deep) p3
  refine JM (fun c_0=>?_) (fun c_0=>?_)
  ·refine okG ?_
   refine aA fun r1 h_1_4_0 h_1_4_1 h_1_4_2 h_1_4_3=>?_
   refine okD (fun c_1=>?_) (fun c_1=>?_)
   ·refine okG ?_
    refine okG ?_
    refine fz fun r2 h_2_3_0 h_2_3_1 h_2_3_2=>?_
    exact zU
   ·refine okD (fun c_2=>?_) (fun c_2=>?_)
    ·refine okG ?_
     refine okG ?_
     refine okG ?_
     refine okG ?_
     refine dj ih fun r3 h_4_5_0 h_4_5_1 h_4_5_2 h_4_5_3 h_4_5_4=>?_
     refine okG ?_
     refine okG ?_
     refine fz fun r4 h_4_9_0 h_4_9_1 h_4_9_2=>?_
     refine okG ?_
     refine okG ?_
     exact zU
    ·refine okD (fun c_3=>?_) (fun c_3=>?_)
     ·refine okG ?_
      refine okG ?_
      refine fz fun r5 h_6_3_0 h_6_3_1 h_6_3_2=>?_
      exact zU
     ·refine okG ?_
      refine okG ?_
      refine aA fun r6 h_7_1_0 h_7_1_1 h_7_1_2 h_7_1_3=>?_
      refine okD (fun c_4=>?_) (fun c_4=>?_)
      ·refine okG ?_
       refine okG ?_
       refine okG ?_
       refine okG ?_
       refine dj ih fun r7 h_9_4_0 h_9_4_1 h_9_4_2 h_9_4_3 h_9_4_4=>?_
       refine okG ?_
       refine okG ?_
       refine okG ?_
       refine okG ?_
       refine dj ih fun r8 h_9_9_0 h_9_9_1 h_9_9_2 h_9_9_3 h_9_9_4=>?_
       refine okG ?_
       refine okG ?_
       refine okG ?_
       refine aA fun r9 h_9_12_0 h_9_12_1 h_9_12_2 h_9_12_3=>?_
       refine okG ?_
       exact zU
      ·refine okD (fun c_5=>?_) (fun c_5=>?_)
       ·refine okG ?_
        refine okG ?_
        refine okG ?_
        refine okG ?_
        refine dj ih fun r10 h_11_4_0 h_11_4_1 h_11_4_2 h_11_4_3 h_11_4_4=>?_
        refine okG ?_
        exact zU
       ·refine okD (fun c_6=>?_) (fun c_6=>?_)
        ·refine okG ?_
         refine okG ?_
         refine aA fun r11 h_13_3_0 h_13_3_1 h_13_3_2 h_13_3_3=>?_
         refine okG ?_
         refine okG ?_
         refine okG ?_
         refine okG ?_
         refine dj ih fun r12 h_13_7_0 h_13_7_1 h_13_7_2 h_13_7_3 h_13_7_4=>?_
         refine okG ?_
         exact zU
        ·refine okG ?_
         refine okG ?_
         refine aA fun r13 h_14_1_0 h_14_1_1 h_14_1_2 h_14_1_3=>?_
         refine okG ?_
         refine okG ?_
         refine okG ?_
         refine okG ?_
         refine dj ih fun r14 h_15_5_0 h_15_5_1 h_15_5_2 h_15_5_3 h_15_5_4=>?_
         refine okG ?_
         refine okG ?_
         refine fz fun r15 h_15_9_0 h_15_9_1 h_15_9_2=>?_
         refine okG ?_
         refine okG ?_
         refine okG ?_
         refine aA fun r16 h_15_13_0 h_15_13_1 h_15_13_2 h_15_13_3=>?_
         refine okG ?_
         exact zU
  ·refine okG ?_
   refine fz fun r2 h_2_3_0 h_2_3_1 h_2_3_2=>?_
   exact zU
theorem M.pg:∀(n_:Nat),∀(b:(List Int)),∀(p:Int),∀(columns:LC),∀(kind:Int),∀(deep:Int),(Sm (Ty.sl (Ty.int .u8)) b)->(Sm (Ty.sl ag) columns)->(M.ay b)->(0<=p)->(p+40 * (M.eB deep:Int)<=996000000000000)->(deep<=3)->(deep.toNat<n_)->1<=(M.bD n_ b p columns kind deep).1.length/\(M.bD n_ b p columns kind deep).1.length<=M.eB deep/\(∀v∈(M.bD n_ b p columns kind deep).1,v.2.2.1.2.2.1.size<=20)/\p<=(M.bD n_ b p columns kind deep).2/\(M.bD n_ b p columns kind deep).2<=p+40 * M.eB deep
 | 0,b,p,columns,kind,deep,h_b,h_columns,p0,p1,p2,p3,p4=>absurd p4 (Nat.not_lt_zero _)
 | n_+1,b,p,columns,kind,deep,h_b,h_columns,p0,p1,p2,p3,p4=>hG (F.qq n_ (M.pg n_) b p columns kind deep h_b h_columns p0 p1 p2 p3 p4)
theorem F.xE (n_:Nat) (b:(List Int)) (p:Int) (columns:LC) (kind:Int) (deep:Int) (h_b:Sm (Ty.sl (Ty.int .u8)) b) (h_columns:Sm (Ty.sl ag) columns) (p0:M.ay b) (p1:0<=p) (p2:p+40 * (M.eB deep:Int)<=996000000000000) (p3:deep<=3) (p4:deep.toNat<(n_+1)):F.lS n_ b p columns kind deep=some (M.bD (n_+1) b p columns kind deep):=hH (F.qq n_ (M.pg n_) b p columns kind deep h_b h_columns p0 p1 p2 p3 p4)
theorem dA {α:Type} {K:α->Prop} {f:LPt×Int->Option α} {n_:Nat} {b:(List Int)} {p:Int} {columns:LC} {kind:Int} {deep:Int} (k:∀r,(1<=r.1.length)->(r.1.length<=M.eB deep)->(∀v∈r.1,v.2.2.1.2.2.1.size<=20)->(p<=r.2)->(r.2<=p+40 * M.eB deep)->ok (f r) K) (h_b:Sm (Ty.sl (Ty.int .u8)) b:=by exact au) (h_columns:Sm (Ty.sl ag) columns:=by exact au) (p0:M.ay b:=by exact au) (p1:0<=p:=by exact au) (p2:p+40 * (M.eB deep:Int)<=996000000000000:=by exact au) (p3:deep<=3:=by exact au) (p4:deep.toNat<n_:=by exact au):ok (aJ (M.bD n_ b p columns kind deep) f) K:=by
 have h:=M.pg n_ b p columns kind deep h_b h_columns p0 p1 p2 p3 p4
 obtain⟨h0,h1,h2,h3,h4⟩:=h
 exact k _ h0 h1 h2 h3 h4
theorem F.xb (b:(List Int)) (p:Int) (n:Int) (h_b:Sm (Ty.sl (Ty.int .u8)) b) (p0:M.ay b) (p1:0<=p) (p2:p<=999000000000000):ok (F.qR b p n) (fun r=>(n<1->r.1=false)/\p<=r.2/\r.2<=p+1):=by
  unfold F.qR
  refine Ca (fun c_0=>?_) (fun c_0=>?_)
  ·refine okG ?_
   refine aA fun r1 h_1_5_0 h_1_5_1 h_1_5_2 h_1_5_3=>?_
   exact rY
  ·exact rY
theorem F.Da (b:(List Int)) (p:Int) (n:Int) (h_b:Sm (Ty.sl (Ty.int .u8)) b) (p0:M.ay b) (p1:0<=p) (p2:p<=999000000000000):F.qR b p n=some (M.odd b p n):=hH (F.xb b p n h_b p0 p1 p2)
theorem M.Hz (b:(List Int)) (p:Int) (n:Int) (h_b:Sm (Ty.sl (Ty.int .u8)) b) (p0:M.ay b) (p1:0<=p) (p2:p<=999000000000000):(n<1->(M.odd b p n).1=false)/\p<=(M.odd b p n).2/\(M.odd b p n).2<=p+1:=hG (F.xb b p n h_b p0 p1 p2)
theorem lP {α:Type} {K:α->Prop} {f:Bool×Int->Option α} {b:(List Int)} {p:Int} {n:Int} (k:∀r,(n<1->r.1=false)->(p<=r.2)->(r.2<=p+1)->ok (f r) K) (h_b:Sm (Ty.sl (Ty.int .u8)) b:=by exact au) (p0:M.ay b:=by exact au) (p1:0<=p:=by exact au) (p2:p<=999000000000000:=by exact au):ok (aJ (M.odd b p n) f) K:=by
 have h:=M.Hz b p n h_b p0 p1 p2
 obtain⟨h0,h1,h2⟩:=h
 exact k _ h0 h1 h2
theorem F.mF (b:(List Int)) (p:Int) (n:Int) (h_b:Sm (Ty.sl (Ty.int .u8)) b) (p0:M.ay b) (p1:0<=p) (p2:p<=998000000000000):ok (F.fX b p n) (fun r=>1<=r.1.length/\r.1.length<=6/\p<=r.2/\r.2<=p+20):=by
  unfold F.fX
  refine okG ?_
  refine aA fun r1 h_2_1_0 h_2_1_1 h_2_1_2 h_2_1_3=>?_
  refine okB (A:=fun e0=>p<=e0.1/\e0.1<=p+10/\1<=e0.2.length/\e0.2.length<=3) ?_ (fun e0 h_e0=>?_)
  ·refine okW (fun(k:Nat) (v0:Int×Int×LC)=>0<=v0.1/\v0.1<=(k:Int)/\(v0.2.2.length:Int)+v0.1<=3/\1<=(v0.2.2.length:Int)+v0.1/\p<=v0.2.1/\v0.2.1+2 * v0.1<=p+10) (fun k v0 hI=>?_) (3:Nat) _ ⟨au,au,au,au,au,au⟩
   obtain⟨i_0,i_1,i_2,i_3,i_4,i_5⟩:=hI
   unfold F.fN
   refine okD (fun c_0=>?_) (fun c_0=>?_)
   ·refine okG ?_
    refine okG ?_
    refine okG ?_
    refine aA fun r2 h_5_3_0 h_5_3_1 h_5_3_2 h_5_3_3=>?_
    refine okG ?_
    refine okG ?_
    refine okG ?_
    refine okG ?_
    refine aA fun r3 h_5_7_0 h_5_7_1 h_5_7_2 h_5_7_3=>?_
    refine okG ?_
    exact dy ⟨k-1,by omega,au,au,au,au,au,au⟩
   ·exact cU ⟨au,au,au,au⟩
  ·obtain⟨e0_0,e0_1,e0_2,e0_3⟩:=h_e0
   refine okG ?_
   refine okG ?_
   refine lP fun r4 h_6_2_0 h_6_2_1 h_6_2_2=>?_
   refine okC (fun c_1=>?_) (fun c_1=>?_)
   ·refine okG ?_
    refine okG ?_
    refine aA fun r5 h_7_2_0 h_7_2_1 h_7_2_2 h_7_2_3=>?_
    refine okG ?_
    exact CW
   ·exact CW
theorem F.ta (b:(List Int)) (p:Int) (n:Int) (h_b:Sm (Ty.sl (Ty.int .u8)) b) (p0:M.ay b) (p1:0<=p) (p2:p<=998000000000000):F.fX b p n=some (M.fK b p n):=hH (F.mF b p n h_b p0 p1 p2)
theorem M.xR (b:(List Int)) (p:Int) (n:Int) (h_b:Sm (Ty.sl (Ty.int .u8)) b) (p0:M.ay b) (p1:0<=p) (p2:p<=998000000000000):1<=(M.fK b p n).1.length/\(M.fK b p n).1.length<=6/\p<=(M.fK b p n).2/\(M.fK b p n).2<=p+20:=hG (F.mF b p n h_b p0 p1 p2)
theorem sg {α:Type} {K:α->Prop} {f:LC×Int->Option α} {b:(List Int)} {p:Int} {n:Int} (k:∀r,(1<=r.1.length)->(r.1.length<=6)->(p<=r.2)->(r.2<=p+20)->ok (f r) K) (h_b:Sm (Ty.sl (Ty.int .u8)) b:=by exact au) (p0:M.ay b:=by exact au) (p1:0<=p:=by exact au) (p2:p<=998000000000000:=by exact au):ok (aJ (M.fK b p n) f) K:=by
 have h:=M.xR b p n h_b p0 p1 p2
 obtain⟨h0,h1,h2,h3⟩:=h
 exact k _ h0 h1 h2 h3
theorem F.ou (b:(List Int)) (p:Int) (n:Int) (h_b:Sm (Ty.sl (Ty.int .u8)) b) (p0:M.ay b) (p1:0<=p) (p2:p<=998000000000000):ok (F.iF b p n) (fun r=>r.1.2.2.1.size<=20/\p<=r.2/\r.2<=p+20):=by
  unfold F.iF
  refine okG ?_
  refine aA fun r1 h_2_1_0 h_2_1_1 h_2_1_2 h_2_1_3=>?_
  refine okB (A:=fun e0=>p<=e0.1/\e0.1<=p+12/\e0.2.2.2.size<=3) ?_ (fun e0 h_e0=>?_)
  ·refine okW (fun(_:Nat) (_:Unit)=>True) (fun _ v0 _=>?_) 0 _ trivial
   unfold F.gW
   refine okD (fun c_1=>?_) (fun c_1=>?_)
   ·exact cU ⟨au,au,au⟩
   ·refine okD (fun c_2=>?_) (fun c_2=>?_)
    ·refine okG ?_
     refine okG ?_
     refine okG ?_
     refine aA fun r2 h_8_1_0 h_8_1_1 h_8_1_2 h_8_1_3=>?_
     refine okG ?_
     refine okG ?_
     refine aA fun r3 h_9_1_0 h_9_1_1 h_9_1_2 h_9_1_3=>?_
     refine okD (fun c_3=>?_) (fun c_3=>?_)
     ·refine okG ?_
      refine okG ?_
      refine aA fun r4 h_10_2_0 h_10_2_1 h_10_2_2 h_10_2_3=>?_
      refine okG ?_
      refine okG ?_
      exact cU ⟨au,au,au⟩
     ·exact cU ⟨au,au,au⟩
    ·refine okD (fun c_4=>?_) (fun c_4=>?_)
     ·refine okG ?_
      refine okG ?_
      refine okG ?_
      refine aA fun r2 h_8_1_0 h_8_1_1 h_8_1_2 h_8_1_3=>?_
      refine okG ?_
      refine okG ?_
      refine aA fun r3 h_9_1_0 h_9_1_1 h_9_1_2 h_9_1_3=>?_
      refine okD (fun c_5=>?_) (fun c_5=>?_)
      ·refine okG ?_
       refine okG ?_
       refine aA fun r4 h_10_2_0 h_10_2_1 h_10_2_2 h_10_2_3=>?_
       refine okG ?_
       refine okG ?_
       exact cU ⟨au,au,au⟩
      ·exact cU ⟨au,au,au⟩
     ·refine okD (fun c_6=>?_) (fun c_6=>?_)
      ·refine okG ?_
       refine okG ?_
       refine okG ?_
       refine aA fun r2 h_8_1_0 h_8_1_1 h_8_1_2 h_8_1_3=>?_
       refine okG ?_
       refine okG ?_
       refine aA fun r3 h_9_1_0 h_9_1_1 h_9_1_2 h_9_1_3=>?_
       refine okD (fun c_7=>?_) (fun c_7=>?_)
       ·refine okG ?_
        refine okG ?_
        refine aA fun r4 h_10_2_0 h_10_2_1 h_10_2_2 h_10_2_3=>?_
        refine okG ?_
        refine okG ?_
        exact cU ⟨au,au,au⟩
       ·exact cU ⟨au,au,au⟩
      ·refine okD (fun c_8=>?_) (fun c_8=>?_)
       ·refine okG ?_
        refine okG ?_
        refine okG ?_
        refine aA fun r5 h_14_1_0 h_14_1_1 h_14_1_2 h_14_1_3=>?_
        refine okB (A:=fun e1=>p<=e1.1/\e1.1<=p+8/\e1.2.size<=3) ?_ (fun e1 h_e1=>?_)
        ·refine okW (fun(k:Nat) (v1:Int×Int×ByteArray)=>0<=v1.1/\v1.1<=(k:Int)/\(v1.2.2.size:Int)+v1.1<=3/\p<=v1.2.1/\v1.2.1+v1.1<=p+8) (fun k v1 hI=>?_) (3:Nat) _ ⟨au,au,au,au,au⟩
         obtain⟨i_0,i_1,i_2,i_3,i_4⟩:=hI
         unfold F.eG
         refine okD (fun c_0=>?_) (fun c_0=>?_)
         ·refine okG ?_
          refine okG ?_
          refine okG ?_
          refine aA fun r6 h_17_3_0 h_17_3_1 h_17_3_2 h_17_3_3=>?_
          refine okG ?_
          exact dy ⟨k-1,by omega,au,au,au,au,au⟩
         ·exact cU ⟨au,au,au⟩
        ·obtain⟨e1_0,e1_1,e1_2⟩:=h_e1
         exact cU ⟨au,au,au⟩
       ·refine okD (fun c_9=>?_) (fun c_9=>?_)
        ·refine okG ?_
         refine okG ?_
         refine okG ?_
         refine aA fun r5 h_14_1_0 h_14_1_1 h_14_1_2 h_14_1_3=>?_
         refine okB (A:=fun e1=>p<=e1.1/\e1.1<=p+8/\e1.2.size<=3) ?_ (fun e1 h_e1=>?_)
         ·refine okW (fun(k:Nat) (v1:Int×Int×ByteArray)=>0<=v1.1/\v1.1<=(k:Int)/\(v1.2.2.size:Int)+v1.1<=3/\p<=v1.2.1/\v1.2.1+v1.1<=p+8) (fun k v1 hI=>?_) (3:Nat) _ ⟨au,au,au,au,au⟩
          obtain⟨i_0,i_1,i_2,i_3,i_4⟩:=hI
          unfold F.eG
          refine okD (fun c_0=>?_) (fun c_0=>?_)
          ·refine okG ?_
           refine okG ?_
           refine okG ?_
           refine aA fun r6 h_17_3_0 h_17_3_1 h_17_3_2 h_17_3_3=>?_
           refine okG ?_
           exact dy ⟨k-1,by omega,au,au,au,au,au⟩
          ·exact cU ⟨au,au,au⟩
         ·obtain⟨e1_0,e1_1,e1_2⟩:=h_e1
          exact cU ⟨au,au,au⟩
        ·refine okG ?_
         refine okG ?_
         refine okG ?_
         refine aA fun r7 h_3_1_0 h_3_1_1 h_3_1_2 h_3_1_3=>?_
         exact cU ⟨au,au,au⟩
  ·obtain⟨e0_0,e0_1,e0_2⟩:=h_e0
   refine okG ?_
   refine okG ?_
   refine lP fun r8 h_18_2_0 h_18_2_1 h_18_2_2=>?_
   refine okC (fun c_10=>?_) (fun c_10=>?_)
   ·refine okG ?_
    refine okG ?_
    refine aA fun r9 h_19_1_0 h_19_1_1 h_19_1_2 h_19_1_3=>?_
    refine okD (fun c_11=>?_) (fun c_11=>?_)
    ·exact rY
    ·refine okD (fun c_12=>?_) (fun c_12=>?_)
     ·refine okG ?_
      exact rY
     ·refine okD (fun c_13=>?_) (fun c_13=>?_)
      ·refine okG ?_
       refine okG ?_
       refine aA fun r10 h_26_1_0 h_26_1_1 h_26_1_2 h_26_1_3=>?_
       exact rY
      ·refine okG ?_
       exact rY
   ·exact rY
theorem F.wm (b:(List Int)) (p:Int) (n:Int) (h_b:Sm (Ty.sl (Ty.int .u8)) b) (p0:M.ay b) (p1:0<=p) (p2:p<=998000000000000):F.iF b p n=some (M.eP b p n):=hH (F.ou b p n h_b p0 p1 p2)
theorem M.Ay (b:(List Int)) (p:Int) (n:Int) (h_b:Sm (Ty.sl (Ty.int .u8)) b) (p0:M.ay b) (p1:0<=p) (p2:p<=998000000000000):(M.eP b p n).1.2.2.1.size<=20/\p<=(M.eP b p n).2/\(M.eP b p n).2<=p+20:=hG (F.ou b p n h_b p0 p1 p2)
theorem gC {α:Type} {K:α->Prop} {f:aa.D×Int->Option α} {b:(List Int)} {p:Int} {n:Int} (k:∀r,(r.1.2.2.1.size<=20)->(p<=r.2)->(r.2<=p+20)->ok (f r) K) (h_b:Sm (Ty.sl (Ty.int .u8)) b:=by exact au) (p0:M.ay b:=by exact au) (p1:0<=p:=by exact au) (p2:p<=998000000000000:=by exact au):ok (aJ (M.eP b p n) f) K:=by
 have h:=M.Ay b p n h_b p0 p1 p2
 obtain⟨h0,h1,h2⟩:=h
 exact k _ h0 h1 h2
theorem F.qP (b:(List Int)) (p:Int) (columns:LC) (n:Int) (h_b:Sm (Ty.sl (Ty.int .u8)) b) (h_columns:Sm (Ty.sl ag) columns) (p0:M.ay b) (p1:0<=p) (p2:p<=997000000000000):ok (F.kO b p columns n) (fun r=>r.1.length<=columns.length+3/\(∀v∈r.1,v.2.2.1.size<=20)/\p<=r.2/\r.2<=p+3 * columns.length+70):=by
  unfold F.kO
  have hl:=h_columns.1
  refine okT (A:=fun v0=>p<=v0.1/\v0.1<=p+3 * (columns.length:Int)/\v0.2.length=columns.length/\(∀v∈v0.2,v.2.2.1.size<=20)) (B:=fun _=>False) ?_ (fun v0 h_v0=>?_) (fun _ h=>h.elim)
  ·refine HE (fun(k:Nat) (v0:Int×LV)=>p<=v0.1/\v0.1<=p+3 * (k:Int)/\v0.2.length=k/\(∀v∈v0.2,v.2.2.1.size<=20)) ⟨au,au,au,au⟩ (fun z0 hz k v0 hk hI=>?_)
   obtain⟨i_0,i_1,i_2,i_3⟩:=hI
   unfold F.jt
   refine okG ?_
   refine okG ?_
   refine okG ?_
   refine oN fun r1 h_5_6_0 h_5_6_1 h_5_6_2=>?_
   refine okG ?_
   exact dy ⟨au,au,au,au⟩
  ·obtain⟨v0_0,v0_1,v0_2,v0_3⟩:=h_v0
   refine okG ?_
   refine okG ?_
   refine lP fun r2 h_6_2_0 h_6_2_1 h_6_2_2=>?_
   refine okC (fun c_0=>?_) (fun c_0=>?_)
   ·refine okG ?_
    refine okG ?_
    refine aA fun r3 h_7_1_0 h_7_1_1 h_7_1_2 h_7_1_3=>?_
    refine okD (fun c_1=>?_) (fun c_1=>?_)
    ·refine okG ?_
     exact CW
    ·refine okD (fun c_2=>?_) (fun c_2=>?_)
     ·refine okD (fun c_3=>?_) (fun c_3=>?_)
      ·refine okG ?_
       refine okG ?_
       refine aA fun r4 h_13_4_0 h_13_4_1 h_13_4_2 h_13_4_3=>?_
       refine okG ?_
       refine okG ?_
       refine gC fun r5 h_13_6_0 h_13_6_1 h_13_6_2=>?_
       refine okG ?_
       refine okG ?_
       exact CW
      ·exact CW
     ·refine okG ?_
      refine okG ?_
      refine gC fun r6 h_8_2_0 h_8_2_1 h_8_2_2=>?_
      refine okG ?_
      refine okG ?_
      refine gC fun r7 h_8_4_0 h_8_4_1 h_8_4_2=>?_
      refine okG ?_
      refine okG ?_
      refine gC fun r8 h_8_6_0 h_8_6_1 h_8_6_2=>?_
      refine okG ?_
      exact CW
   ·exact CW
theorem F.yA (b:(List Int)) (p:Int) (columns:LC) (n:Int) (h_b:Sm (Ty.sl (Ty.int .u8)) b) (h_columns:Sm (Ty.sl ag) columns) (p0:M.ay b) (p1:0<=p) (p2:p<=997000000000000):F.kO b p columns n=some (M.mL b p columns n):=hH (F.qP b p columns n h_b h_columns p0 p1 p2)
theorem M.Cv (b:(List Int)) (p:Int) (columns:LC) (n:Int) (h_b:Sm (Ty.sl (Ty.int .u8)) b) (h_columns:Sm (Ty.sl ag) columns) (p0:M.ay b) (p1:0<=p) (p2:p<=997000000000000):(M.mL b p columns n).1.length<=columns.length+3/\(∀v∈(M.mL b p columns n).1,v.2.2.1.size<=20)/\p<=(M.mL b p columns n).2/\(M.mL b p columns n).2<=p+3 * columns.length+70:=hG (F.qP b p columns n h_b h_columns p0 p1 p2)
theorem ql {α:Type} {K:α->Prop} {f:LV×Int->Option α} {b:(List Int)} {p:Int} {columns:LC} {n:Int} (k:∀r,(r.1.length<=columns.length+3)->(∀v∈r.1,v.2.2.1.size<=20)->(p<=r.2)->(r.2<=p+3 * columns.length+70)->ok (f r) K) (h_b:Sm (Ty.sl (Ty.int .u8)) b:=by exact au) (h_columns:Sm (Ty.sl ag) columns:=by exact au) (p0:M.ay b:=by exact au) (p1:0<=p:=by exact au) (p2:p<=997000000000000:=by exact au):ok (aJ (M.mL b p columns n) f) K:=by
 have h:=M.Cv b p columns n h_b h_columns p0 p1 p2
 obtain⟨h0,h1,h2,h3⟩:=h
 exact k _ h0 h1 h2 h3
theorem F.At (row:LV) (h_row:Sm (Ty.sl aa) row):F.zD row=some row:=by
 rfl
theorem F.rH (b:(List Int)) (p:Int) (c:LC) (n:Int) (h_b:Sm (Ty.sl (Ty.int .u8)) b) (h_c:Sm (Ty.sl ag) c) (p0:M.ay b) (p1:0<=p) (p2:p<=996000000000000) (p3:c.length<=6):ok (F.kQ b p c n) (fun r=>r.1.length<=6/\(∀w∈r.1,M.vw w)/\p<=r.2/\r.2<=p+1000):=by
  unfold F.kQ
  have hl:=p3
  refine okG ?_
  refine aA fun r1 h_2_1_0 h_2_1_1 h_2_1_2 h_2_1_3=>?_
  refine okB (A:=fun e0=>p<=e0.1/\e0.1<=p+700/\e0.2.length<=6/\(∀w∈e0.2,M.vw w)) ?_ (fun e0 h_e0=>?_)
  ·refine okW (fun(k:Nat) (v0:Int×Int×LLV)=>0<=v0.1/\v0.1<=(k:Int)/\(v0.2.2.length:Int)+v0.1<=6/\(∀w∈v0.2.2,M.vw w)/\p<=v0.2.1/\v0.2.1+100 * v0.1<=p+700) (fun k v0 hI=>?_) (6:Nat) _ ⟨au,au,au,au,au,au⟩
   obtain⟨i_0,i_1,i_2,i_3,i_4,i_5⟩:=hI
   unfold F.jq
   refine okD (fun c_0=>?_) (fun c_0=>?_)
   ·refine Ca (fun c_1=>?_) (fun c_1=>?_)
    ·refine okG ?_
     refine okG ?_
     refine okG ?_
     refine aA fun r2 h_5_5_0 h_5_5_1 h_5_5_2 h_5_5_3=>?_
     refine okD (fun c_2=>?_) (fun c_2=>?_)
     ·refine okG ?_
      refine okG ?_
      refine aA fun r3 h_6_5_0 h_6_5_1 h_6_5_2 h_6_5_3=>?_
      refine okG ?_
      refine okG ?_
      refine okG ?_
      refine okL fun r4 er4=>?_
      have w_a:M.vw r4:=er4▸M.zR i_3 _
      refine okG ?_
      exact dy ⟨k-1,by omega,au,au,au,au,au,au⟩
     ·refine okG ?_
      refine okG ?_
      refine ql fun r5 h_7_4_0 h_7_4_1 h_7_4_2 h_7_4_3=>?_
      refine okG ?_
      exact dy ⟨k-1,by omega,au,au,au,au,au,au⟩
    ·refine okG ?_
     refine okG ?_
     refine okG ?_
     refine ql fun r5 h_7_4_0 h_7_4_1 h_7_4_2 h_7_4_3=>?_
     refine okG ?_
     exact dy ⟨k-1,by omega,au,au,au,au,au,au⟩
   ·exact cU ⟨au,au,au,au⟩
  ·obtain⟨e0_0,e0_1,e0_2,e0_3⟩:=h_e0
   exact CW
theorem F.ze (b:(List Int)) (p:Int) (c:LC) (n:Int) (h_b:Sm (Ty.sl (Ty.int .u8)) b) (h_c:Sm (Ty.sl ag) c) (p0:M.ay b) (p1:0<=p) (p2:p<=996000000000000) (p3:c.length<=6):F.kQ b p c n=some (M.pT b p c n):=hH (F.rH b p c n h_b h_c p0 p1 p2 p3)
theorem M.DI (b:(List Int)) (p:Int) (c:LC) (n:Int) (h_b:Sm (Ty.sl (Ty.int .u8)) b) (h_c:Sm (Ty.sl ag) c) (p0:M.ay b) (p1:0<=p) (p2:p<=996000000000000) (p3:c.length<=6):(M.pT b p c n).1.length<=6/\(∀w∈(M.pT b p c n).1,M.vw w)/\p<=(M.pT b p c n).2/\(M.pT b p c n).2<=p+1000:=hG (F.rH b p c n h_b h_c p0 p1 p2 p3)
theorem xS {α:Type} {K:α->Prop} {f:LLV×Int->Option α} {b:(List Int)} {p:Int} {c:LC} {n:Int} (k:∀r,(r.1.length<=6)->(∀w∈r.1,M.vw w)->(p<=r.2)->(r.2<=p+1000)->ok (f r) K) (h_b:Sm (Ty.sl (Ty.int .u8)) b:=by exact au) (h_c:Sm (Ty.sl ag) c:=by exact au) (p0:M.ay b:=by exact au) (p1:0<=p:=by exact au) (p2:p<=996000000000000:=by exact au) (p3:c.length<=6:=by exact au):ok (aJ (M.pT b p c n) f) K:=by
 have h:=M.DI b p c n h_b h_c p0 p1 p2 p3
 obtain⟨h0,h1,h2,h3⟩:=h
 exact k _ h0 h1 h2 h3
theorem F.nr (b:(List Int)) (p:Int) (n:Int) (h_b:Sm (Ty.sl (Ty.int .u8)) b) (p0:M.ay b) (p1:0<=p) (p2:p<=995000000000000) (p3:n=0):ok (F.gK b p n) (fun r=>r.1.length<=3/\1<=r.1.length/\(∀t∈r.1,M.lQ t)/\p<=r.2/\r.2<=p+10000):=by
  unfold F.gK
  refine okG ?_
  refine aA fun r1 h_2_1_0 h_2_1_1 h_2_1_2 h_2_1_3=>?_
  refine okB (A:=fun e0=>p<=e0.1/\e0.1<=p+6100/\e0.2.length<=3/\1<=e0.2.length/\(∀t∈e0.2,M.lQ t)) ?_ (fun e0 h_e0=>?_)
  ·refine okW (fun(k:Nat) (v0:Int×Int×LTb)=>0<=v0.1/\v0.1<=(k:Int)/\(v0.2.2.length:Int)+v0.1<=3/\1<=(v0.2.2.length:Int)+v0.1/\(∀t∈v0.2.2,M.lQ t)/\p<=v0.2.1/\v0.2.1+2000 * v0.1<=p+6100) (fun k v0 hI=>?_) (3:Nat) _ ⟨au,au,au,au,au,au,au⟩
   obtain⟨i_0,i_1,i_2,i_3,i_4,i_5,i_6⟩:=hI
   unfold F.gy
   refine okD (fun c_0=>?_) (fun c_0=>?_)
   ·refine okG ?_
    refine okG ?_
    refine okG ?_
    refine sg fun r2 h_5_1_0 h_5_1_1 h_5_1_2 h_5_1_3=>?_
    refine okG ?_
    refine okG ?_
    refine aA fun r3 h_6_2_0 h_6_2_1 h_6_2_2 h_6_2_3=>?_
    refine okG ?_
    refine okG ?_
    refine okG ?_
    refine okG ?_
    refine okG ?_
    refine okG ?_
    refine okG ?_
    refine xS fun r4 h_7_3_0 h_7_3_1 h_7_3_2 h_7_3_3=>?_
    refine okG ?_
    exact dy ⟨k-1,by omega,au,au,au,au,au,au,au⟩
   ·exact cU ⟨au,au,au,au,au⟩
  ·obtain⟨e0_0,e0_1,e0_2,e0_3,e0_4⟩:=h_e0
   refine okG ?_
   refine okG ?_
   refine lP fun r5 h_9_2_0 h_9_2_1 h_9_2_2=>?_
   refine okC (fun c_1=>?_) (fun c_1=>?_)
   ·exact okN
   ·exact zU
theorem F.tX (b:(List Int)) (p:Int) (n:Int) (h_b:Sm (Ty.sl (Ty.int .u8)) b) (p0:M.ay b) (p1:0<=p) (p2:p<=995000000000000) (p3:n=0):F.gK b p n=some (M.fZ b p n):=hH (F.nr b p n h_b p0 p1 p2 p3)
theorem M.yQ (b:(List Int)) (p:Int) (n:Int) (h_b:Sm (Ty.sl (Ty.int .u8)) b) (p0:M.ay b) (p1:0<=p) (p2:p<=995000000000000) (p3:n=0):(M.fZ b p n).1.length<=3/\1<=(M.fZ b p n).1.length/\(∀t∈(M.fZ b p n).1,M.lQ t)/\p<=(M.fZ b p n).2/\(M.fZ b p n).2<=p+10000:=hG (F.nr b p n h_b p0 p1 p2 p3)
theorem sQ {α:Type} {K:α->Prop} {f:LTb×Int->Option α} {b:(List Int)} {p:Int} {n:Int} (k:∀r,(r.1.length<=3)->(1<=r.1.length)->(∀t∈r.1,M.lQ t)->(p<=r.2)->(r.2<=p+10000)->ok (f r) K) (h_b:Sm (Ty.sl (Ty.int .u8)) b:=by exact au) (p0:M.ay b:=by exact au) (p1:0<=p:=by exact au) (p2:p<=995000000000000:=by exact au) (p3:n=0:=by exact au):ok (aJ (M.fZ b p n) f) K:=by
 have h:=M.yQ b p n h_b p0 p1 p2 p3
 obtain⟨h0,h1,h2,h3,h4⟩:=h
 exact k _ h0 h1 h2 h3 h4
theorem F.qu (b:(List Int)) (p:Int) (tables:LTb) (h_b:Sm (Ty.sl (Ty.int .u8)) b) (h_tables:Sm (Ty.sl az) tables) (p0:M.ay b) (p1:0<=p) (p2:p<=995000000000000) (p3:(∀t∈tables,M.lQ t)):ok (F.jm b p tables) (fun r=>r.1.length<=6/\1<=r.1.length/\(∀s∈r.1,M.fk s)/\p<=r.2/\r.2<=p+100000):=by
  unfold F.jm
  have hE:=M.Fl (d:=(2:Int))
  have hE2:M.eB (2:Int)=27:=by decide
  refine okG ?_
  refine aA fun r1 h_1_3_0 h_1_3_1 h_1_3_2 h_1_3_3=>?_
  refine okG ?_
  refine okG ?_
  refine aA fun r2 h_2_1_0 h_2_1_1 h_2_1_2 h_2_1_3=>?_
  refine okT (A:=fun e0=>p<=e0.1/\e0.1<=p+16000/\e0.2.length<=6/\1<=e0.2.length/\(∀s∈e0.2,M.fk s)) (B:=fun q0=>p<=q0.1/\q0.1<=p+16000/\q0.2.length<=6/\1<=q0.2.length/\(∀s∈q0.2,M.fk s)) ?_ (fun e0 h_e0=>?_) (fun q0 h_q0=>?_)
  ·refine okW (fun(k:Nat) (v0:Int×Int×LS)=>0<=v0.1/\v0.1<=(k:Int)/\(v0.2.2.length:Int)+v0.1<=6/\1<=v0.2.2.length/\(∀s∈v0.2.2,M.fk s)/\p<=v0.2.1/\v0.2.1+3000 * v0.1<=p+16000) (fun k v0 hI=>?_) (6:Nat) _ ⟨au,au,au,au,au,au,au⟩
   obtain⟨i_0,i_1,i_2,i_3,i_4,i_5,i_6⟩:=hI
   unfold F.iU
   refine okD (fun c_11=>?_) (fun c_11=>?_)
   ·refine okG ?_ (M.oQ (n:=1000) (by first | omega | (simp only[List.length_append,List.length_cons,List.length_nil];omega)) (by exact cl) (by decide))
    refine okL fun r3 er3=>?_
    have k_a:=M.uN p3 er3
    refine okC (fun c_12=>?_) (fun c_12=>?_)
    ·exact Ez ⟨au,au,au,au,au⟩
    ·have l_a:=M.xd er3 c_12
     have l_b:r3.1.length<=6:=by omega
     refine okG ?_
     refine okG ?_
     refine okG ?_
     refine aA fun r4 h_9_3_0 h_9_3_1 h_9_3_2 h_9_3_3=>?_
     have t_a:=M.Jt h_9_3_0 (h_9_3_1 (by decide)) (n:=(v0.2.2.length:Int)) (by omega) (by omega)
     refine okD (fun c_13=>?_) (fun c_13=>?_)
     ·refine okG ?_
      refine okG ?_
      refine aA fun r5 h_12_3_0 h_12_3_1 h_12_3_2 h_12_3_3=>?_
      refine okG ?_
      refine okG ?_
      refine aA fun r6 h_13_1_0 h_13_1_1 h_13_1_2 h_13_1_3=>?_
      refine okB (A:=fun e2=>v0.2.1<=e2.1/\e2.1<=v0.2.1+2000/\e2.2.2.2.2.2.1.length<=81/\(∀v∈e2.2.2.2.2.2.1,v.2.2.1.2.2.1.size<=20)/\e2.2.2.2.2.2.2.length<=3) ?_ (fun e2 h_e2=>?_)
      ·refine okW (fun(_:Nat) (_:Unit)=>True) (fun _ v2 _=>?_) 0 _ trivial
       unfold F.ee
       refine okD (fun c_3=>?_) (fun c_3=>?_)
       ·refine okG ?_
        refine okG ?_
        refine okG ?_ (M.kB rfl (M.ki k_a _) (by decide))
        refine okG ?_
        refine okG ?_
        refine okG ?_
        refine okG ?_
        refine okG ?_
        refine dA fun r7 h_15_6_0 h_15_6_1 h_15_6_2 h_15_6_3 h_15_6_4=>?_
        exact cU ⟨au,au,au,au,au⟩
       ·refine okD (fun c_4=>?_) (fun c_4=>?_)
        ·refine okG ?_
         refine okG ?_
         refine okG ?_
         refine aA fun r8 h_18_1_0 h_18_1_1 h_18_1_2 h_18_1_3=>?_
         refine okB (A:=fun e3=>v0.2.1<=e3.1/\e3.1<=v0.2.1+30/\e3.2.length<=3) ?_ (fun e3 h_e3=>?_)
         ·refine okW (fun(k:Nat) (v3:Int×Int×(List Int))=>0<=v3.1+1/\v3.1+1<=(k:Int)/\(v3.2.2.length:Int)+v3.1<=2/\v0.2.1<=v3.2.1/\v3.2.1+v3.1<=v0.2.1+20) (fun k v3 hI=>?_) (3:Nat) _ ⟨au,au,au,au,au⟩
          obtain⟨i_0,i_1,i_2,i_3,i_4⟩:=hI
          unfold F.fW
          refine Ca (fun c_0=>?_) (fun c_0=>?_)
          ·refine okG ?_
           refine okG ?_
           refine okD (fun c_1=>?_) (fun c_1=>?_)
           ·refine okG ?_
            refine okG ?_
            refine okG ?_
            refine aA fun r9 h_21_8_0 h_21_8_1 h_21_8_2 h_21_8_3=>?_
            refine okG ?_ (by simp only[List.length_cons,List.length_nil,List.length_append,lim];omega)
            exact dy ⟨k-1,by omega,au,au,au,au,au⟩
           ·exact cU ⟨au,au,au⟩
          ·exact cU ⟨au,au,au⟩
         ·obtain⟨e3_0,e3_1,e3_2⟩:=h_e3
          exact cU ⟨au,au,au,au,au⟩
        ·refine okD (fun c_5=>?_) (fun c_5=>?_)
         ·refine okG ?_
          refine okG ?_
          refine okG ?_
          refine aA fun r10 h_24_2_0 h_24_2_1 h_24_2_2 h_24_2_3=>?_
          refine okG ?_
          refine okG ?_
          refine okG ?_
          refine okG ?_
          refine okG ?_ (M.jl1 k_a)
          refine okG ?_ (M.jl2 k_a)
          refine okD (fun c_6=>?_) (fun c_6=>?_)
          ·refine okG ?_ (M.jl3 k_a)
           refine okG ?_
           refine okG ?_
           refine okG ?_
           refine okG ?_
           refine dA fun r11 h_27_4_0 h_27_4_1 h_27_4_2 h_27_4_3 h_27_4_4=>?_
           exact cU ⟨au,au,au,au,au⟩
          ·exact cU ⟨au,au,au,au,au⟩
         ·refine okD (fun c_7=>?_) (fun c_7=>?_)
          ·refine okG ?_
           refine okG ?_
           refine okG ?_
           refine aA fun r10 h_24_2_0 h_24_2_1 h_24_2_2 h_24_2_3=>?_
           refine okG ?_
           refine okG ?_
           refine okG ?_
           refine okG ?_
           refine okG ?_ (M.jl1 k_a)
           refine okG ?_ (M.jl2 k_a)
           refine okD (fun c_8=>?_) (fun c_8=>?_)
           ·refine okG ?_ (M.jl3 k_a)
            refine okG ?_
            refine okG ?_
            refine okG ?_
            refine okG ?_
            refine dA fun r11 h_27_4_0 h_27_4_1 h_27_4_2 h_27_4_3 h_27_4_4=>?_
            exact cU ⟨au,au,au,au,au⟩
           ·exact cU ⟨au,au,au,au,au⟩
          ·refine okD (fun c_9=>?_) (fun c_9=>?_)
           ·refine okG ?_ (by unfold fG;omega)
            refine okT (A:=fun v5=>(0:Int)<=0/\(0:Int)<=0) (B:=fun _=>False) ?_ (fun v5 h_v5=>?_) (fun _ h=>h.elim)
            ·refine HE (fun(k:Nat) (v5:Int×Int×Int×Int)=>(0:Int)<=0/\(0:Int)<=0) ⟨au,au⟩ (fun z5 hz k v5 hk hI=>?_)
             obtain⟨i_0,i_1⟩:=hI
             unfold F.fQ
             refine okG ?_ (M.Cp l_b k_a (by decide))
             refine okL fun r12 er12=>?_
             refine okC (fun c_2=>?_) (fun c_2=>?_)
             ·exact dy ⟨au,au⟩
             ·exact dy ⟨au,au⟩
            ·obtain⟨v5_0,v5_1⟩:=h_v5
             exact cU ⟨au,au,au,au,au⟩
           ·refine okD (fun c_10=>?_) (fun c_10=>?_)
            ·exact cU ⟨au,au,au,au,au⟩
            ·exact cU ⟨au,au,au,au,au⟩
      ·obtain⟨e2_0,e2_1,e2_2,e2_3,e2_4⟩:=h_e2
       refine okG ?_ (by simp only[List.length_cons,List.length_nil,List.length_append,lim];omega)
       refine okG ?_ (by simp only[List.length_cons,List.length_nil,List.length_append,lim];omega)
       refine okG ?_ (M.oQ (n:=1000) (by first | omega | (simp only[List.length_append,List.length_cons,List.length_nil];omega)) (by exact cl) (by decide))
       refine okL fun r13 er13=>?_
       refine okC (fun c_14=>?_) (fun c_14=>?_)
       ·refine okG ?_ (by simp only[List.length_cons,List.length_nil,List.length_append,lim];omega)
        exact dy ⟨k-1,by omega,au,au,au,au,au,au,au⟩
       ·exact dy ⟨k-1,by omega,au,au,au,au,au,au,au⟩
     ·refine okG ?_
      refine okG ?_
      refine aA fun r5 h_12_3_0 h_12_3_1 h_12_3_2 h_12_3_3=>?_
      refine okG ?_
      refine okG ?_
      refine aA fun r6 h_13_1_0 h_13_1_1 h_13_1_2 h_13_1_3=>?_
      refine okB (A:=fun e2=>v0.2.1<=e2.1/\e2.1<=v0.2.1+2000/\e2.2.2.2.2.2.1.length<=81/\(∀v∈e2.2.2.2.2.2.1,v.2.2.1.2.2.1.size<=20)/\e2.2.2.2.2.2.2.length<=3) ?_ (fun e2 h_e2=>?_)
      ·refine okW (fun(_:Nat) (_:Unit)=>True) (fun _ v2 _=>?_) 0 _ trivial
       unfold F.ee
       refine okD (fun c_3=>?_) (fun c_3=>?_)
       ·refine okG ?_
        refine okG ?_
        refine okG ?_ (M.kB rfl (M.ki k_a _) (by decide))
        refine okG ?_
        refine okG ?_
        refine okG ?_
        refine okG ?_
        refine okG ?_
        refine dA fun r7 h_15_6_0 h_15_6_1 h_15_6_2 h_15_6_3 h_15_6_4=>?_
        exact cU ⟨au,au,au,au,au⟩
       ·refine okD (fun c_4=>?_) (fun c_4=>?_)
        ·refine okG ?_
         refine okG ?_
         refine okG ?_
         refine aA fun r8 h_18_1_0 h_18_1_1 h_18_1_2 h_18_1_3=>?_
         refine okB (A:=fun e3=>v0.2.1<=e3.1/\e3.1<=v0.2.1+30/\e3.2.length<=3) ?_ (fun e3 h_e3=>?_)
         ·refine okW (fun(k:Nat) (v3:Int×Int×(List Int))=>0<=v3.1+1/\v3.1+1<=(k:Int)/\(v3.2.2.length:Int)+v3.1<=2/\v0.2.1<=v3.2.1/\v3.2.1+v3.1<=v0.2.1+20) (fun k v3 hI=>?_) (3:Nat) _ ⟨au,au,au,au,au⟩
          obtain⟨i_0,i_1,i_2,i_3,i_4⟩:=hI
          unfold F.fW
          refine Ca (fun c_0=>?_) (fun c_0=>?_)
          ·refine okG ?_
           refine okG ?_
           refine okD (fun c_1=>?_) (fun c_1=>?_)
           ·refine okG ?_
            refine okG ?_
            refine okG ?_
            refine aA fun r9 h_21_8_0 h_21_8_1 h_21_8_2 h_21_8_3=>?_
            refine okG ?_ (by simp only[List.length_cons,List.length_nil,List.length_append,lim];omega)
            exact dy ⟨k-1,by omega,au,au,au,au,au⟩
           ·exact cU ⟨au,au,au⟩
          ·exact cU ⟨au,au,au⟩
         ·obtain⟨e3_0,e3_1,e3_2⟩:=h_e3
          exact cU ⟨au,au,au,au,au⟩
        ·refine okD (fun c_5=>?_) (fun c_5=>?_)
         ·refine okG ?_
          refine okG ?_
          refine okG ?_
          refine aA fun r10 h_24_2_0 h_24_2_1 h_24_2_2 h_24_2_3=>?_
          refine okG ?_
          refine okG ?_
          refine okG ?_
          refine okG ?_
          refine okG ?_ (M.jl1 k_a)
          refine okG ?_ (M.jl2 k_a)
          refine okD (fun c_6=>?_) (fun c_6=>?_)
          ·refine okG ?_ (M.jl3 k_a)
           refine okG ?_
           refine okG ?_
           refine okG ?_
           refine okG ?_
           refine dA fun r11 h_27_4_0 h_27_4_1 h_27_4_2 h_27_4_3 h_27_4_4=>?_
           exact cU ⟨au,au,au,au,au⟩
          ·exact cU ⟨au,au,au,au,au⟩
         ·refine okD (fun c_7=>?_) (fun c_7=>?_)
          ·refine okG ?_
           refine okG ?_
           refine okG ?_
           refine aA fun r10 h_24_2_0 h_24_2_1 h_24_2_2 h_24_2_3=>?_
           refine okG ?_
           refine okG ?_
           refine okG ?_
           refine okG ?_
           refine okG ?_ (M.jl1 k_a)
           refine okG ?_ (M.jl2 k_a)
           refine okD (fun c_8=>?_) (fun c_8=>?_)
           ·refine okG ?_ (M.jl3 k_a)
            refine okG ?_
            refine okG ?_
            refine okG ?_
            refine okG ?_
            refine dA fun r11 h_27_4_0 h_27_4_1 h_27_4_2 h_27_4_3 h_27_4_4=>?_
            exact cU ⟨au,au,au,au,au⟩
           ·exact cU ⟨au,au,au,au,au⟩
          ·refine okD (fun c_9=>?_) (fun c_9=>?_)
           ·refine okG ?_ (by unfold fG;omega)
            refine okT (A:=fun v5=>(0:Int)<=0/\(0:Int)<=0) (B:=fun _=>False) ?_ (fun v5 h_v5=>?_) (fun _ h=>h.elim)
            ·refine HE (fun(k:Nat) (v5:Int×Int×Int×Int)=>(0:Int)<=0/\(0:Int)<=0) ⟨au,au⟩ (fun z5 hz k v5 hk hI=>?_)
             obtain⟨i_0,i_1⟩:=hI
             unfold F.fQ
             refine okG ?_ (M.Cp l_b k_a (by decide))
             refine okL fun r12 er12=>?_
             refine okC (fun c_2=>?_) (fun c_2=>?_)
             ·exact dy ⟨au,au⟩
             ·exact dy ⟨au,au⟩
            ·obtain⟨v5_0,v5_1⟩:=h_v5
             exact cU ⟨au,au,au,au,au⟩
           ·refine okD (fun c_10=>?_) (fun c_10=>?_)
            ·exact cU ⟨au,au,au,au,au⟩
            ·exact cU ⟨au,au,au,au,au⟩
      ·obtain⟨e2_0,e2_1,e2_2,e2_3,e2_4⟩:=h_e2
       refine okG ?_ (by simp only[List.length_cons,List.length_nil,List.length_append,lim];omega)
       refine okG ?_ (by simp only[List.length_cons,List.length_nil,List.length_append,lim];omega)
       refine okG ?_ (M.oQ (n:=1000) (by first | omega | (simp only[List.length_append,List.length_cons,List.length_nil];omega)) (by exact cl) (by decide))
       refine okL fun r13 er13=>?_
       refine okC (fun c_15=>?_) (fun c_15=>?_)
       ·refine okG ?_ (by simp only[List.length_cons,List.length_nil,List.length_append,lim];omega)
        exact dy ⟨k-1,by omega,au,au,au,au,au,au,au⟩
       ·exact dy ⟨k-1,by omega,au,au,au,au,au,au,au⟩
   ·exact zV ⟨au,au,au,au,au⟩
  ·obtain⟨e0_0,e0_1,e0_2,e0_3,e0_4⟩:=h_e0
   exact zU
  ·obtain⟨q0_0,q0_1,q0_2,q0_3,q0_4⟩:=h_q0
   exact zU
theorem F.xF (b:(List Int)) (p:Int) (tables:LTb) (h_b:Sm (Ty.sl (Ty.int .u8)) b) (h_tables:Sm (Ty.sl az) tables) (p0:M.ay b) (p1:0<=p) (p2:p<=995000000000000) (p3:(∀t∈tables,M.lQ t)):F.jm b p tables=some (M.kE b p tables):=hH (F.qu b p tables h_b h_tables p0 p1 p2 p3)
theorem M.Cl (b:(List Int)) (p:Int) (tables:LTb) (h_b:Sm (Ty.sl (Ty.int .u8)) b) (h_tables:Sm (Ty.sl az) tables) (p0:M.ay b) (p1:0<=p) (p2:p<=995000000000000) (p3:(∀t∈tables,M.lQ t)):(M.kE b p tables).1.length<=6/\1<=(M.kE b p tables).1.length/\(∀s∈(M.kE b p tables).1,M.fk s)/\p<=(M.kE b p tables).2/\(M.kE b p tables).2<=p+100000:=hG (F.qu b p tables h_b h_tables p0 p1 p2 p3)
theorem vt {α:Type} {K:α->Prop} {f:LS×Int->Option α} {b:(List Int)} {p:Int} {tables:LTb} (k:∀r,(r.1.length<=6)->(1<=r.1.length)->(∀s∈r.1,M.fk s)->(p<=r.2)->(r.2<=p+100000)->ok (f r) K) (h_b:Sm (Ty.sl (Ty.int .u8)) b:=by exact au) (h_tables:Sm (Ty.sl az) tables:=by exact au) (p0:M.ay b:=by exact au) (p1:0<=p:=by exact au) (p2:p<=995000000000000:=by exact au) (p3:(∀t∈tables,M.lQ t):=by exact au):ok (aJ (M.kE b p tables) f) K:=by
 have h:=M.Cl b p tables h_b h_tables p0 p1 p2 p3
 obtain⟨h0,h1,h2,h3,h4⟩:=h
 exact k _ h0 h1 h2 h3 h4
theorem F.oI (b:(List Int)) (p:Int) (h_b:Sm (Ty.sl (Ty.int .u8)) b) (p0:M.ay b) (p1:0<=p) (p2:p<=994000000000000):ok (F.iJ b p) (fun r=>r.1.length<=3/\1<=r.1.length/\(∀t∈r.1,M.lQ t)/\r.2.1.length<=6/\1<=r.2.1.length/\(∀s∈r.2.1,M.fk s)/\p<=r.2.2/\r.2.2<=p+200000):=by
  unfold F.iJ
  have hE1:M.eB (1:Int)=9:=by decide
  refine okG ?_
  refine okG ?_
  refine sQ fun r1 h_1_1_0 h_1_1_1 h_1_1_2 h_1_1_3 h_1_1_4=>?_
  refine okG ?_
  refine okG ?_
  refine okG ?_
  refine okG ?_
  refine vt fun r2 h_2_2_0 h_2_2_1 h_2_2_2 h_2_2_3 h_2_2_4=>?_
  refine okB (A:=fun e0=>e0.2.length<=6/\1<=e0.2.length/\(∀s∈e0.2,M.fk s)/\p<=e0.1/\e0.1<=p+120000) ?_ (fun e0 h_e0=>?_)
  ·refine okW (fun(k:Nat) (v0:Int×LS)=>(v0.2.length:Int)<=(k:Int)/\v0.2.length<=6/\1<=v0.2.length/\(∀s∈v0.2,M.fk s)/\p<=v0.1/\v0.1+(v0.2.length:Int)<=p+120000) (fun k v0 hI=>?_) (6:Nat) _ ⟨au,au,au,au,au,au⟩
   obtain⟨i_0,i_1,i_2,i_3,i_4,i_5⟩:=hI
   unfold F.ic
   refine Ca (fun c_0=>?_) (fun c_0=>?_)
   ·refine okG ?_
    refine okG ?_
    refine okG ?_
    refine aA fun r3 h_3_5_0 h_3_5_1 h_3_5_2 h_3_5_3=>?_
    have w_a:wrap64 ((v0.2.length:Int)-(1:Int))=(v0.2.length:Int)-1:=aI (by omega) (by omega)
    have w_b:(aj v0.2 (some ((0:Int),wrap64 ((v0.2.length:Int)-(1:Int))))).length=v0.2.length-1:=by rw[w_a,M.Jh (by omega) (by omega)];omega
    refine okD (fun c_1=>?_) (fun c_1=>?_)
    ·refine okG ?_
     refine okG ?_
     exact dy ⟨k-1,by omega,au,au,au,au,au,au⟩
    ·exact cU ⟨au,au,au,au,au⟩
   ·exact cU ⟨au,au,au,au,au⟩
  ·obtain⟨e0_0,e0_1,e0_2,e0_3,e0_4⟩:=h_e0
   refine okT (A:=fun e2=>e2.2.length<=6/\1<=e2.2.length/\(∀s∈e2.2,M.fk s)/\p<=e2.1/\e2.1<=p+140000) (B:=fun q2=>q2.2.length<=6/\1<=q2.2.length/\(∀s∈q2.2,M.fk s)/\p<=q2.1/\q2.1<=p+140000) ?_ (fun e2 h_e2=>?_) (fun q2 h_q2=>?_)
   ·refine okW (fun(k:Nat) (v2:Int×LS)=>(v2.2.length:Int)+(k:Int)=6/\v2.2.length<=6/\1<=v2.2.length/\(∀s∈v2.2,M.fk s)/\p<=v2.1/\v2.1+1000 * (k:Int)<=p+130000) (fun k v2 hI=>?_) (6-e0.2.length:Nat) _ ⟨au,au,au,au,au,au⟩
    obtain⟨i_0,i_1,i_2,i_3,i_4,i_5⟩:=hI
    unfold F.ia
    refine Ca (fun c_4=>?_) (fun c_4=>?_)
    ·refine okG ?_
     refine okG ?_
     refine okG ?_
     refine aA fun r4 h_5_5_0 h_5_5_1 h_5_5_2 h_5_5_3=>?_
     refine okD (fun c_5=>?_) (fun c_5=>?_)
     ·refine okG ?_
      refine okG ?_ (M.oQ (n:=1000) (by first | omega | (simp only[List.length_append,List.length_cons,List.length_nil];omega)) (by exact cl) (by decide))
      refine okL fun r5 er5=>?_
      have k_a:=M.uN h_1_1_2 er5
      have w_a:wrap64 ((v2.2.length:Int)-(1:Int))=(v2.2.length:Int)-1:=aI (by omega) (by omega)
      refine okC (fun c_6=>?_) (fun c_6=>?_)
      ·exact Ez ⟨au,au,au,au,au⟩
      ·have l_a:=M.xd er5 c_6
       refine okG ?_
       refine okG ?_
       refine okG ?_ (M.kB rfl (M.ki k_a _) (by decide))
       refine okG ?_
       refine okG ?_
       refine okG ?_
       refine okG ?_
       refine dA fun r6 h_10_6_0 h_10_6_1 h_10_6_2 h_10_6_3 h_10_6_4=>?_
       refine okG ?_
       refine okG ?_
       refine aA fun r7 h_11_1_0 h_11_1_1 h_11_1_2 h_11_1_3=>?_
       refine okD (fun c_7=>?_) (fun c_7=>?_)
       ·refine okG ?_ (by simp only[List.length_cons,List.length_nil,List.length_append,lim];omega)
        exact dy ⟨k-1,by omega,au,au,au,au,au,au⟩
       ·refine okD (fun c_8=>?_) (fun c_8=>?_)
        ·refine okG ?_
         refine okG ?_
         refine aA fun r8 h_16_1_0 h_16_1_1 h_16_1_2 h_16_1_3=>?_
         refine okB (A:=fun e5=>v2.1<=e5.1/\e5.1<=v2.1+420/\e5.2.length<=3) ?_ (fun e5 h_e5=>?_)
         ·refine okW (fun(k:Nat) (v5:Int×Int×(List Int))=>0<=v5.1+1/\v5.1+1<=(k:Int)/\(v5.2.2.length:Int)+v5.1<=2/\v2.1<=v5.2.1/\v5.2.1+v5.1<=v2.1+400) (fun k v5 hI=>?_) (3:Nat) _ ⟨au,au,au,au,au⟩
          obtain⟨i_0,i_1,i_2,i_3,i_4⟩:=hI
          unfold F.iq
          refine Ca (fun c_2=>?_) (fun c_2=>?_)
          ·refine okG ?_
           refine okG ?_
           refine okD (fun c_3=>?_) (fun c_3=>?_)
           ·refine okG ?_
            refine okG ?_
            refine okG ?_
            refine aA fun r9 h_19_8_0 h_19_8_1 h_19_8_2 h_19_8_3=>?_
            refine okG ?_ (by simp only[List.length_cons,List.length_nil,List.length_append,lim];omega)
            exact dy ⟨k-1,by omega,au,au,au,au,au⟩
           ·exact cU ⟨au,au,au⟩
          ·exact cU ⟨au,au,au⟩
         ·obtain⟨e5_0,e5_1,e5_2⟩:=h_e5
          refine okG ?_ (by simp only[List.length_cons,List.length_nil,List.length_append,lim];omega)
          exact dy ⟨k-1,by omega,au,au,au,au,au,au⟩
        ·refine okG ?_ (by simp only[List.length_cons,List.length_nil,List.length_append,lim];omega)
         exact dy ⟨k-1,by omega,au,au,au,au,au,au⟩
     ·exact zV ⟨au,au,au,au,au⟩
    ·exact zV ⟨au,au,au,au,au⟩
   ·obtain⟨e2_0,e2_1,e2_2,e2_3,e2_4⟩:=h_e2
    exact JO
   ·obtain⟨q2_0,q2_1,q2_2,q2_3,q2_4⟩:=h_q2
    exact JO
theorem F.wv (b:(List Int)) (p:Int) (h_b:Sm (Ty.sl (Ty.int .u8)) b) (p0:M.ay b) (p1:0<=p) (p2:p<=994000000000000):F.iJ b p=some (M.eK b p):=hH (F.oI b p h_b p0 p1 p2)
theorem M.Ap (b:(List Int)) (p:Int) (h_b:Sm (Ty.sl (Ty.int .u8)) b) (p0:M.ay b) (p1:0<=p) (p2:p<=994000000000000):(M.eK b p).1.length<=3/\1<=(M.eK b p).1.length/\(∀t∈(M.eK b p).1,M.lQ t)/\(M.eK b p).2.1.length<=6/\1<=(M.eK b p).2.1.length/\(∀s∈(M.eK b p).2.1,M.fk s)/\p<=(M.eK b p).2.2/\(M.eK b p).2.2<=p+200000:=hG (F.oI b p h_b p0 p1 p2)
theorem nq {α:Type} {K:α->Prop} {f:LTb×LS×Int->Option α} {b:(List Int)} {p:Int} (k:∀r,(r.1.length<=3)->(1<=r.1.length)->(∀t∈r.1,M.lQ t)->(r.2.1.length<=6)->(1<=r.2.1.length)->(∀s∈r.2.1,M.fk s)->(p<=r.2.2)->(r.2.2<=p+200000)->ok (f r) K) (h_b:Sm (Ty.sl (Ty.int .u8)) b:=by exact au) (p0:M.ay b:=by exact au) (p1:0<=p:=by exact au) (p2:p<=994000000000000:=by exact au):ok (aJ (M.eK b p) f) K:=by
 have h:=M.Ap b p h_b p0 p1 p2
 obtain⟨h0,h1,h2,h3,h4,h5,h6,h7⟩:=h
 exact k _ h0 h1 h2 h3 h4 h5 h6 h7
theorem F.js (code:(List Int)) (h_code:Sm (Ty.sl (Ty.int .u8)) code) (p0:M.ay code):ok (F.ez code) (fun r=>r.1.length<=3/\1<=r.1.length/\(∀t∈r.1,M.lQ t)/\r.2.1.length<=6/\1<=r.2.1.length/\(∀s∈r.2.1,M.fk s)):=by
  unfold F.ez
  have hR:(aY (0:Int) (12:Int)).length=12:=by decide
  refine okD (fun c_1=>?_) (fun c_1=>?_)
  ·refine okG ?_
   refine okG ?_
   refine okG ?_
   refine okG ?_
   refine okG ?_
   refine nq fun r1 h_2_1_0 h_2_1_1 h_2_1_2 h_2_1_3 h_2_1_4 h_2_1_5 h_2_1_6 h_2_1_7=>?_
   refine okG ?_
   refine okG ?_
   refine aA fun r2 h_3_3_0 h_3_3_1 h_3_3_2 h_3_3_3=>?_
   refine okG ?_
   refine okG ?_
   refine aA fun r3 h_4_1_0 h_4_1_1 h_4_1_2 h_4_1_3=>?_
   refine okT (A:=fun v0=>0<=v0.2.2/\v0.2.2<=200010+((aY (0:Int) (12:Int)).length:Int)) (B:=fun q0=>(0:Int)<=0) ?_ (fun v0 h_v0=>?_) (fun q0 h_q0=>?_)
   ·refine HE (fun(k:Nat) (v0:Int×Int×Int)=>0<=v0.2.2/\v0.2.2<=200010+(k:Int)) ⟨au,au⟩ (fun i0 hz k v0 hk hI=>?_)
    obtain⟨i_0,i_1⟩:=hI
    unfold F.cv
    refine okG ?_
    refine okG ?_
    refine okL fun r4 er4=>?_
    refine okC (fun c_0=>?_) (fun c_0=>?_)
    ·exact cU au
    ·refine okG ?_
     refine okG ?_
     refine okG ?_
     refine okG ?_
     refine aA fun r5 h_12_1_0 h_12_1_1 h_12_1_2 h_12_1_3=>?_
     exact dy ⟨au,au⟩
   ·obtain⟨v0_0,v0_1⟩:=h_v0
    refine okG ?_
    refine okG ?_
    refine aA fun r6 h_13_4_0 h_13_4_1 h_13_4_2 h_13_4_3=>?_
    refine okG ?_
    refine okG ?_
    refine aA fun r7 h_13_10_0 h_13_10_1 h_13_10_2 h_13_10_3=>?_
    exact Ih
   ·exact Ih
  ·refine okG ?_
   refine okG ?_
   refine nq fun r1 h_2_1_0 h_2_1_1 h_2_1_2 h_2_1_3 h_2_1_4 h_2_1_5 h_2_1_6 h_2_1_7=>?_
   refine okG ?_
   refine okG ?_
   refine aA fun r2 h_3_3_0 h_3_3_1 h_3_3_2 h_3_3_3=>?_
   refine okG ?_
   refine okG ?_
   refine aA fun r3 h_4_1_0 h_4_1_1 h_4_1_2 h_4_1_3=>?_
   refine okT (A:=fun v0=>0<=v0.2.2/\v0.2.2<=200010+((aY (0:Int) (12:Int)).length:Int)) (B:=fun q0=>(0:Int)<=0) ?_ (fun v0 h_v0=>?_) (fun q0 h_q0=>?_)
   ·refine HE (fun(k:Nat) (v0:Int×Int×Int)=>0<=v0.2.2/\v0.2.2<=200010+(k:Int)) ⟨au,au⟩ (fun i0 hz k v0 hk hI=>?_)
    obtain⟨i_0,i_1⟩:=hI
    unfold F.cv
    refine okG ?_
    refine okG ?_
    refine okL fun r4 er4=>?_
    refine okC (fun c_0=>?_) (fun c_0=>?_)
    ·exact cU au
    ·refine okG ?_
     refine okG ?_
     refine okG ?_
     refine okG ?_
     refine aA fun r5 h_12_1_0 h_12_1_1 h_12_1_2 h_12_1_3=>?_
     exact dy ⟨au,au⟩
   ·obtain⟨v0_0,v0_1⟩:=h_v0
    refine okG ?_
    refine okG ?_
    refine aA fun r6 h_13_4_0 h_13_4_1 h_13_4_2 h_13_4_3=>?_
    refine okG ?_
    refine okG ?_
    refine aA fun r7 h_13_10_0 h_13_10_1 h_13_10_2 h_13_10_3=>?_
    exact Ih
   ·exact Ih
theorem F.qk (code:(List Int)) (h_code:Sm (Ty.sl (Ty.int .u8)) code) (p0:M.ay code):F.ez code=some (M.cA code):=hH (F.js code h_code p0)
theorem M.lI (code:(List Int)) (h_code:Sm (Ty.sl (Ty.int .u8)) code) (p0:M.ay code):(M.cA code).1.length<=3/\1<=(M.cA code).1.length/\(∀t∈(M.cA code).1,M.lQ t)/\(M.cA code).2.1.length<=6/\1<=(M.cA code).2.1.length/\(∀s∈(M.cA code).2.1,M.fk s):=hG (F.js code h_code p0)
theorem Bp {α:Type} {K:α->Prop} {f:LTb×LS×Int×Int->Option α} {code:(List Int)} (k:∀r,(r.1.length<=3)->(1<=r.1.length)->(∀t∈r.1,M.lQ t)->(r.2.1.length<=6)->(1<=r.2.1.length)->(∀s∈r.2.1,M.fk s)->ok (f r) K) (h_code:Sm (Ty.sl (Ty.int .u8)) code:=by exact au) (p0:M.ay code:=by exact au):ok (aJ (M.cA code) f) K:=by
 have h:=M.lI code h_code p0
 obtain⟨h0,h1,h2,h3,h4,h5⟩:=h
 exact k _ h0 h1 h2 h3 h4 h5
theorem F.yx (xs:LPt) (h_xs:Sm (Ty.sl ax) xs):F.wO xs=some xs:=by
 exact M.rP (t:=ax)
theorem F.xT (xs:(List Int)) (h_xs:Sm (Ty.sl (Ty.int .i64)) xs):F.uR xs=some xs:=by
 exact M.rP (t:=(Ty.int .i64))
theorem F.zb (kind:Int)  : F.qX kind=some (M.two kind):=by
 unfold F.qX M.two
 cases decide (kind=(4:Int))<;>rfl
theorem F.vZ (plan:LS) (h_plan:Sm (Ty.sl ah) plan):F.nR plan=some plan:=by
 unfold F.nR
 rw[uZ (fun r=>r) (fun x hx s hs=>by
  have hl:=h_plan.1
  simp only[F.gT,bz,M.jZ]
  rw[ai (by unfold lim;simp;omega)]),M.yo,aX,M.ju]
theorem F.AA (n:Int) (p0:0<=n) (p1:n<=1099511627776):F.sL n=some ([]:List ax.D):=by
 unfold F.sL
 have e:wrap64 (n-wrap64 ((0:Int)-(0:Int)))=n:=by
  rw[show wrap64 ((0:Int)-(0:Int))=0 by decide,Int.sub_zero]
  exact aI (by omega) (by omega)
 rw[decide_eq_false (by omega),e]
 by_cases h:0<n
 ·rw[decide_eq_true h]
  simp only[cond_true,cond_false]
  rw[ai p0,ai (by unfold lim;omega)]
  rfl
 ·rw[decide_eq_false h]
  rfl
theorem F.xU (xss:(List LPt)) (h_xss:Sm (Ty.sl (Ty.sl ax)) xss):F.pZ xss=some (List.flatten xss):=by
 unfold F.pZ
 exact M.oY (t:=ax) h_xss (fun z v h0 h1=>by
  unfold F.iL
  rw[aI (n:=v+(z.length:Int)) (by omega) (by omega),decide_eq_false (by omega)]
  rfl) (fun z v h1=>by
  unfold F.iO
  rw[ai (by unfold lim;omega)])
theorem F.Co (a:LPt) (b:LPt) (h_a:Sm (Ty.sl ax) a) (h_b:Sm (Ty.sl ax) b):F.vC a b=some (M.fS a b):=by
 unfold F.vC
 have hA:Sm ax M.DX:=⟨trivial,trivial,⟨trivial,trivial,Nat.zero_le _,trivial⟩,trivial⟩
 have hS:Sm (.sl (.sl ax)) [a,b,[M.DX]]:=by
  refine⟨show 3<=1048576 by decide,fun x hx=>?_⟩
  rcases List.mem_cons.1 hx with rfl | hx
  ·exact h_a
  rcases List.mem_cons.1 hx with rfl | hx
  ·exact h_b
  rw[List.mem_singleton.1 hx]
  exact⟨show 1<=1048576 by decide,fun y hy=>by rw[List.mem_singleton.1 hy];exact hA⟩
 refine(ai hS).trans ?_
 show some (List.flatten [a,b,[M.DX]])=some (a++b++[M.DX])
 simp
theorem F.uS (e:LPt) (to:(List Int)) (h_e:Sm (Ty.sl ax) e) (h_to:Sm (Ty.sl (Ty.int .i64)) to) (p0:M.od e to.length):F.mj e to=some (M.lJ e to):=by
 unfold F.mj
 have hl:=h_e.1
 rw[bz,ai (by unfold fG;omega)]
 have:=vi (t:=ax) (ρ:=Unit) (M.kW to) e.length (f:=F.eS e to (e.length:Int) (e.length:Int) (e.length:Int)) e [] (by simp) (fun x hx A R hA=>by
  unfold F.eS
  rw[ai (by omega),Is]
  unfold M.kW
  by_cases h2:x.1=(2:Int)
  ·obtain⟨c0,c1⟩:=p0 x hx h2
   rw[decide_eq_true h2]
   simp only[cond_true]
   rw[ai c0,ai c1,ai (by omega),bz,Im]
  ·rw[decide_eq_false h2]
   rfl)
 simp only[List.length_nil,List.nil_append] at this
 rw[show ((0:Nat):Int)=0 from rfl] at this
 rw[this,aX]
 show some ((M.lJ e to).take _)=some (M.lJ e to)
 rw[List.take_of_length_le (by unfold M.lJ;simp)]
theorem F.BE (all:(List aF.D)) (plan:LS) (at_:Int) (rule:Int) (h_all:Sm (Ty.sl aF) all) (h_plan:Sm (Ty.sl ah) plan) (p0:M.iG plan at_) (p1:1<=rule/\rule<=7):F.vn all plan at_ rule=some (M.bS plan at_ rule):=by
 unfold F.vn M.bS
 obtain⟨⟨a0,a1⟩,hsafe⟩:=p0
 rw[ai a0,ai a1]
 have sS:=aL h_plan at_
 obtain⟨_,_,_,_,_,⟨sl,_⟩,_⟩:=sS

 generalize hs:nth (t:=ah) plan at_=s at *
 generalize hj:nth (t:=ah) plan s.2.1=j at *
 obtain⟨q1,q2,q3⟩:=hsafe
 unfold M.gm
 by_cases r1:rule=(1:Int)
 ·have hO:iu (Ty.int .i64) (bn (bn (bn (bn (bn (bn (bn ([]:List (Int×Int)) (1:Int) (2:Int)) (2:Int) (2:Int)) (3:Int) (2:Int)) (4:Int) (2:Int)) (5:Int) (2:Int)) (6:Int) (3:Int)) (7:Int) (6:Int)) rule=(2:Int):=by rw[r1];rfl
  have hI:iu (Ty.int .i64) (bn (bn (bn (bn (bn (bn (bn ([]:List (Int×Int)) (1:Int) (2:Int)) (2:Int) (4:Int)) (3:Int) (3:Int)) (4:Int) (6:Int)) (5:Int) (5:Int)) (6:Int) (3:Int)) (7:Int) (6:Int)) rule=(2:Int):=by rw[r1];rfl
  rw[decide_eq_true r1,hO,hI]
  by_cases s2:s.1=(2:Int)
  ·have h1:¬s.1=(1:Int):=by rw[s2];decide
   rw[decide_eq_true s2]
   simp only[Bool.not_true,cond_true,Bool.true_and,show ((false:Bool)==false)=true from rfl]
   rw[ai (q1 h1).1,ai (q1 h1).2]
   by_cases j2:j.1=(2:Int)
   ·rw[decide_eq_true j2]
    simp only[Bool.not_true,cond_false,cond_true]
    rfl
   ·rw[decide_eq_false j2]
    rfl
  ·rw[decide_eq_false s2]
   rfl
 rw[decide_eq_false r1]
 simp only[cond_false]
 by_cases r2:rule=(2:Int)
 ·have hO:iu (Ty.int .i64) (bn (bn (bn (bn (bn (bn (bn ([]:List (Int×Int)) (1:Int) (2:Int)) (2:Int) (2:Int)) (3:Int) (2:Int)) (4:Int) (2:Int)) (5:Int) (2:Int)) (6:Int) (3:Int)) (7:Int) (6:Int)) rule=(2:Int):=by rw[r2];rfl
  have hI:iu (Ty.int .i64) (bn (bn (bn (bn (bn (bn (bn ([]:List (Int×Int)) (1:Int) (2:Int)) (2:Int) (4:Int)) (3:Int) (3:Int)) (4:Int) (6:Int)) (5:Int) (5:Int)) (6:Int) (3:Int)) (7:Int) (6:Int)) rule=(4:Int):=by rw[r2];rfl
  rw[decide_eq_true r2,hO,hI]
  by_cases s2:s.1=(2:Int)
  ·have h1:¬s.1=(1:Int):=by rw[s2];decide
   rw[decide_eq_true s2]
   simp only[Bool.not_true,cond_true,Bool.true_and,show ((false:Bool)==false)=true from rfl]
   rw[ai (q1 h1).1,ai (q1 h1).2]
   by_cases j2:j.1=(4:Int)
   ·rw[decide_eq_true j2]
    simp only[Bool.not_true,cond_false,cond_true]
    rfl
   ·rw[decide_eq_false j2]
    rfl
  ·rw[decide_eq_false s2]
   rfl
 rw[decide_eq_false r2]
 simp only[cond_false]
 by_cases r3:rule=(3:Int)
 ·have hO:iu (Ty.int .i64) (bn (bn (bn (bn (bn (bn (bn ([]:List (Int×Int)) (1:Int) (2:Int)) (2:Int) (2:Int)) (3:Int) (2:Int)) (4:Int) (2:Int)) (5:Int) (2:Int)) (6:Int) (3:Int)) (7:Int) (6:Int)) rule=(2:Int):=by rw[r3];rfl
  have hI:iu (Ty.int .i64) (bn (bn (bn (bn (bn (bn (bn ([]:List (Int×Int)) (1:Int) (2:Int)) (2:Int) (4:Int)) (3:Int) (3:Int)) (4:Int) (6:Int)) (5:Int) (5:Int)) (6:Int) (3:Int)) (7:Int) (6:Int)) rule=(3:Int):=by rw[r3];rfl
  rw[decide_eq_true r3,hO,hI]
  by_cases s2:s.1=(2:Int)
  ·have h1:¬s.1=(1:Int):=by rw[s2];decide
   rw[decide_eq_true s2]
   simp only[Bool.not_true,cond_true,Bool.true_and,show ((false:Bool)==false)=true from rfl]
   rw[ai (q1 h1).1,ai (q1 h1).2]
   by_cases j2:j.1=(3:Int)
   ·rw[decide_eq_true j2]
    simp only[Bool.not_true,cond_false,cond_true]
    rw[ai (q2 s2 j2),bz,M.jZ]
    rfl
   ·rw[decide_eq_false j2]
    rfl
  ·rw[decide_eq_false s2]
   rfl
 rw[decide_eq_false r3]
 simp only[cond_false]
 by_cases r4:rule=(4:Int)
 ·have hO:iu (Ty.int .i64) (bn (bn (bn (bn (bn (bn (bn ([]:List (Int×Int)) (1:Int) (2:Int)) (2:Int) (2:Int)) (3:Int) (2:Int)) (4:Int) (2:Int)) (5:Int) (2:Int)) (6:Int) (3:Int)) (7:Int) (6:Int)) rule=(2:Int):=by rw[r4];rfl
  have hI:iu (Ty.int .i64) (bn (bn (bn (bn (bn (bn (bn ([]:List (Int×Int)) (1:Int) (2:Int)) (2:Int) (4:Int)) (3:Int) (3:Int)) (4:Int) (6:Int)) (5:Int) (5:Int)) (6:Int) (3:Int)) (7:Int) (6:Int)) rule=(6:Int):=by rw[r4];rfl
  rw[decide_eq_true r4,hO,hI]
  by_cases s2:s.1=(2:Int)
  ·have h1:¬s.1=(1:Int):=by rw[s2];decide
   rw[decide_eq_true s2]
   simp only[Bool.not_true,cond_true,Bool.true_and,show ((false:Bool)==false)=true from rfl]
   rw[ai (q1 h1).1,ai (q1 h1).2]
   by_cases j2:j.1=(6:Int)
   ·rw[decide_eq_true j2]
    simp only[Bool.not_true,cond_false,cond_true]
    rfl
   ·rw[decide_eq_false j2]
    rfl
  ·rw[decide_eq_false s2]
   rfl
 rw[decide_eq_false r4]
 simp only[cond_false]
 by_cases r5:rule=(5:Int)
 ·have hO:iu (Ty.int .i64) (bn (bn (bn (bn (bn (bn (bn ([]:List (Int×Int)) (1:Int) (2:Int)) (2:Int) (2:Int)) (3:Int) (2:Int)) (4:Int) (2:Int)) (5:Int) (2:Int)) (6:Int) (3:Int)) (7:Int) (6:Int)) rule=(2:Int):=by rw[r5];rfl
  have hI:iu (Ty.int .i64) (bn (bn (bn (bn (bn (bn (bn ([]:List (Int×Int)) (1:Int) (2:Int)) (2:Int) (4:Int)) (3:Int) (3:Int)) (4:Int) (6:Int)) (5:Int) (5:Int)) (6:Int) (3:Int)) (7:Int) (6:Int)) rule=(5:Int):=by rw[r5];rfl
  rw[decide_eq_true r5,hO,hI]
  by_cases s2:s.1=(2:Int)
  ·have h1:¬s.1=(1:Int):=by rw[s2];decide
   rw[decide_eq_true s2]
   simp only[Bool.not_true,cond_true,Bool.true_and,show ((false:Bool)==false)=true from rfl]
   rw[ai (q1 h1).1,ai (q1 h1).2]
   by_cases j2:j.1=(5:Int)
   ·rw[decide_eq_true j2]
    simp only[Bool.not_true,cond_false,cond_true]
    rfl
   ·rw[decide_eq_false j2]
    rfl
  ·rw[decide_eq_false s2]
   rfl
 rw[decide_eq_false r5]
 simp only[cond_false]
 by_cases r6:rule=(6:Int)
 ·have hO:iu (Ty.int .i64) (bn (bn (bn (bn (bn (bn (bn ([]:List (Int×Int)) (1:Int) (2:Int)) (2:Int) (2:Int)) (3:Int) (2:Int)) (4:Int) (2:Int)) (5:Int) (2:Int)) (6:Int) (3:Int)) (7:Int) (6:Int)) rule=(3:Int):=by rw[r6];rfl
  have hI:iu (Ty.int .i64) (bn (bn (bn (bn (bn (bn (bn ([]:List (Int×Int)) (1:Int) (2:Int)) (2:Int) (4:Int)) (3:Int) (3:Int)) (4:Int) (6:Int)) (5:Int) (5:Int)) (6:Int) (3:Int)) (7:Int) (6:Int)) rule=(3:Int):=by rw[r6];rfl
  rw[decide_eq_true r6,hO,hI]
  by_cases s2:s.1=(3:Int)
  ·have h1:¬s.1=(1:Int):=by rw[s2];decide
   rw[decide_eq_true s2]
   simp only[Bool.not_true,cond_true,Bool.true_and,show ((false:Bool)==false)=true from rfl]
   rw[ai (q1 h1).1,ai (q1 h1).2]
   by_cases j2:j.1=(3:Int)
   ·rw[decide_eq_true j2]
    simp only[Bool.not_true,cond_false,cond_true]
    rw[mO (fun z=>nth (t:=.int .i64) j.2.2.2.2.2.1 z) s.2.2.2.2.2.1 [] (fun z hz v hv=>by
     simp only[List.length_nil,Nat.zero_add] at hv
     have hz2:=q3 s2 j2 z hz
     unfold F.lN
     rw[hs,hj,ai hz2.1,ai hz2.2,ai (by unfold lim;simp;omega)]),aX]
    rfl
   ·rw[decide_eq_false j2]
    rfl
  ·rw[decide_eq_false s2]
   rfl
 rw[decide_eq_false r6]
 simp only[cond_false]
 by_cases r7:rule=(7:Int)
 ·have hO:iu (Ty.int .i64) (bn (bn (bn (bn (bn (bn (bn ([]:List (Int×Int)) (1:Int) (2:Int)) (2:Int) (2:Int)) (3:Int) (2:Int)) (4:Int) (2:Int)) (5:Int) (2:Int)) (6:Int) (3:Int)) (7:Int) (6:Int)) rule=(6:Int):=by rw[r7];rfl
  have hI:iu (Ty.int .i64) (bn (bn (bn (bn (bn (bn (bn ([]:List (Int×Int)) (1:Int) (2:Int)) (2:Int) (4:Int)) (3:Int) (3:Int)) (4:Int) (6:Int)) (5:Int) (5:Int)) (6:Int) (3:Int)) (7:Int) (6:Int)) rule=(6:Int):=by rw[r7];rfl
  rw[decide_eq_true r7,hO,hI]
  by_cases s2:s.1=(6:Int)
  ·have h1:¬s.1=(1:Int):=by rw[s2];decide
   rw[decide_eq_true s2]
   simp only[Bool.not_true,cond_true,Bool.true_and,show ((false:Bool)==false)=true from rfl]
   rw[ai (q1 h1).1,ai (q1 h1).2]
   by_cases j2:j.1=(6:Int)
   ·rw[decide_eq_true j2]
    simp only[Bool.not_true,cond_false,cond_true]
    rfl
   ·rw[decide_eq_false j2]
    rfl
  ·rw[decide_eq_false s2]
   rfl
 exact absurd p1 (by omega)
theorem F.yR (tables:LTb) (plan:LS) (at_:Int) (rule:Int) (h_tables:Sm (Ty.sl az) tables) (h_plan:Sm (Ty.sl ah) plan) (p0:M.bB tables plan=true) (p1:0<=at_) (p2:at_<(plan.length:Int)) (p3:1<=rule/\rule<=7):F.qy tables plan at_ rule=some (M.iy tables plan at_ rule):=by
 have facts:=M.pV p0 h_plan p1 p2
 have h6:=M.tU p0
 have refs:=(M.nk p0).2
 unfold F.qy M.iy
 rw[bz,ai (GI h_tables h_plan),ai facts.1,bz]
 have hn:=facts.2.2.2.2 rule
 have h3:(M.bS plan at_ rule).length<=3:=M.vg _ _ _ _
 generalize M.bS plan at_ rule=N at *
 cases decide ((N.length:Int)=(0:Int)) with
 | true=>rfl
 | false=>
  simp only[cond_false,bz]
  have ht:(plan.take at_.toNat).length<=6:=Nat.le_trans (List.length_take_le' _ _) h6
  rw[ai p1,ai (Int.le_of_lt p2),Dh,ai (by unfold lim;simp;omega),aI (n:=at_+(1:Int)) (by omega) (by omega),ai (by omega),ai (by omega),zc plan (by omega) (by omega),show (at_+1).toNat=at_.toNat+1 by omega]
  rw[mO (M.shift at_ (wrap64 ((N.length:Int)-1))) (plan.drop (at_.toNat+1)) (plan.take at_.toNat++N) (fun z hz v hv=>by
   have hmem:=List.mem_of_mem_drop hz
   obtain⟨k,hk,e⟩:=List.getElem_of_mem hmem
   have hin:=refs (k:Int) (by omega) (by omega)
   have e2:nth (t:=ah) plan (k:Int)=z:=by
    rw[lq (by omega) (by omega)]
    simpa using e
   rw[e2] at hin
   have hlv:v.length<=20:=by
    simp only[List.length_append,List.length_drop] at hv
    omega
   have hlim:∀s:ah.D,(v.length+[s].length) * 80<=lim:=fun s=>by unfold lim;simp;omega
   have hw:∀x:Int,0<=x->x<(k:Int)->wrap64 (wrap64 (x+(N.length:Int))-(1:Int))=wrap64 (x+wrap64 ((N.length:Int)-1)):=fun x x0 x1=>by
    rw[aI (n:=x+(N.length:Int)) (by omega) (by omega),aI (n:=(N.length:Int)-1) (by omega) (by omega),show x+(N.length:Int)-1=x+((N.length:Int)-1) by omega]
   have hc:∀x:Int,decide (at_<=x)=!decide (x<at_):=fun x=>by
    by_cases h:x<at_
    ·rw[decide_eq_true h,decide_eq_false (by omega)];rfl
    ·rw[decide_eq_false h,decide_eq_true (by omega)];rfl
   unfold F.jA M.shift
   simp only[bz,M.jZ]
   rw[hc z.2.1,hc z.2.2.1]
   by_cases h1:z.1=(1:Int)
   ·have h2:M.two z.1=false:=by rw[h1];rfl
    rw[decide_eq_true h1,h2]
    exact ai (hlim _)
   ·obtain⟨⟨z0,z1⟩,w0,w1⟩:=hin h1
    rw[decide_eq_false h1,hw _ z0 z1,hw _ w0 w1]
    cases M.two z.1<;>cases decide (z.2.1<at_)<;>cases decide (z.2.2.1<at_)<;>simp only[cond_true,cond_false,Bool.and_self,Bool.and_true,Bool.true_and,Bool.and_false,Bool.false_and,Bool.or_self,Bool.or_true,Bool.true_or,Bool.or_false,Bool.false_or,Bool.not_true,Bool.not_false,show ((true:Bool)==true)=true from rfl,show ((false:Bool)==true)=false from rfl,show ((false:Bool)==false)=true from rfl,show ((true:Bool)==false)=false from rfl]<;>rw[ai (hlim _)]),aX]
  show af (Sm (.sl ah) (M.bY plan at_ N)) (cond (!(M.bB tables (M.bY plan at_ N))) (some (plan,false)) (some (M.bY plan at_ N,true)))=_
  rw[ai (M.Eb h_plan h6 hn h3),cF,jJ]
theorem F.sY (tables:LTb) (plan:LS) (at_:Int) (rule:Int) (h_tables:Sm (Ty.sl az) tables) (h_plan:Sm (Ty.sl ah) plan):F.lp tables plan at_ rule=some (M.ck tables plan at_ rule):=by
 unfold F.lp M.ck
 cases hp:M.bB tables plan
 ·rfl
 cases ha:M.inR at_ 0 (wrap64 ((plan.length:Int)-(1:Int)))
 ·rfl
 cases hr:M.inR rule 1 7
 ·rfl
 have a0:=dP ha
 have a1:=iz ha
 simp only[Bool.not_true,cond_true,cond_false,Bool.and_self,show ((false:Bool)==false)=true from rfl]
 rw[ai (by unfold M.inR at hr;simp only[Bool.and_eq_true,decide_eq_true_eq] at hr;exact hr),bz]
theorem F.rD (code:(List Int)) (h_code:Ln (Ty.sl (Ty.int .u8)) code) (p0:M.ay code):F.jw code=some true:=by
 unfold F.jw
 by_cases hc:(1048576:Int)<(code.length:Int)
 ·rw[decide_eq_true hc]
  rfl
 rw[decide_eq_false hc,cond_false]
 have hs:Sm (.sl (.int .u8)) code:=⟨by omega,fun _ _=>trivial⟩
 rw[ai hs,bz]
 obtain⟨d0,d1,d2,d3,d4,d5⟩:=M.lI code hs p0
 generalize M.cA code=r at *
 obtain⟨ts,plan,a,rule⟩:=r
 simp only at d0 d1 d2 d3 d4 d5 ⊢
 have st:Sm (.sl az) ts:=M.Fs d0 d2 (by decide)
 have sp:Sm (.sl ah) plan:=M.oQ d3 d5 (by decide)
 have hbb:∀a:Bool,Ty.beq Ty.bool a a=true:=fun a=>by cases a<;>rfl
 simp only[bz,M.jZ]
 rw[ai st,ai sp]
 have sq:Sm (.sl ah) (M.ck ts plan a rule).1:=M.Aa sp
 simp only[hbb,Bool.not_true,show ((false:Bool)==false)=true from rfl,cond_true,cond_false]
 rw[ai sq,ai sq,M.jb]
 cases h:(M.ck ts plan a rule).2 with
 | false=>rfl
 | true=>
  have hb:=M.xI sp h
  generalize (M.ck ts plan a rule).1=q at *
  have h3:(ts.length:Int)<=fG:=by unfold fG;omega
  have hin:∀(i:Int) (v:List az.D),0<=i->i<(ts.length:Int)->∀(n:Nat) (u:List (List aa.D)),n<=((nth (t:=az) ts i).2.1:List (List aa.D)).length->u.length+n<=1000 →
    cL (F.cI code ts plan q i v (nth (t:=az) ts i).1) ((n:Int)-1,u)=some (u++(((nth (t:=az) ts i).2.1:List (List aa.D)).take n).reverse):=by
   intro i v i0 i1 n
   induction n with
   | zero=>
    intro u _ _
    rw[fH]
    unfold F.cI
    simp[bq]
   | succ n ih=>
    intro u h1 h2
    rw[fH]
    have e:F.cI code ts plan q i v (nth (t:=az) ts i).1 (((n+1:Nat):Int)-1,u)=some (.inl ((n:Int)-1,u++[nth (t:=.sl aa) (nth (t:=az) ts i).2.1 (n:Int)])):=by
     unfold F.cI
     have e1:((n+1:Nat):Int)-1=(n:Int):=by omega
     simp only[e1]
     rw[decide_eq_true (show (0:Int)<=(n:Int) by omega),cond_true,ai i0,ai i1,ai (show (0:Int)<=(n:Int) by omega),ai (show (n:Int)<(((nth (t:=az) ts i).2.1:List (List aa.D)).length:Int) by omega),ai (by simp only[List.length_cons,List.length_nil,lim];omega),aI (by omega) (by omega)]
    rw[e,aX,ih _ (by omega) (by simp;omega),M.Bq (t:=.sl aa) (by omega),List.reverse_append]
    simp
  have hloop:aO (F.dc code ts plan q) (aY 0 (ts.length:Int)) ([]:List az.D)=some (.inl (ts.map M.wH)):=by
   have:=sE (t:=az) (β:=az.D) (ρ:=Unit) (f:=F.dc code ts plan q) M.wH ts 3 ts [] [] rfl (by simpa using d0) (fun i v i0 i1 hv=>by
    have hr:((nth (t:=az) ts i).2.1:List (List aa.D)).length<=6:=(d2 _ (qz (t:=az) i0 i1)).2.1
    unfold F.dc
    rw[aI (by omega) (by omega),hin i v i0 i1 _ [] (Nat.le_refl _) (by simp;omega)]
    show af _ _=_
    rw[ai (by simp only[List.length_cons,List.length_nil,lim];omega),List.take_length,List.nil_append]
    rfl)
   simpa using this
  obtain⟨g1,g2⟩:=hb ts ⟨rfl,fun _ _=>rfl,rfl⟩
  obtain⟨_,g4⟩:=hb _ (M.FB ts)
  have so:Sm (.sl az) (ts.map M.wH):=M.IV st
  have sr:Sm (.sl (.sl aa)) (M.cw ts plan):=xe st sp
  have s2:Sm (.sl (.sl aa)) (M.cw (ts.map M.wH) plan):=xe so sp
  simp only[Bool.not_true,cond_false]
  rw[ai h3,hloop,aX,g1,g2,g4]
  simp only[show ((true:Bool)==true)=true from rfl,cond_true]
  rw[ai sr,ai sr,M.jb,ai so,ai s2,ai s2,M.jb]
end Go.AE
