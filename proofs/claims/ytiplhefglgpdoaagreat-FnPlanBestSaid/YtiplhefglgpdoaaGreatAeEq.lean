/- What the functions compute is what is said. -/
import Derived.Test.YtiplhefglgpdoaaGreatAeF
import Derived.Test.YtiplhefglgpdoaaGreatAeMR
import Derived.Test.YtiplhefglgpdoaaGreatAeEqI
import Derived.Test.YtiplhefglgpdoaaGreatAeEqR
import Derived.Test.YtiplhefglgpdoaaGreatAeRT
import Derived.Test.YtiplhefglgpdoaaGreatAeRC
import Derived.Test.YtiplhefglgpdoaaGreatAeRB
import Derived.Test.YtiplhefglgpdoaaGreatAeRT
import Derived.Test.YtiplhefglgpdoaaGreatAeRC
import Derived.Test.YtiplhefglgpdoaaGreatAeEqI
namespace Go.AE
open Go Go.RowKit
set_option linter.unusedVariables false
set_option linter.unusedSimpArgs false
set_option maxHeartbeats 2000000
theorem F.yR (n:Int) (low:Int) (high:Int)  : F.qI n low high=some (M.inR n low high):=by
 unfold F.qI M.inR
 cases decide (low<=n)<;>rfl
theorem F.yH (s:ByteArray) (h_s:Sm Ty.str s):F.qO s=some (M.lower (cq s)):=by
 unfold F.qO M.lower
 rw[ki (fun n=>M.inR n 97 122) () (fun x hx=>by
  obtain⟨h0,h1⟩:=Ja hx
  simp only[F.js,kW,cK,aH (n:=x) (by omega) (by omega)])]
 cases (cq s).all fun n=>M.inR n 97 122<;>rfl
theorem F.xC (v:af.D) (h_v:Sm af v):F.pe v=some (M.aZ v):=by
 unfold F.pe M.aZ M.text
 simp only[kV]
 rw[show decide ((v.2.2.1.size:Int)<=6)=decide (v.2.2.1.size<=6) from decide_eq_decide.2 (by omega)]
 simp only[Ty.beq]
 cases h0:decide (v.1=(0:Int))
 ·generalize decide (v.1=(1:Int))=b1
  generalize decide (v.1=(2:Int))=b2
  generalize decide (v.1=(3:Int))=b3
  generalize decide (v.2.1=(0:Int))=c0
  generalize decide (v.2.2.1.size<=6)=c6
  generalize M.inR v.2.1 (-9999) 9999=c1
  generalize M.inR v.2.1 0 1=c3
  generalize decide (v.2.2.1=M.none_)=e0
  cases b1<;>cases b2<;>cases b3<;>cases c0<;>cases c6<;>cases c1<;>cases c3<;>cases e0<;>rfl
 ·simp only[cond_true,Bool.true_and,Bool.and_true]
theorem F.yT (v:af.D) (h_v:Sm af v):F.vn v=some (M.aZ v):=by
 rfl
theorem F.BM   : F.ux  = some true:=by
 unfold F.ux
 rw[show M.aZ ((1:Int),((3:Int),((⟨#[]⟩:ByteArray),())))=true from rfl,show M.aZ ((9:Int),((0:Int),((⟨#[]⟩:ByteArray),())))=false from rfl]
 rfl
theorem F.wj (a:LPt) (b:LPt) (h_a:Sm (Ty.sl ax) a) (h_b:Sm (Ty.sl ax) b) (p0:a=b):F.ny a b=some true:=by
 subst p0
 unfold F.ny
 exact M.eq_eq (fun i h0 h1=>by
  unfold F.gM
  rw[ai h1,(beq_iff (t:=ax) rfl _ _).2 rfl]
  rfl)
theorem F.xo (a:(List Int)) (b:(List Int)) (h_a:Sm (Ty.sl (Ty.int .i64)) a) (h_b:Sm (Ty.sl (Ty.int .i64)) b) (p0:a=b):F.oO a b=some true:=by
 subst p0
 unfold F.oO
 exact M.eq_eq (fun i h0 h1=>by
  unfold F.iD
  rw[ai h1]
  simp only[decide_true,Bool.not_true,show ((false:Bool)==false)=true from rfl,cond_true,cond_false,eq_self,M.lO])
theorem F.uU (a:LS) (b:LS) (h_a:Sm (Ty.sl aa) a) (h_b:Sm (Ty.sl aa) b) (p0:a=b):F.nQ a b=some true:=by
 subst p0
 unfold F.nQ
 exact M.eq_eq (fun i h0 h1=>by
  unfold F.gN
  rw[ai h1]
  simp only[decide_true,Bool.not_true,show ((false:Bool)==false)=true from rfl,cond_true,cond_false,eq_self,M.lO])
theorem F.tD (c:ah.D)  : F.pV c=some (!M.eL c):=by
 rfl
theorem F.lW (xs:LC) (h_xs:Sm (Ty.sl ah) xs):F.ic xs=some (M.idx (t:=ah) (fun e=>!M.eL e) xs):=by
 exact jV (t:=ah) (p:=(fun e=>!M.eL e)) (fun i h0 h1=>by simp only[F.cR,cK])
theorem F.jT (xs:LC) (h_xs:Sm (Ty.sl ah) xs):F.dW xs=some (List.any xs (fun e=>!M.eL e)):=by
 unfold F.dW
 exact gA (t:=ah)
theorem F.vc (columns:LC) (h_columns:Sm (Ty.sl ah) columns):F.nA columns=some (M.bI columns):=by
 unfold F.nA M.bI
 rw[kV,show decide ((columns.length:Int)<=4)=decide (columns.length<=4) from decide_eq_decide.2 (by omega)]
 rw[List.all_eq_not_any_not]
theorem F.yL (v:af.D) (h_v:Sm af v):F.vH v=some (!M.aZ v):=by
 rfl
theorem F.od (xs:LV) (h_xs:Sm (Ty.sl af) xs):F.kz xs=some (M.idx (t:=af) (fun e=>!M.aZ e) xs):=by
 exact jV (t:=af) (p:=(fun e=>!M.aZ e)) (fun i h0 h1=>by simp only[F.dH,cK])
theorem F.mw (xs:LV) (h_xs:Sm (Ty.sl af) xs):F.fm xs=some (List.any xs (fun e=>!M.aZ e)):=by
 unfold F.fm
 exact gA (t:=af)
theorem F.Cb (row:LV) (h_row:Sm (Ty.sl af) row):F.uu row=some (M.qc row):=by
 unfold F.uu M.qc
 rw[kV,show decide ((row.length:Int)<=4)=decide (row.length<=4) from decide_eq_decide.2 (by omega)]
 rw[List.all_eq_not_any_not]
theorem F.yJ (columns:LC) (row:LV) (h_columns:Sm (Ty.sl ah) columns) (h_row:Sm (Ty.sl af) row):F.qu columns row=some (M.cM columns row):=by
 unfold F.qu M.cM
 cases M.bI columns
 ·rfl
 cases M.qc row
 ·rfl
 by_cases hl:row.length=columns.length
 ·rw[ki (M.uR columns row) () (fun i hi=>by
   obtain⟨h0,h1⟩:=fH.1 hi
   have h2:i<(columns.length:Int):=by omega
   simp only[F.jv,ai h2]
   unfold M.uR
   cases decide ((nth (t:=af) row i).1=(nth (t:=ah) columns i).1)<;>cases decide ((nth (t:=af) row i).1=(0:Int))<;>cases (nth (t:=ah) columns i).2.1<;>rfl)]
  simp only[hl,Bool.not_true,decide_true,Bool.true_and,cond_true,cond_false]
  cases (aP 0 (columns.length:Int)).all (M.uR columns row)<;>rfl
 ·have h3:¬(row.length:Int)=(columns.length:Int):=by omega
  simp[hl,h3]
theorem F.xI (r:LV) (columns:LC) (h_r:Sm (Ty.sl af) r) (h_columns:Sm (Ty.sl ah) columns):F.tI r columns=some (!M.cM columns r):=by
 rfl
theorem F.nr (xs:LLV) (k0:LC) (h_xs:Sm (Ty.sl (Ty.sl af)) xs) (h_k0:Sm (Ty.sl ah) k0):F.jF xs k0=some (M.idx (t:=(Ty.sl af)) (fun e=>!M.cM k0 e) xs):=by
 exact jV (t:=(Ty.sl af)) (p:=(fun e=>!M.cM k0 e)) (fun i h0 h1=>by simp only[F.dA,cK])
theorem F.lP (xs:LLV) (k0:LC) (h_xs:Sm (Ty.sl (Ty.sl af)) xs) (h_k0:Sm (Ty.sl ah) k0):F.fc xs k0=some (List.any xs (fun e=>!M.cM k0 e)):=by
 unfold F.fc
 exact gA (t:=(Ty.sl af))
theorem F.AG (columns:LC) (rows:LLV) (h_columns:Sm (Ty.sl ah) columns) (h_rows:Sm (Ty.sl (Ty.sl af)) rows):F.sy columns rows=some (M.gI columns rows):=by
 unfold F.sy M.gI
 rw[kV,List.all_eq_not_any_not]
theorem F.uA (t:az.D) (h_t:Sm az t):F.me t=some (!M.dy t):=by
 unfold F.me M.dy
 cases hc:M.bI t.1
 ·have:M.gI t.1 t.2.1=false:=by unfold M.gI;rw[hc];rfl
  rw[this]
  simp
 by_cases h:t.2.1.length<=6
 ·have h2:¬(6:Int)<(t.2.1.length:Int):=by omega
  simp[h2,h]
 ·have h2:(6:Int)<(t.2.1.length:Int):=by omega
  simp[h2,h]
theorem F.mz (xs:LTb) (h_xs:Sm (Ty.sl az) xs):F.iW xs=some (M.idx (t:=az) (fun e=>!M.dy e) xs):=by
 exact jV (t:=az) (p:=(fun e=>!M.dy e)) (fun i h0 h1=>by simp only[F.cZ,cK])
theorem F.kD (xs:LTb) (h_xs:Sm (Ty.sl az) xs):F.eJ xs=some (List.any xs (fun e=>!M.dy e)):=by
 unfold F.eJ
 exact gA (t:=az)
theorem F.xS (tables:LTb) (h_tables:Sm (Ty.sl az) tables):F.oP tables=some (M.cC tables):=by
 unfold F.oP M.cC
 rw[kV,show decide ((tables.length:Int)<=3)=decide (tables.length<=3) from decide_eq_decide.2 (by omega)]
 rw[List.all_eq_not_any_not]
theorem F.tT (p:ax.D) (h_p:Sm ax p):F.mg p=some (M.takes p):=by
 unfold F.mg M.takes
 generalize decide (p.1=(3:Int))=c3
 generalize decide (p.1=(4:Int))=c4
 generalize decide (p.1=(5:Int))=c5
 generalize decide (p.1=(6:Int))=c6
 generalize decide (p.1=(7:Int))=c7
 generalize decide (p.1=(8:Int))=c8
 cases c3<;>cases c4<;>cases c5<;>cases c6<;>cases c7<;>cases c8<;>rfl
theorem F.uK (p:ax.D) (columns:LC) (h_p:Sm ax p) (h_columns:Sm (Ty.sl ah) columns):F.mc p columns=some (M.mI p columns):=by
 unfold F.mc M.mI M.noV
 rw[gf _ h_columns.1]
 simp only[kV,show Ty.beq af p.2.2.1 ((0:Int),(0:Int),(⟨#[]⟩:ByteArray),())=Ty.beq af p.2.2.1 M.zeroV from rfl]
 generalize Ty.beq af p.2.2.1 M.zeroV=nv
 by_cases e1:p.1=(1:Int)
 ·simp only[e1,decide_true,cond_true]
 by_cases e2:p.1=(2:Int)
 ·simp only[e2,decide_true,cond_true,Int.reduceEq,decide_false,cond_false]
 by_cases e4:p.1=(4:Int)
 ·simp only[e4,decide_true,cond_true,Int.reduceEq,decide_false,cond_false]
 by_cases e3:p.1=(3:Int)
 ·simp only[e3,decide_true,cond_true,Int.reduceEq,decide_false,cond_false]
  rfl
 by_cases e5:p.1=(5:Int)
 ·simp only[e5,decide_true,cond_true,Int.reduceEq,decide_false,cond_false]
  rfl
 by_cases e6:p.1=(6:Int)
 ·simp only[e6,decide_true,cond_true,Int.reduceEq,decide_false,cond_false]
  rfl
 by_cases e7:p.1=(7:Int)
 ·simp only[e7,decide_true,cond_true,Int.reduceEq,decide_false,cond_false]
  rfl
 by_cases e8:p.1=(8:Int)
 ·simp only[e8,decide_true,cond_true,Int.reduceEq,decide_false,cond_false]
  rfl
 simp only[e1,e2,e3,e4,e5,e6,e7,e8,decide_false,cond_false,Hf e3 e4 e5 e6 e7 e8]
theorem F.rG (k:Int) (kind:Int)  : F.nO k kind=some (!decide (k=kind)):=by
 rfl
theorem F.kB (xs:(List Int)) (k0:Int) (h_xs:Sm (Ty.sl (Ty.int .i64)) xs):F.gC xs k0=some (M.idx (t:=(Ty.int .i64)) (fun e=>!decide (e=k0)) xs):=by
 exact jV (t:=(Ty.int .i64)) (p:=(fun e=>!decide (e=k0))) (fun i h0 h1=>by simp only[F.cL,cK])
theorem F.jy (xs:(List Int)) (k0:Int) (h_xs:Sm (Ty.sl (Ty.int .i64)) xs):F.dG xs k0=some (List.any xs (fun e=>!decide (e=k0))):=by
 unfold F.dG
 exact gA (t:=(Ty.int .i64))
theorem F.tF (kind:Int) (ins:(List Int)) (h_ins:Sm (Ty.sl (Ty.int .i64)) ins):F.kS kind ins=some (List.all ins (fun k=>decide (k=kind))):=by
 unfold F.kS
 rw[List.all_eq_not_any_not]
theorem F.wD (p:ax.D) (columns:LC) (inp:(List Int)) (h_p:Sm ax p) (h_columns:Sm (Ty.sl ah) columns) (h_inp:Sm (Ty.sl (Ty.int .i64)) inp) (p0:M.mI p columns=true) (p1:(inp.length:Int)=M.takes p):F.nX p columns inp=some (M.cT p columns inp):=by
 unfold F.nX M.cT
 obtain⟨_,hc⟩:=Aq p0
 by_cases e1:p.1=(1:Int)
 ·simp only[e1,decide_true,cond_true]
 by_cases e2:p.1=(2:Int)
 ·obtain⟨c0,c1⟩:=hc e2
  simp only[e2,decide_true,cond_true,Int.reduceEq,decide_false,cond_false]
  rw[ai c0,ai c1]
 by_cases e4:p.1=(4:Int)
 ·rw[kU (.inr (.inl e4))] at p1
  simp only[e4,decide_true,cond_true,Int.reduceEq,decide_false,cond_false]
  repeat rw[ai (by omega)]
 cases decide (p.1=(3:Int))<;>cases decide (p.1=(8:Int))<;>simp[e1,e2,e4]
theorem F.xB (columns:LC) (e:LPt) (h_columns:Sm (Ty.sl ah) columns) (h_e:Sm (Ty.sl ax) e):F.oQ columns e=some (M.bE columns e):=by
 unfold F.oQ M.bE
 cases M.bI columns
 ·rfl
 by_cases hl:e.length<=12
 ·rw[decide_eq_false (show ¬(12:Int)<(e.length:Int) by omega),decide_eq_true hl]
  rw[tG e [] (by simp;omega)]
  cases M.iE columns e [] with
  | none=>rfl
  | some s=>
   match s with
   | []=>rfl
   | [a]=>exact ai (by simp)
   | a::b::l=>
    have:¬((a::b::l).length:Int)=1:=by simp;omega
    simp only[this,decide_false]
    rfl
 ·rw[decide_eq_true (show (12:Int)<(e.length:Int) by omega),decide_eq_false hl]
  rfl
theorem F.xJ (xs:LC) (h_xs:Sm (Ty.sl ah) xs):F.tJ xs=some xs:=by
 exact M.tn (t:=ah)
theorem F.uQ (s:aa.D) (h_s:Sm aa s):F.mE s=some (M.bW s):=by
 unfold F.mE M.bW M.two
 generalize decide (s.2.1=(0:Int))=a0
 generalize decide (s.2.2.1=(0:Int))=b0
 generalize decide (s.2.2.2.1=(0:Int))=n0
 generalize decide ((s.2.2.2.2.1.length:Int)=(0:Int))=e0
 generalize decide ((s.2.2.2.2.2.1.length:Int)=(0:Int))=l0
 by_cases h1:s.1=(1:Int)
 ·simp only[h1,Int.reduceEq,decide_true,decide_false]
  cases a0<;>cases b0<;>cases n0<;>cases e0<;>cases l0<;>rfl
 by_cases h2:s.1=(2:Int)
 ·simp only[h2,Int.reduceEq,decide_true,decide_false]
  cases a0<;>cases b0<;>cases n0<;>cases e0<;>cases l0<;>rfl
 by_cases h3:s.1=(3:Int)
 ·simp only[h3,Int.reduceEq,decide_true,decide_false]
  cases a0<;>cases b0<;>cases n0<;>cases e0<;>cases l0<;>rfl
 by_cases h4:s.1=(4:Int)
 ·simp only[h4,Int.reduceEq,decide_true,decide_false]
  cases a0<;>cases b0<;>cases n0<;>cases e0<;>cases l0<;>rfl
 by_cases h5:s.1=(5:Int)
 ·simp only[h5,Int.reduceEq,decide_true,decide_false]
  cases a0<;>cases b0<;>cases n0<;>cases e0<;>cases l0<;>rfl
 simp only[h1,h2,h3,h4,h5,decide_false]
 cases a0<;>cases b0<;>cases n0<;>cases e0<;>cases l0<;>rfl
theorem F.zf (n:Int) (p0:0<=n) (p1:n<=1099511627776):F.rj n=some ([]:List ah.D):=by
 unfold F.rj
 have e:wrap64 (n-wrap64 ((0:Int)-(0:Int)))=n:=by
  rw[show wrap64 ((0:Int)-(0:Int))=0 by decide,Int.sub_zero]
  exact aH (by omega) (by omega)
 rw[decide_eq_false (by omega),e]
 by_cases h:0<n
 ·rw[decide_eq_true h]
  simp only[cond_true,cond_false]
  rw[ai p0,ai (by unfold lim;omega)]
  rfl
 ·rw[decide_eq_false h]
  rfl
theorem F.wg (xss:LLC) (h_xss:Sm (Ty.sl (Ty.sl ah)) xss):F.nq xss=some (List.flatten xss):=by
 unfold F.nq
 exact M.qt (t:=ah) h_xss (fun z v h0 h1=>by
  unfold F.gK
  rw[aH (n:=v+(z.length:Int)) (by omega) (by omega),decide_eq_false (by omega)]
  rfl) (fun z v h1=>by
  unfold F.gO
  rw[ai (by unfold lim;omega)])
theorem F.vi (s:aa.D) (tables:LTb) (ahead:(List aF.D)) (h_s:Sm aa s) (h_tables:Sm (Ty.sl az) tables) (h_ahead:Sm (Ty.sl aF) ahead):F.hG s tables ahead=some (M.make s tables ahead):=by
 obtain⟨r,h1,_⟩:=vT h_s h_tables h_ahead
 unfold M.make
 rw[h1]
 rfl
theorem F.Bt (tables:LTb) (plan:LS) (h_tables:Sm (Ty.sl az) tables) (h_plan:Sm (Ty.sl aa) plan):F.nt tables plan=some (M.makes tables plan):=by
 obtain⟨r,h1,_⟩:=lD h_tables h_plan
 unfold M.makes
 rw[h1]
 rfl
theorem F.Bq (tables:LTb) (plan:LS) (h_tables:Sm (Ty.sl az) tables) (h_plan:Sm (Ty.sl aa) plan):F.sI tables plan=some (M.aQ tables plan):=by
 unfold F.sI
 rw[aV]
 exact congrArg some (Ej h_tables h_plan)
theorem F.yG (a:LV) (b:LV) (h_a:Sm (Ty.sl af) a) (h_b:Sm (Ty.sl af) b) (p0:a=b):F.qs a b=some true:=by
 subst p0
 unfold F.qs
 exact M.eq_eq (fun i h0 h1=>by
  unfold F.jr
  rw[ai h1,(beq_iff (t:=af) rfl _ _).2 rfl]
  rfl)
theorem F.xN (a:LLV) (b:LLV) (h_a:Sm (Ty.sl (Ty.sl af)) a) (h_b:Sm (Ty.sl (Ty.sl af)) b) (p0:a=b):F.oS a b=some true:=by
 subst p0
 unfold F.oS
 exact M.eq_eq (fun i h0 h1=>by
  unfold F.iF
  rw[ai h1]
  simp only[decide_true,Bool.not_true,show ((false:Bool)==false)=true from rfl,cond_true,cond_false,eq_self,M.lO])
theorem F.zl (truth:Int)  : F.qG truth=some (M.valueOf truth):=by
 unfold F.qG M.valueOf
 cases M.inR truth 0 1<;>rfl
theorem F.yV (b:Bool)  : F.qz b=some (M.bool b):=by
 unfold F.qz M.bool
 rw[cK]
theorem F.BK (vals:(List Int)) (h_vals:Sm (Ty.sl (Ty.int .i64)) vals):F.uO vals=some (M.orI vals):=by
 unfold F.uO
 suffices h:∀(A B:List Int),bu (aO (F.ji A) B ()) (fun v0:Unit=>some (0:Int)) (fun q0:Int=>some q0)=some (M.orI B) from h vals vals
 intro A B
 induction B with
 | nil=>rfl
 | cons x l ih=>
  rw[bM]
  simp only[F.ji,M.orI]
  by_cases hx:x=0
  ·simp only[hx,decide_true,Bool.not_true,cond_false,cond_true,bp]
   exact ih
  ·simp[hx]
theorem F.wO (x:Int)  : F.pH x=some false:=by
 unfold F.pH
 simp
theorem F.uz (x:Int) (y:Int)  : F.mB x y=some (M.wV x y):=by
 unfold F.mB M.wV
 simp only[cond_false,cK]
theorem F.tC (x:ByteArray) (h_x:Sm Ty.str x):F.kK x=some false:=by
 unfold F.kK
 simp
theorem F.rH (x:ByteArray) (y:ByteArray) (h_x:Sm Ty.str x) (h_y:Sm Ty.str y):F.jB x y=some (M.EL x y):=by
 unfold F.jB M.EL
 simp only[cond_false,cK]
theorem F.tA (v:af.D) (w:af.D) (h_v:Sm af v) (h_w:Sm af w):F.kH v w=some (M.order v w):=by
 unfold F.kH
 rw[ai ⟨by simp,fun _ _=>trivial⟩]
 rfl
theorem F.yY (kind:Int) (a:af.D) (b:af.D) (h_a:Sm af a) (h_b:Sm af b):F.qF kind a b=some (M.compare kind a b):=by
 unfold F.qF M.compare M.Eo
 cases hk:M.inR kind 1 4
 ·rfl
 cases M.aZ a
 ·rfl
 cases M.aZ b
 ·rfl
 have h4:decide (kind=1)=false->decide (kind=2)=false->decide (kind=3)=false->decide (kind=4)=true:=by
  unfold M.inR at hk
  simp at hk ⊢
  omega
 cases decide (a.1=(0:Int))<;>cases decide (b.1=(0:Int))<;>cases decide (a.1=b.1)<;>cases h1:decide (kind=1)<;>cases h2:decide (kind=2)<;>cases h3:decide (kind=3)<;>(try rw[h4 h1 h2 h3])<;>cases decide (M.order a b=0)<;>cases decide (M.order a b<0)<;>rfl
theorem F.yN (n:Int)  : F.vN n=some (M.inR n 0 2):=by
 rfl
theorem F.DR (a:Int) (b:Int) (alone:Int) (p0:0<=alone/\alone<=1):F.xh a b alone=some (M.fold a b alone):=by
 unfold F.xh M.fold
 rw[aH (n:=1-alone) (by omega) (by omega)]
 cases M.inR a 0 2
 ·rfl
 cases M.inR b 0 2
 ·rfl
 cases decide (a=alone)<;>cases decide (b=alone)<;>cases decide (a=2)<;>cases decide (b=2)<;>rfl
theorem F.Cf (a:Int) (b:Int)  : F.uL a b=some (M.tK a b):=by
 unfold F.uL M.tK
 rw[ai (by decide)]
theorem F.zm (v:af.D) (h_v:Sm af v):F.qL v=some (M.dw v):=by
 unfold F.qL M.dw
 cases M.aZ v<;>simp only[Bool.not_true,Bool.not_false,cond_true,cond_false,cK]
theorem F.Dy (a:Int) (b:Int)  : F.xw a b=some (M.Ij a b):=by
 unfold F.xw M.Ij
 rw[ai (by decide)]
theorem F.By (a:Int)  : F.uw a=some (M.CK a):=by
 unfold F.uw M.CK
 simp only[cK]
theorem F.uj (p:ax.D) (row:LV) (inp:LV) (h_p:Sm ax p) (h_row:Sm (Ty.sl af) row) (h_inp:Sm (Ty.sl af) inp) (p0:(inp.length:Int)=M.takes p) (p1:M.yC p row.length) (p2:1<=p.1/\p.1<=8):F.mm p row inp=some (M.fo p row inp):=by
 unfold F.mm M.fo
 have hz:(((0:Int),(0:Int),(⟨#[]⟩:ByteArray),()):af.D)=M.zeroV:=rfl
 by_cases e1:p.1=(1:Int)
 ·simp only[e1,decide_true,cond_true]
 by_cases e2:p.1=(2:Int)
 ·obtain⟨c0,c1⟩:=p1 e2
  simp only[e2,decide_true,cond_true,Int.reduceEq,decide_false,cond_false]
  rw[ai c0,ai c1]
 by_cases e3:p.1=(3:Int)
 ·rw[kU (.inl e3)] at p0
  simp only[e3,decide_true,cond_true,Int.reduceEq,decide_false,cond_false]
  repeat rw[ai (by omega)]
  generalize nth (t:=af) inp 0=a
  generalize nth (t:=af) inp 1=b
  unfold M.sum
  have hv:M.aZ ((1:Int),wrap64 (a.2.1+b.2.1),(⟨#[]⟩:ByteArray),())=M.inR (wrap64 (a.2.1+b.2.1)) (-9999) 9999:=by unfold M.aZ;simp
  rw[hv]
  cases decide (a.1=(0:Int))<;>cases decide (b.1=(0:Int))<;>cases M.inR (wrap64 (a.2.1+b.2.1)) (-9999) 9999<;>rfl
 by_cases e4:p.1=(4:Int)
 ·rw[kU (.inr (.inl e4))] at p0
  simp only[e4,decide_true,cond_true,Int.reduceEq,decide_false,cond_false,aV]
  repeat rw[ai (by omega)]
 by_cases e5:p.1=(5:Int)
 ·rw[kU (.inr (.inr (.inl e5)))] at p0
  simp only[e5,decide_true,cond_true,Int.reduceEq,decide_false,cond_false,aV]
  repeat rw[ai (by omega)]
 by_cases e6:p.1=(6:Int)
 ·rw[kU (.inr (.inr (.inr e6)))] at p0
  simp only[e6,decide_true,cond_true,Int.reduceEq,decide_false,cond_false,aV]
  repeat rw[ai (by omega)]
 by_cases e7:p.1=(7:Int)
 ·rw[tr (.inl e7)] at p0
  simp only[e7,decide_true,cond_true,Int.reduceEq,decide_false,cond_false,aV]
  repeat rw[ai (by omega)]
 ·simp only[e1,e2,e3,e4,e5,e6,e7,decide_false,cond_false,aV]
  have e8:p.1=(8:Int):=by
   rcases KB p2 with h | h | h | h | h | h | h | h<;>first | exact h | exact absurd h (by assumption)
  rw[tr (.inr e8)] at p0
  rw[ai (by omega)]
theorem F.wA (row:LV) (e:LPt) (h_row:Sm (Ty.sl af) row) (h_e:Sm (Ty.sl ax) e) (p0:M.gz row.length e):F.nH row e=some (M.dQ row e):=by
 unfold F.nH M.dQ
 obtain⟨h1,h2⟩:=DY (f:=F.ep row e) h_row (fun p st hp hs hl h1 hk hc=>BE p st hp hs hl h1 hk hc) e [] h_e.2 (iY af) (by simp;have:=p0.1;omega) p0.2
 rw[h1,bp,ai (by omega)]
theorem F.wB (row:LV) (e:LPt) (h_row:Sm (Ty.sl af) row) (h_e:Sm (Ty.sl ax) e) (p0:M.gz row.length e):F.rT row e=some (M.holds row e):=by
 rfl
theorem F.zj (xs:LV) (h_xs:Sm (Ty.sl af) xs):F.vP xs=some xs:=by
 exact M.tn (t:=af)
theorem F.BX (row:LV) (list:(List Int)) (h_row:Sm (Ty.sl af) row) (h_list:Sm (Ty.sl (Ty.int .i64)) list) (p0:M.CH row list):F.uC row list=some (M.taken row list):=by
 unfold F.uC
 rw[vq (fun i=>nth (t:=af) row i) (fun x hx s hs=>by
  have hl:=h_list.1
  obtain⟨h0,h1⟩:=p0 x hx
  simp only[F.lH]
  rw[ai h0,ai h1,ai (by unfold lim;simp;omega)])]
 show ag (Sm (.sl af) (M.taken row list)) (aJ (M.taken row list) fun r:List af.D=>some (aj r (some ((0:Int),(r.length:Int)))))=_
 rw[ai (M.IU h_row h_list)]
 simp only[aV,M.jQ]
theorem F.AP (n:Int) (p0:0<=n) (p1:n<=1099511627776):F.rQ n=some ([]:List af.D):=by
 unfold F.rQ
 have e:wrap64 (n-wrap64 ((0:Int)-(0:Int)))=n:=by
  rw[show wrap64 ((0:Int)-(0:Int))=0 by decide,Int.sub_zero]
  exact aH (by omega) (by omega)
 rw[decide_eq_false (by omega),e]
 by_cases h:0<n
 ·rw[decide_eq_true h]
  simp only[cond_true,cond_false]
  rw[ai p0,ai (by unfold lim;omega)]
  rfl
 ·rw[decide_eq_false h]
  rfl
theorem F.wY (xss:LLV) (h_xss:Sm (Ty.sl (Ty.sl af)) xss):F.pJ xss=some (List.flatten xss):=by
 unfold F.pJ
 exact M.qt (t:=af) h_xss (fun z v h0 h1=>by
  unfold F.iH
  rw[aH (n:=v+(z.length:Int)) (by omega) (by omega),decide_eq_false (by omega)]
  rfl) (fun z v h1=>by
  unfold F.iK
  rw[ai (by unfold lim;omega)])
theorem F.zK (a:LV) (b:LV) (h_a:Sm (Ty.sl af) a) (h_b:Sm (Ty.sl af) b) (p0:a.length+b.length<=1048576):F.rR a b=some (a++b):=by
 unfold F.rR
 have h1:=h_a.1
 have h2:=h_b.1
 have hs:Sm (.sl af) (a++b):=⟨by rw[List.length_append];omega,fun x hx=>by
  rcases List.mem_append.1 hx with h | h
  ·exact h_a.2 x h
  ·exact h_b.2 x h⟩
 rw[ai (show Sm (.sl (.sl af)) [a,b] from⟨by simp,fun x hx=>by
  rcases List.mem_cons.1 hx with rfl | hx
  ·exact h_a
  ·cases List.mem_singleton.1 hx
   exact h_b⟩),aV,List.flatten_cons,List.flatten_cons,List.flatten_nil,List.append_nil,ai hs,aV,M.ia]
theorem F.yZ (n:Int) (p0:0<=n) (p1:n<=1099511627776):F.qA n=some ([]:List (Ty.sl af).D):=by
 unfold F.qA
 have e:wrap64 (n-wrap64 ((0:Int)-(0:Int)))=n:=by
  rw[show wrap64 ((0:Int)-(0:Int))=0 by decide,Int.sub_zero]
  exact aH (by omega) (by omega)
 rw[decide_eq_false (by omega),e]
 by_cases h:0<n
 ·rw[decide_eq_true h]
  simp only[cond_true,cond_false]
  rw[ai p0,ai (by unfold lim;omega)]
  rfl
 ·rw[decide_eq_false h]
  rfl
theorem F.vp (xss:(List LLV)) (h_xss:Sm (Ty.sl (Ty.sl (Ty.sl af))) xss):F.oc xss=some (List.flatten xss):=by
 unfold F.oc
 exact M.qt (t:=(Ty.sl af)) h_xss (fun z v h0 h1=>by
  unfold F.gZ
  rw[aH (n:=v+(z.length:Int)) (by omega) (by omega),decide_eq_false (by omega)]
  rfl) (fun z v h1=>by
  unfold F.gU
  rw[ai (by unfold lim;omega)])
theorem F.wQ (rows:LLV) (h_rows:Sm (Ty.sl (Ty.sl af)) rows):F.oV rows=some rows:=by
 unfold F.oV
 rw[vq (fun r=>r) (fun x hx s hs=>by
  have hl:=h_rows.1
  simp only[F.iG,aV,M.jQ]
  rw[ai (by unfold lim;simp;omega)]),M.AH,bp,M.ia]
theorem F.yK (xs:LV) (ys:LV) (h_xs:Sm (Ty.sl af) xs) (h_ys:Sm (Ty.sl af) ys):F.vl xs ys=some (decide (xs=ys)):=by
 exact JB (t:=af) (fun i h0 h1 h2=>by simp only[F.ju,ai h2,kW,cK,Kk (t:=af) rfl])
theorem F.yX (rows:LLV) (row:LV) (h_rows:Sm (Ty.sl (Ty.sl af)) rows) (h_row:Sm (Ty.sl af) row):F.qB rows row=some (M.fB rows row:Int):=by
 unfold F.qB M.fB
 have hl:=h_rows.1
 have key:∀(l:List (List af.D)) (v:Int),0<=v->v+(l.length:Int)<=1048576->aO (F.gB rows row) l v=some (.inl (v+(l.countP (fun r=>decide (r=row)):Int))):=by
  intro l
  induction l with
  | nil=>intro v _ _;show some (Sum.inl v)=some (Sum.inl (v+0));rw[Int.add_zero]
  | cons x l ih=>
   intro v h0 hb
   simp only[List.length_cons] at hb
   rw[bM,List.countP_cons,show F.gB rows row x v=cond (decide (x=row)) (some (.inl (wrap64 (v+(1:Int))))) (some (.inl v)) from rfl]
   cases decide (x=row) with
   | true=>
    rw[cond_true,aH (n:=v+(1:Int)) (by omega) (by omega),bp,ih _ (by omega) (by omega)]
    congr 2
    simp
    omega
   | false=>
    rw[cond_false,bp,ih _ h0 (by omega)]
    congr 2
 rw[key rows 0 (by omega) (by omega),bp,Int.zero_add]
theorem F.zi (rows:LLV) (row:LV) (h_rows:Sm (Ty.sl (Ty.sl af)) rows) (h_row:Sm (Ty.sl af) row):F.vE rows row=some (decide (0<(M.fB rows row:Int))):=by
 rfl
theorem F.xR (rows:LLV) (h_rows:Sm (Ty.sl (Ty.sl af)) rows):F.oM rows=some (M.cX rows):=by
 unfold F.oM M.cX
 have hfold:=BI (f:=F.fT rows) rows h_rows (fun z v hz hv=>by
  unfold F.fT M.dg
  have hl:=h_rows.1
  rw[ai hv.1]
  rw[show (!decide ((0:Int)<(M.fB v z:Int)))=decide ((M.fB v z:Int)=(0:Int)) by
   generalize M.fB v z=n
   by_cases h:n=0
   ·rw[decide_eq_false (by omega),decide_eq_true (by omega)];rfl
   ·rw[decide_eq_true (by omega),decide_eq_false (by omega)];rfl]
  cases decide ((M.fB v z:Int)=(0:Int)) with
  | false=>rfl
  | true=>
   simp only[cond_true]
   rw[ai (by have:=hv.2;unfold lim;simp;omega)])
 rw[hfold.1,bp,ai hfold.2,aV,M.ia]
theorem F.uX (s:aa.D) (tables:LTb) (ahead:(List LLV)) (h_s:Sm aa s) (h_tables:Sm (Ty.sl az) tables) (h_ahead:Sm (Ty.sl (Ty.sl (Ty.sl af))) ahead) (p0:M.sX tables ahead s):F.nk s tables ahead=some (M.bQ tables ahead s):=by
 obtain⟨r1,rin,rfew,r2,r3,r4⟩:=p0
 unfold F.nk M.bQ
 by_cases h1:s.1=(1:Int)
 ·obtain⟨n0,n1⟩:=r1 h1
  have hsm:=(aL h_tables s.2.2.2.1).2.1
  have hl:=hsm.1
  simp only[h1,decide_true,cond_true]
  rw[ai n0,ai n1]
 obtain⟨⟨a0,a1⟩,⟨b0,b1⟩⟩:=rin h1
 obtain⟨fa,fb⟩:=rfew h1
 have ha:=fa.1
 have hb:=fb.1
 have sa:Sm (.sl (.sl af)) (nth (t:=.sl (.sl af)) ahead s.2.1):=aL h_ahead _
 have sb:Sm (.sl (.sl af)) (nth (t:=.sl (.sl af)) ahead s.2.2.1):=aL h_ahead _
 by_cases h2:s.1=(2:Int)
 ·simp only[h2,decide_true,cond_true,Int.reduceEq,decide_false,cond_false]
  rw[ai a0,ai a1,xW (fun x:List af.D=>cond (M.holds x s.2.2.2.2.1) [x] []) (nth (t:=.sl (.sl af)) ahead s.2.1) 1 (fun x _=>by cases M.holds x s.2.2.2.2.1<;>simp) [] (fun x hx v hv=>by
   unfold F.gP
   rw[ai (r2 h2 _ hx)]
   cases M.holds x s.2.2.2.2.1
   ·rw[cond_false,cond_false,List.append_nil]
   ·rw[cond_true,cond_true,ai (by simp at hv;unfold lim;simp;omega)]),yj]
  rfl
 by_cases h3:s.1=(3:Int)
 ·simp only[h3,decide_true,cond_true,Int.reduceEq,decide_false,cond_false]
  rw[ai a0,ai a1,xW (fun x:List af.D=>[M.taken x s.2.2.2.2.2.1]) (nth (t:=.sl (.sl af)) ahead s.2.1) 1 (fun x _=>Nat.le_refl _) [] (fun x hx v hv=>by
   unfold F.gX
   rw[ai (r3 h3 _ hx),aV,ai (by simp at hv;unfold lim;simp;omega)]),FB]
  rfl
 by_cases h4:s.1=(4:Int)
 ·simp only[h4,decide_true,cond_true,Int.reduceEq,decide_false,cond_false]
  rw[ai a0,ai a1,Gn (t:=.sl af) (fun r=>M.joined s.2.2.2.2.1 r (nth (t:=.sl (.sl af)) ahead s.2.2.1)) (nth (t:=.sl (.sl af)) ahead s.2.1) ((nth (t:=.sl (.sl af)) ahead s.2.2.1):List (List af.D)).length (fun r _=>M.At _ _ _) [] (fun i v i0 i1 hv=>by
   have hv9:v.length<=300 * 300:=Nat.le_trans (by simpa using hv) (Nat.mul_le_mul ha hb)
   have hrm:=wz (t:=.sl af) i0 i1
   unfold F.gT
   rw[ai b0,ai b1,xW (fun q:List af.D=>cond (M.holds (nth (t:=.sl af) (nth (t:=.sl (.sl af)) ahead s.2.1) i++q:List af.D) s.2.2.2.2.1) [(nth (t:=.sl af) (nth (t:=.sl (.sl af)) ahead s.2.1) i++q:List af.D)] []) (nth (t:=.sl (.sl af)) ahead s.2.2.1) 1 (fun q _=>by cases M.holds (nth (t:=.sl af) (nth (t:=.sl (.sl af)) ahead s.2.1) i++q:List af.D) s.2.2.2.2.1<;>simp) v (fun q hqm w hw=>by
    have l1:=fa.2 _ hrm
    have l2:=fb.2 _ hqm
    unfold F.gJ
    rw[ai (show (nth (t:=.sl af) (nth (t:=.sl (.sl af)) ahead s.2.1) i:List af.D).length+q.length<=1048576 by omega),aV]
    simp only[M.jQ]
    rw[ai (show Sm (.sl af) (nth (t:=.sl af) (nth (t:=.sl (.sl af)) ahead s.2.1) i++q) from⟨by rw[List.length_append];omega,fun x hx=>(List.mem_append.1 hx).elim ((sa.2 _ hrm).2 x) ((sb.2 _ hqm).2 x)⟩),ai (r4 h4 _ hrm _ hqm)]
    cases M.holds (nth (t:=.sl af) (nth (t:=.sl (.sl af)) ahead s.2.1) i++q:List af.D) s.2.2.2.2.1
    ·rw[cond_false,cond_false,List.append_nil]
    ·rw[cond_true,cond_true,ai (by simp at hw;unfold lim;simp;omega)]),yF]
   rfl)]
  rfl
 by_cases h5:s.1=(5:Int)
 ·simp only[h5,decide_true,cond_true,Int.reduceEq,decide_false,cond_false]
  rw[ai a0,ai a1,ai b0,ai b1,ai (show Sm (.sl (.sl (.sl af))) [(nth (t:=.sl (.sl af)) ahead s.2.1),(nth (t:=.sl (.sl af)) ahead s.2.2.1)] from⟨by simp,fun x hx=>by
   rcases List.mem_cons.1 hx with rfl | hx
   ·exact sa
   ·cases List.mem_singleton.1 hx
    exact sb⟩)]
  simp only[aV,List.flatten_cons,List.flatten_nil,List.append_nil,M.jQ,M.ia]
 by_cases h6:s.1=(6:Int)
 ·simp only[h6,decide_true,cond_true,Int.reduceEq,decide_false,cond_false]
  rw[ai a0,ai a1]
  simp only[aV,M.jQ,M.ia]
 simp only[h1,h2,h3,h4,h5,h6,decide_false,cond_false]
theorem F.wS (tables:LTb) (plan:LS) (h_tables:Sm (Ty.sl az) tables) (h_plan:Sm (Ty.sl aa) plan) (p0:M.aQ tables plan=true):F.oR tables plan=some (M.cB tables plan):=by
 unfold F.oR M.cB
 rw[p0,cond_true]
 have hl:=h_plan.1
 have hpos:=(M.cz p0).1
 obtain⟨h1,h2⟩:=HB (f:=F.fX tables plan) h_tables h_plan p0 (fun z v h1 h2 h3=>by
  unfold F.fX M.eO
  rw[ai h1,ai h2,aV,ai (by unfold lim;simp;omega)])
 obtain⟨st,_,hR⟩:=FD h_tables h_plan p0
 have hsm:=DB hR (by show (plan.foldl (M.eO tables) []).length<=1048576;rw[h2];exact hl)
 rw[h1,bp,h2,gf _ hl,ai (by omega),ai (by omega),show plan.foldl (M.eO tables) []=M.bZ tables plan from rfl,ai (aL hsm _),aV,M.ia]
theorem F.xx (tables:LTb) (plan:LS) (h_tables:Sm (Ty.sl az) tables) (h_plan:Sm (Ty.sl aa) plan):F.pn tables plan=some (M.cB tables plan):=by
 unfold F.pn
 cases hp:M.aQ tables plan
 ·unfold M.cB
  rw[hp]
  rfl
 ·simp only[Bool.not_true,cond_false,aV,M.ia]
theorem F.vC (b:(List Int)) (p:Int) (n:Int) (h_b:Sm (Ty.sl (Ty.int .u8)) b) (p0:M.ay b) (p1:0<=p) (p2:p<=1000000000000000):ok (F.pX b p n) (fun r=>0<=r.1/\(1<=n->r.1<n)/\(n<1->r.1=0)/\r.2=p+1):=by
 unfold F.pX
 have hw:wrap64 (p+1)=p+1:=aH (by omega) (by omega)
 have hw2:wrap64 (p+1-1)=p:=by rw[show p+1-1=p by omega];exact aH (by omega) (by omega)
 simp only[hw,hw2]
 refine LH (fun c0=>?_) (fun c0=>?_)
 ·refine okD (fun c1=>?_) (fun c1=>?_)
  ·exact okS ⟨by dsimp only;omega,fun h=>by dsimp only;omega,fun h=>rfl,rfl⟩
  ·have hl:1<=(b.length:Int):=by omega
   refine okD (fun c2=>?_) (fun c2=>?_)
   ·refine okG (okG (okG (okS ?_)))
    have:=M.HQ (M.wW p0 p) (n:=n) (by omega)
    exact⟨this.1,fun _=>this.2,fun h=>by omega,rfl⟩
   ·obtain⟨t0,t1⟩:=M.vB p1 hl
    have h7:wrap64 (wrap64 (p * 7)+3)=p * 7+3:=by rw[aH (n:=p * 7) (by omega) (by omega),aH (by omega) (by omega)]
    obtain⟨t2,t3⟩:=M.vB (a:=p * 7+3) (by omega) hl
    rw[h7]
    refine okG (okG (okG (okG (okG (okG (okS ?_))))))
    have:=M.IQ (M.wW p0 (p.tmod (b.length:Int))) (M.wW p0 ((p * 7+3).tmod (b.length:Int))) p1 p2 (M.GZ p1 hl) (n:=n) (by omega)
    exact⟨this.1,fun _=>this.2,fun h=>by omega,rfl⟩
 ·exact okS ⟨by dsimp only;omega,fun h=>by omega,fun h=>rfl,rfl⟩
theorem F.DQ (b:(List Int)) (p:Int) (n:Int) (h_b:Sm (Ty.sl (Ty.int .u8)) b) (p0:M.ay b) (p1:0<=p) (p2:p<=1000000000000000):F.pX b p n=some (M.pick b p n):=iQ (F.vC b p n h_b p0 p1 p2)
theorem M.Ie (b:(List Int)) (p:Int) (n:Int) (h_b:Sm (Ty.sl (Ty.int .u8)) b) (p0:M.ay b) (p1:0<=p) (p2:p<=1000000000000000):0<=(M.pick b p n).1/\(1<=n->(M.pick b p n).1<n)/\(n<1->(M.pick b p n).1=0)/\(M.pick b p n).2=p+1:=iT (F.vC b p n h_b p0 p1 p2)
theorem aC {α:Type} {K:α->Prop} {f:Int×Int->Option α} {b:(List Int)} {p:Int} {n:Int} (k:∀r,(0<=r.1)->(1<=n->r.1<n)->(n<1->r.1=0)->(r.2=p+1)->ok (f r) K) (h_b:Sm (Ty.sl (Ty.int .u8)) b:=by exact au) (p0:M.ay b:=by exact au) (p1:0<=p:=by exact au) (p2:p<=1000000000000000:=by exact au):ok (aJ (M.pick b p n) f) K:=by
 have h:=M.Ie b p n h_b p0 p1 p2
 obtain⟨h0,h1,h2,h3⟩:=h
 exact k _ h0 h1 h2 h3
theorem F.rF (b:(List Int)) (p:Int) (c:ah.D) (h_b:Sm (Ty.sl (Ty.int .u8)) b) (p0:M.ay b) (p1:0<=p) (p2:p<=998000000000000):ok (F.kq b p c) (fun r=>r.1.2.2.1.size<=20/\p<=r.2/\r.2<=p+3):=by
  unfold F.kq
  refine okC (fun c_0=>?_) (fun c_0=>?_)
  ·refine okG ?_
   refine aC fun r1 h_1_4_0 h_1_4_1 h_1_4_2 h_1_4_3=>?_
   refine okD (fun c_1=>?_) (fun c_1=>?_)
   ·exact tB
   ·refine okD (fun c_2=>?_) (fun c_2=>?_)
    ·refine okG ?_
     refine okG ?_
     refine aC fun r2 h_5_1_0 h_5_1_1 h_5_1_2 h_5_1_3=>?_
     exact tB
    ·refine okD (fun c_3=>?_) (fun c_3=>?_)
     ·refine okG ?_
      refine okG ?_
      refine aC fun r3 h_7_2_0 h_7_2_1 h_7_2_2 h_7_2_3=>?_
      refine okG ?_
      refine okG ?_
      exact tB
     ·refine okG ?_
      refine okG ?_
      refine aC fun r4 h_8_1_0 h_8_1_1 h_8_1_2 h_8_1_3=>?_
      exact tB
  ·refine okD (fun c_4=>?_) (fun c_4=>?_)
   ·refine okG ?_
    refine aC fun r2 h_5_1_0 h_5_1_1 h_5_1_2 h_5_1_3=>?_
    exact tB
   ·refine okD (fun c_5=>?_) (fun c_5=>?_)
    ·refine okG ?_
     refine aC fun r3 h_7_2_0 h_7_2_1 h_7_2_2 h_7_2_3=>?_
     refine okG ?_
     refine okG ?_
     exact tB
    ·refine okG ?_
     refine aC fun r4 h_8_1_0 h_8_1_1 h_8_1_2 h_8_1_3=>?_
     exact tB
theorem F.yS (b:(List Int)) (p:Int) (c:ah.D) (h_b:Sm (Ty.sl (Ty.int .u8)) b) (p0:M.ay b) (p1:0<=p) (p2:p<=998000000000000):F.kq b p c=some (M.lB b p c):=iQ (F.rF b p c h_b p0 p1 p2)
theorem M.Du (b:(List Int)) (p:Int) (c:ah.D) (h_b:Sm (Ty.sl (Ty.int .u8)) b) (p0:M.ay b) (p1:0<=p) (p2:p<=998000000000000):(M.lB b p c).1.2.2.1.size<=20/\p<=(M.lB b p c).2/\(M.lB b p c).2<=p+3:=iT (F.rF b p c h_b p0 p1 p2)
theorem pW {α:Type} {K:α->Prop} {f:af.D×Int->Option α} {b:(List Int)} {p:Int} {c:ah.D} (k:∀r,(r.1.2.2.1.size<=20)->(p<=r.2)->(r.2<=p+3)->ok (f r) K) (h_b:Sm (Ty.sl (Ty.int .u8)) b:=by exact au) (p0:M.ay b:=by exact au) (p1:0<=p:=by exact au) (p2:p<=998000000000000:=by exact au):ok (aJ (M.lB b p c) f) K:=by
 have h:=M.Du b p c h_b p0 p1 p2
 obtain⟨h0,h1,h2⟩:=h
 exact k _ h0 h1 h2
theorem F.rC (b:(List Int)) (p:Int) (columns:LC) (kind:Int) (h_b:Sm (Ty.sl (Ty.int .u8)) b) (h_columns:Sm (Ty.sl ah) columns) (p0:M.ay b) (p1:0<=p) (p2:p<=997000000000000):ok (F.jN b p columns kind) (fun r=>r.1.2.2.1.2.2.1.size<=20/\p<=r.2/\r.2<=p+20):=by
  unfold F.jN
  have hl:=h_columns.1
  refine okT (A:=fun e0=>p<=e0/\e0<=p+8) (B:=fun q0=>p<=q0.1/\q0.1<=p+10) ?_ (fun e0 h_e0=>?_) (fun q0 h_q0=>?_)
  ·refine okW (fun(k:Nat) (v0:Int×Int)=>0<=v0.1/\v0.1<=4/\4<=v0.1+(k:Int)/\p<=v0.2/\v0.2<=p+2 * v0.1) (fun k v0 hI=>?_) (4:Nat) _ ⟨au,au,au,au,au⟩
   obtain⟨i_0,i_1,i_2,i_3,i_4⟩:=hI
   unfold F.jo
   refine Da (fun c_0=>?_) (fun c_0=>?_)
   ·refine okD (fun c_1=>?_) (fun c_1=>?_)
    ·refine okG ?_
     refine okG ?_
     refine okG ?_
     refine aC fun r1 h_4_3_0 h_4_3_1 h_4_3_2 h_4_3_3=>?_
     refine okG ?_
     refine okG ?_
     refine Da (fun c_2=>?_) (fun c_2=>?_)
     ·refine okG ?_
      refine okG ?_
      refine aC fun r2 h_5_9_0 h_5_9_1 h_5_9_2 h_5_9_3=>?_
      refine okD (fun c_3=>?_) (fun c_3=>?_)
      ·exact FQ ⟨au,au⟩
      ·exact eI ⟨k-1,by omega,au,au,au,au,au⟩
     ·exact eI ⟨k-1,by omega,au,au,au,au,au⟩
    ·exact Af ⟨au,au⟩
   ·exact Af ⟨au,au⟩
  ·obtain⟨e0_0,e0_1⟩:=h_e0
   refine okG ?_
   refine okG ?_
   refine pW fun r3 h_7_3_0 h_7_3_1 h_7_3_2=>?_
   exact tB
  ·obtain⟨q0_0,q0_1⟩:=h_q0
   exact tB
theorem F.yQ (b:(List Int)) (p:Int) (columns:LC) (kind:Int) (h_b:Sm (Ty.sl (Ty.int .u8)) b) (h_columns:Sm (Ty.sl ah) columns) (p0:M.ay b) (p1:0<=p) (p2:p<=997000000000000):F.jN b p columns kind=some (M.dS b p columns kind):=iQ (F.rC b p columns kind h_b h_columns p0 p1 p2)
theorem M.Dv (b:(List Int)) (p:Int) (columns:LC) (kind:Int) (h_b:Sm (Ty.sl (Ty.int .u8)) b) (h_columns:Sm (Ty.sl ah) columns) (p0:M.ay b) (p1:0<=p) (p2:p<=997000000000000):(M.dS b p columns kind).1.2.2.1.2.2.1.size<=20/\p<=(M.dS b p columns kind).2/\(M.dS b p columns kind).2<=p+20:=iT (F.rC b p columns kind h_b h_columns p0 p1 p2)
theorem fV {α:Type} {K:α->Prop} {f:ax.D×Int->Option α} {b:(List Int)} {p:Int} {columns:LC} {kind:Int} (k:∀r,(r.1.2.2.1.2.2.1.size<=20)->(p<=r.2)->(r.2<=p+20)->ok (f r) K) (h_b:Sm (Ty.sl (Ty.int .u8)) b:=by exact au) (h_columns:Sm (Ty.sl ah) columns:=by exact au) (p0:M.ay b:=by exact au) (p1:0<=p:=by exact au) (p2:p<=997000000000000:=by exact au):ok (aJ (M.dS b p columns kind) f) K:=by
 have h:=M.Dv b p columns kind h_b h_columns p0 p1 p2
 obtain⟨h0,h1,h2⟩:=h
 exact k _ h0 h1 h2
theorem dF {α:Type} {K:α->Prop} {f:LPt×Int->Option α} {n_:Nat} (ih:∀(b:(List Int)),∀(p:Int),∀(columns:LC),∀(kind:Int),∀(deep:Int),(Sm (Ty.sl (Ty.int .u8)) b)->(Sm (Ty.sl ah) columns)->(M.ay b)->(0<=p)->(p+40 * (M.eB deep:Int)<=996000000000000)->(deep<=3)->(deep.toNat<n_)->1<=(M.bL n_ b p columns kind deep).1.length/\(M.bL n_ b p columns kind deep).1.length<=M.eB deep/\(∀v∈(M.bL n_ b p columns kind deep).1,v.2.2.1.2.2.1.size<=20)/\p<=(M.bL n_ b p columns kind deep).2/\(M.bL n_ b p columns kind deep).2<=p+40 * M.eB deep) {b:(List Int)} {p:Int} {columns:LC} {kind:Int} {deep:Int} (k:∀r,(1<=r.1.length)->(r.1.length<=M.eB deep)->(∀v∈r.1,v.2.2.1.2.2.1.size<=20)->(p<=r.2)->(r.2<=p+40 * M.eB deep)->ok (f r) K) (h_b:Sm (Ty.sl (Ty.int .u8)) b:=by exact au) (h_columns:Sm (Ty.sl ah) columns:=by exact au) (p0:M.ay b:=by exact au) (p1:0<=p:=by exact au) (p2:p+40 * (M.eB deep:Int)<=996000000000000:=by exact au) (p3:deep<=3:=by exact au) (p4:deep.toNat<n_:=by exact au):ok (aJ (M.bL n_ b p columns kind deep) f) K:=by
 have h:=ih b p columns kind deep h_b h_columns p0 p1 p2 p3 p4
 obtain⟨h0,h1,h2,h3,h4⟩:=h
 exact k _ h0 h1 h2 h3 h4
theorem F.rD (n_:Nat) (ih:∀(b:(List Int)),∀(p:Int),∀(columns:LC),∀(kind:Int),∀(deep:Int),(Sm (Ty.sl (Ty.int .u8)) b)->(Sm (Ty.sl ah) columns)->(M.ay b)->(0<=p)->(p+40 * (M.eB deep:Int)<=996000000000000)->(deep<=3)->(deep.toNat<n_)->1<=(M.bL n_ b p columns kind deep).1.length/\(M.bL n_ b p columns kind deep).1.length<=M.eB deep/\(∀v∈(M.bL n_ b p columns kind deep).1,v.2.2.1.2.2.1.size<=20)/\p<=(M.bL n_ b p columns kind deep).2/\(M.bL n_ b p columns kind deep).2<=p+40 * M.eB deep) (b:(List Int)) (p:Int) (columns:LC) (kind:Int) (deep:Int) (h_b:Sm (Ty.sl (Ty.int .u8)) b) (h_columns:Sm (Ty.sl ah) columns) (p0:M.ay b) (p1:0<=p) (p2:p+40 * (M.eB deep:Int)<=996000000000000) (p3:deep<=3) (p4:deep.toNat<(n_+1)):ok (F.mP n_ b p columns kind deep) (fun r=>1<=r.1.length/\r.1.length<=M.eB deep/\(∀v∈r.1,v.2.2.1.2.2.1.size<=20)/\p<=r.2/\r.2<=p+40 * M.eB deep):=by
  unfold F.mP
  have hE0:=M.GS (d:=deep)
  have hE1:=M.GS (d:=wrap64 (deep-(1:Int)))
  have hE2:=M.GS (d:=wrap64 (deep-(2:Int)))
  have hE3:=M.Lw (d:=deep) p3
  have hE4:=M.LB (d:=deep) p3
  refine LH (fun c_0=>?_) (fun c_0=>?_)
  ·refine okG ?_
   refine aC fun r1 h_1_4_0 h_1_4_1 h_1_4_2 h_1_4_3=>?_
   refine okD (fun c_1=>?_) (fun c_1=>?_)
   ·refine okG ?_
    refine okG ?_
    refine fV fun r2 h_2_3_0 h_2_3_1 h_2_3_2=>?_
    exact zF
   ·refine okD (fun c_2=>?_) (fun c_2=>?_)
    ·refine okG ?_
     refine okG ?_
     refine okG ?_
     refine okG ?_
     refine dF ih fun r3 h_4_5_0 h_4_5_1 h_4_5_2 h_4_5_3 h_4_5_4=>?_
     refine okG ?_
     refine okG ?_
     refine fV fun r4 h_4_9_0 h_4_9_1 h_4_9_2=>?_
     refine okG ?_
     refine okG ?_
     exact zF
    ·refine okD (fun c_3=>?_) (fun c_3=>?_)
     ·refine okG ?_
      refine okG ?_
      refine fV fun r5 h_6_3_0 h_6_3_1 h_6_3_2=>?_
      exact zF
     ·refine okG ?_
      refine okG ?_
      refine aC fun r6 h_7_1_0 h_7_1_1 h_7_1_2 h_7_1_3=>?_
      refine okD (fun c_4=>?_) (fun c_4=>?_)
      ·refine okG ?_
       refine okG ?_
       refine okG ?_
       refine okG ?_
       refine dF ih fun r7 h_9_4_0 h_9_4_1 h_9_4_2 h_9_4_3 h_9_4_4=>?_
       refine okG ?_
       refine okG ?_
       refine okG ?_
       refine okG ?_
       refine dF ih fun r8 h_9_9_0 h_9_9_1 h_9_9_2 h_9_9_3 h_9_9_4=>?_
       refine okG ?_
       refine okG ?_
       refine okG ?_
       refine aC fun r9 h_9_12_0 h_9_12_1 h_9_12_2 h_9_12_3=>?_
       refine okG ?_
       exact zF
      ·refine okD (fun c_5=>?_) (fun c_5=>?_)
       ·refine okG ?_
        refine okG ?_
        refine okG ?_
        refine okG ?_
        refine dF ih fun r10 h_11_4_0 h_11_4_1 h_11_4_2 h_11_4_3 h_11_4_4=>?_
        refine okG ?_
        exact zF
       ·refine okD (fun c_6=>?_) (fun c_6=>?_)
        ·refine okG ?_
         refine okG ?_
         refine aC fun r11 h_13_3_0 h_13_3_1 h_13_3_2 h_13_3_3=>?_
         refine okG ?_
         refine okG ?_
         refine okG ?_
         refine okG ?_
         refine dF ih fun r12 h_13_7_0 h_13_7_1 h_13_7_2 h_13_7_3 h_13_7_4=>?_
         refine okG ?_
         exact zF
        ·refine okG ?_
         refine okG ?_
         refine aC fun r13 h_14_1_0 h_14_1_1 h_14_1_2 h_14_1_3=>?_
         refine okG ?_
         refine okG ?_
         refine okG ?_
         refine okG ?_
         refine dF ih fun r14 h_15_5_0 h_15_5_1 h_15_5_2 h_15_5_3 h_15_5_4=>?_
         refine okG ?_
         refine okG ?_
         refine fV fun r15 h_15_9_0 h_15_9_1 h_15_9_2=>?_
         refine okG ?_
         refine okG ?_
         refine okG ?_
         refine aC fun r16 h_15_13_0 h_15_13_1 h_15_13_2 h_15_13_3=>?_
         refine okG ?_
         exact zF
  ·refine okG ?_
   refine fV fun r2 h_2_3_0 h_2_3_1 h_2_3_2=>?_
   exact zF
theorem M.qR:∀(n_:Nat),∀(b:(List Int)),∀(p:Int),∀(columns:LC),∀(kind:Int),∀(deep:Int),(Sm (Ty.sl (Ty.int .u8)) b)->(Sm (Ty.sl ah) columns)->(M.ay b)->(0<=p)->(p+40 * (M.eB deep:Int)<=996000000000000)->(deep<=3)->(deep.toNat<n_)->1<=(M.bL n_ b p columns kind deep).1.length/\(M.bL n_ b p columns kind deep).1.length<=M.eB deep/\(∀v∈(M.bL n_ b p columns kind deep).1,v.2.2.1.2.2.1.size<=20)/\p<=(M.bL n_ b p columns kind deep).2/\(M.bL n_ b p columns kind deep).2<=p+40 * M.eB deep
 | 0,b,p,columns,kind,deep,h_b,h_columns,p0,p1,p2,p3,p4=>absurd p4 (Nat.not_lt_zero _)
 | n_+1,b,p,columns,kind,deep,h_b,h_columns,p0,p1,p2,p3,p4=>iT (F.rD n_ (M.qR n_) b p columns kind deep h_b h_columns p0 p1 p2 p3 p4)
theorem F.zc (n_:Nat) (b:(List Int)) (p:Int) (columns:LC) (kind:Int) (deep:Int) (h_b:Sm (Ty.sl (Ty.int .u8)) b) (h_columns:Sm (Ty.sl ah) columns) (p0:M.ay b) (p1:0<=p) (p2:p+40 * (M.eB deep:Int)<=996000000000000) (p3:deep<=3) (p4:deep.toNat<(n_+1)):F.mP n_ b p columns kind deep=some (M.bL (n_+1) b p columns kind deep):=iQ (F.rD n_ (M.qR n_) b p columns kind deep h_b h_columns p0 p1 p2 p3 p4)
theorem dM {α:Type} {K:α->Prop} {f:LPt×Int->Option α} {n_:Nat} {b:(List Int)} {p:Int} {columns:LC} {kind:Int} {deep:Int} (k:∀r,(1<=r.1.length)->(r.1.length<=M.eB deep)->(∀v∈r.1,v.2.2.1.2.2.1.size<=20)->(p<=r.2)->(r.2<=p+40 * M.eB deep)->ok (f r) K) (h_b:Sm (Ty.sl (Ty.int .u8)) b:=by exact au) (h_columns:Sm (Ty.sl ah) columns:=by exact au) (p0:M.ay b:=by exact au) (p1:0<=p:=by exact au) (p2:p+40 * (M.eB deep:Int)<=996000000000000:=by exact au) (p3:deep<=3:=by exact au) (p4:deep.toNat<n_:=by exact au):ok (aJ (M.bL n_ b p columns kind deep) f) K:=by
 have h:=M.qR n_ b p columns kind deep h_b h_columns p0 p1 p2 p3 p4
 obtain⟨h0,h1,h2,h3,h4⟩:=h
 exact k _ h0 h1 h2 h3 h4
theorem F.DG (n:Int) (low:Int) (high:Int)  : F.wX n low high=some (M.inR n low high):=by
 unfold F.wX M.inR
 cases decide (low<=n)<;>rfl
theorem F.va (columns:LC) (h_columns:Sm (Ty.sl ah) columns):F.nF columns=some (M.bI columns):=by
 unfold F.nF M.bI
 rw[ki M.eL () (fun x _=>by simp only[F.gW,kW,cK]<;>rfl),show decide ((columns.length:Int)<=4)=decide (columns.length<=4) from decide_eq_decide.2 (by omega)]
 cases columns.all M.eL<;>simp
theorem F.zH (s:ByteArray) (h_s:Sm Ty.str s):F.sv s=some (M.text s):=by
 unfold F.sv M.text M.lower
 have key:∀c:Int,(cond ((decide (c<97))==false) (cond (decide (122<c)) (some (Sum.inr ())) (some (Sum.inl ()))) (some (Sum.inr ())):Option (Sum Unit Unit))=some (cond (M.inR c 97 122) (.inl ()) (.inr ())):=by
  intro c
  unfold M.inR
  by_cases h2:c<97
  ·simp[h2,show ¬ 97<=c by omega]
  ·by_cases h3:122<c
   ·simp[h2,h3,show 97<=c by omega,show ¬c<=122 by omega]
   ·simp[h2,h3,show 97<=c by omega,show c<=122 by omega]
 rw[ki (fun i=>M.inR (nth (t:=.int .u8) (cq s) i) 97 122) () (fun i hi=>by
  obtain⟨h0,h1⟩:=fH.1 hi
  simp only[F.jX,Dt h0 h1]
  exact key _)]
 rw[<-mA,HJ (t:=.int .u8) (cq s) (fun n=>M.inR n 97 122),show decide (((cq s).length:Int)<=6)=decide ((cq s).length<=6) from decide_eq_decide.2 (by omega)]
 cases (cq s).all fun n=>M.inR n 97 122<;>simp
theorem F.zg (v:af.D) (h_v:Sm af v):F.qJ v=some (M.aZ v):=by
 unfold F.qJ M.aZ
 simp only[kV]
 simp only[cK]
theorem F.Au (columns:LC) (kinds:(List Int)) (p:ax.D) (h_columns:Sm (Ty.sl ah) columns) (h_kinds:Sm (Ty.sl (Ty.int .i64)) kinds) (h_p:Sm ax p) (p0:kinds.length<=1000):F.lR columns kinds p=some (M.wZ columns kinds p):=by
 obtain⟨o,s,e,_⟩:=wu (columns:=columns) p p0 h_columns.1
 unfold M.wZ
 rw[e]
 rfl
theorem F.xq (columns:LC) (e:LPt) (h_columns:Sm (Ty.sl ah) columns) (h_e:Sm (Ty.sl ax) e):F.oY columns e=some (M.bE columns e):=by
 unfold F.oY M.bE
 cases M.bI columns
 ·rfl
 by_cases hl:e.length<=12
 ·rw[decide_eq_false (show ¬(12:Int)<(e.length:Int) by omega),decide_eq_true hl]
  obtain⟨o,s,h1,h2⟩:=BA (columns:=columns) (E:=e) (by omega) h_columns.1 e.length 0 [] (by omega) (by omega) (by simp;omega)
  rw[show (0:Int)=((0:Nat):Int) from rfl,h1]
  rw[List.drop_zero] at h2
  unfold pM at h2
  cases hk:M.iE columns e [] with
  | none=>
   rw[hk] at h2
   simp only at h2
   subst h2
   rfl
  | some s'=>
   rw[hk] at h2
   obtain⟨rfl,rfl⟩:=h2
   match s with
   | []=>rfl
   | [a]=>exact ai (by simp)
   | a::b::l=>
    have:¬((a::b::l).length:Int)=1:=by simp;omega
    simp only[Option.bind_some,this,decide_false]
    rfl
 ·rw[decide_eq_true (show (12:Int)<(e.length:Int) by omega),decide_eq_false hl]
  rfl
theorem F.wT (s:aa.D) (h_s:Sm aa s):F.pF s=some (M.bW s):=by
 unfold F.pF M.bW M.two
 generalize decide (s.2.1=(0:Int))=a0
 generalize decide (s.2.2.1=(0:Int))=b0
 generalize decide (s.2.2.2.1=(0:Int))=n0
 generalize decide ((s.2.2.2.2.1.length:Int)=(0:Int))=e0
 generalize decide ((s.2.2.2.2.2.1.length:Int)=(0:Int))=l0
 by_cases h1:s.1=(1:Int)
 ·simp only[h1,Int.reduceEq,decide_true,decide_false]
  cases a0<;>cases b0<;>cases n0<;>cases e0<;>cases l0<;>rfl
 by_cases h2:s.1=(2:Int)
 ·simp only[h2,Int.reduceEq,decide_true,decide_false]
  cases a0<;>cases b0<;>cases n0<;>cases e0<;>cases l0<;>rfl
 by_cases h3:s.1=(3:Int)
 ·simp only[h3,Int.reduceEq,decide_true,decide_false]
  cases a0<;>cases b0<;>cases n0<;>cases e0<;>cases l0<;>rfl
 by_cases h4:s.1=(4:Int)
 ·simp only[h4,Int.reduceEq,decide_true,decide_false]
  cases a0<;>cases b0<;>cases n0<;>cases e0<;>cases l0<;>rfl
 by_cases h5:s.1=(5:Int)
 ·simp only[h5,Int.reduceEq,decide_true,decide_false]
  cases a0<;>cases b0<;>cases n0<;>cases e0<;>cases l0<;>rfl
 simp only[h1,h2,h3,h4,h5,decide_false]
 cases a0<;>cases b0<;>cases n0<;>cases e0<;>cases l0<;>rfl
theorem F.vU (tables:LTb) (ahead:LLC) (s:aa.D) (h_tables:Sm (Ty.sl az) tables) (h_ahead:Sm (Ty.sl (Ty.sl ah)) ahead) (h_s:Sm aa s):F.hD tables ahead s=some (M.fR tables ahead s):=by
 obtain⟨r,h1,_⟩:=Ak h_tables h_ahead h_s
 unfold M.fR
 rw[h1]
 rfl
theorem F.Bo (ahead:(List Int)) (s:aa.D) (h_ahead:Sm (Ty.sl (Ty.int .i64)) ahead) (h_s:Sm aa s) (p0:M.gi (ahead.length:Int) s):F.rJ ahead s=some (M.bf ahead s):=by
 unfold F.rJ M.bf
 by_cases h1:s.1=(1:Int)
 ·simp only[h1,decide_true,cond_true]
 obtain⟨⟨a0,a1⟩,⟨b0,b1⟩⟩:=p0 h1
 rw[decide_eq_false h1]
 repeat rw[ai a0]
 repeat rw[ai a1]
 repeat rw[ai b0]
 repeat rw[ai b1]
 cases decide (s.1=(4:Int))<;>cases decide (s.1=(5:Int))<;>rfl
theorem F.BJ (tables:LTb) (plan:LS) (h_tables:Sm (Ty.sl az) tables) (h_plan:Sm (Ty.sl aa) plan):F.ud tables plan=some (M.aX tables plan):=by
 unfold F.ud M.aX M.fO
 obtain⟨o,h1,h2⟩:=M.Ck (f:=F.jb tables plan) (M.bH tables) (fun t=>t) (fun n (st:eP)=>st.1.length=n/\st.2.length=n/\∀x∈st.1,x.length<=1048576) plan plan [] ([],[]) rfl ⟨rfl,rfl,fun x h=>by cases h⟩ (fun m st hm hI=>by
  obtain⟨l1,l2,hx⟩:=hI
  have hp:=h_plan.1
  have hc:Sm (.sl (.sl ah)) st.1:=⟨by omega,fun x h=>M.xO (hx x h)⟩
  have hstep:=aL h_plan (m:Int)
  have hl6:=LA h_tables hc hstep
  unfold F.jb M.bH
  rw[ai hc,aV,<-hl6]
  cases hb:(M.fR tables st.1 (nth (t:=aa) plan (m:Int))).2 with
  | false=>exact⟨.inr (),rfl,rfl⟩
  | true=>
   rw[hb,cond_true] at hl6
   have hin:=M.jI hl6.symm
   have hsm:=M.yw h_tables hx hl6.symm
   have e12:(st.1.length:Int)=(st.2.length:Int):=by omega
   rw[e12] at hin
   simp only[Bool.not_true,cond_false,cond_true]
   rw[ai (by unfold lim;simp;omega),ai (show Sm (.sl (.int .i64)) st.2 from⟨by omega,fun x _=>trivial⟩),ai hin,ai (by unfold lim;simp;omega),ai (by simp;omega)]
   have hn:nth (t:=.int .i64) (st.2++[M.bf st.2 (nth (t:=aa) plan (m:Int))]) (m:Int)=M.bf st.2 (nth (t:=aa) plan (m:Int)):=by
    unfold nth
    rw[List.getD_eq_getElem?_getD]
    simp[<-l2]
   rw[hn]
   cases hd:decide ((300:Int)<M.bf st.2 (nth (t:=aa) plan (m:Int))) with
   | true=>exact⟨.inr (),rfl,rfl⟩
   | false=>
    refine⟨_,rfl,rfl,by simp[l1],by simp[l2],fun x h=>?_⟩
    rcases List.mem_append.1 h with h | h
    ·exact hx x h
    ·cases List.mem_singleton.1 h
     exact hsm)
 rw[show (aP (0:Int) (plan.length:Int))=aP ((([]:List aa.D).length:Nat):Int) (plan.length:Int) from rfl,h1]
 match o with
 | .inl st=>
  simp only at h2
  rw[h2.1]
  rfl
 | .inr _=>
  simp only at h2
  rw[h2]
  rfl
theorem F.xY (b:(List Int)) (p:Int) (n:Int) (h_b:Sm (Ty.sl (Ty.int .u8)) b) (p0:M.ay b) (p1:0<=p) (p2:p<=999000000000000):ok (F.sN b p n) (fun r=>(n<1->r.1=false)/\p<=r.2/\r.2<=p+1):=by
  unfold F.sN
  refine Da (fun c_0=>?_) (fun c_0=>?_)
  ·refine okG ?_
   refine aC fun r1 h_1_5_0 h_1_5_1 h_1_5_2 h_1_5_3=>?_
   exact tB
  ·exact tB
theorem F.Ea (b:(List Int)) (p:Int) (n:Int) (h_b:Sm (Ty.sl (Ty.int .u8)) b) (p0:M.ay b) (p1:0<=p) (p2:p<=999000000000000):F.sN b p n=some (M.odd b p n):=iQ (F.xY b p n h_b p0 p1 p2)
theorem M.Jj (b:(List Int)) (p:Int) (n:Int) (h_b:Sm (Ty.sl (Ty.int .u8)) b) (p0:M.ay b) (p1:0<=p) (p2:p<=999000000000000):(n<1->(M.odd b p n).1=false)/\p<=(M.odd b p n).2/\(M.odd b p n).2<=p+1:=iT (F.xY b p n h_b p0 p1 p2)
theorem mJ {α:Type} {K:α->Prop} {f:Bool×Int->Option α} {b:(List Int)} {p:Int} {n:Int} (k:∀r,(n<1->r.1=false)->(p<=r.2)->(r.2<=p+1)->ok (f r) K) (h_b:Sm (Ty.sl (Ty.int .u8)) b:=by exact au) (p0:M.ay b:=by exact au) (p1:0<=p:=by exact au) (p2:p<=999000000000000:=by exact au):ok (aJ (M.odd b p n) f) K:=by
 have h:=M.Jj b p n h_b p0 p1 p2
 obtain⟨h0,h1,h2⟩:=h
 exact k _ h0 h1 h2
theorem F.nR (b:(List Int)) (p:Int) (n:Int) (h_b:Sm (Ty.sl (Ty.int .u8)) b) (p0:M.ay b) (p1:0<=p) (p2:p<=998000000000000):ok (F.gy b p n) (fun r=>1<=r.1.length/\r.1.length<=6/\p<=r.2/\r.2<=p+20):=by
  unfold F.gy
  refine okG ?_
  refine aC fun r1 h_2_1_0 h_2_1_1 h_2_1_2 h_2_1_3=>?_
  refine okB (A:=fun e0=>p<=e0.1/\e0.1<=p+10/\1<=e0.2.length/\e0.2.length<=3) ?_ (fun e0 h_e0=>?_)
  ·refine okW (fun(k:Nat) (v0:Int×Int×LC)=>0<=v0.1/\v0.1<=(k:Int)/\(v0.2.2.length:Int)+v0.1<=3/\1<=(v0.2.2.length:Int)+v0.1/\p<=v0.2.1/\v0.2.1+2 * v0.1<=p+10) (fun k v0 hI=>?_) (3:Nat) _ ⟨au,au,au,au,au,au⟩
   obtain⟨i_0,i_1,i_2,i_3,i_4,i_5⟩:=hI
   unfold F.gq
   refine okD (fun c_0=>?_) (fun c_0=>?_)
   ·refine okG ?_
    refine okG ?_
    refine okG ?_
    refine aC fun r2 h_5_3_0 h_5_3_1 h_5_3_2 h_5_3_3=>?_
    refine okG ?_
    refine okG ?_
    refine okG ?_
    refine okG ?_
    refine aC fun r3 h_5_7_0 h_5_7_1 h_5_7_2 h_5_7_3=>?_
    refine okG ?_
    exact eI ⟨k-1,by omega,au,au,au,au,au,au⟩
   ·exact di ⟨au,au,au,au⟩
  ·obtain⟨e0_0,e0_1,e0_2,e0_3⟩:=h_e0
   refine okG ?_
   refine okG ?_
   refine mJ fun r4 h_6_2_0 h_6_2_1 h_6_2_2=>?_
   refine okC (fun c_1=>?_) (fun c_1=>?_)
   ·refine okG ?_
    refine okG ?_
    refine aC fun r5 h_7_2_0 h_7_2_1 h_7_2_2 h_7_2_3=>?_
    refine okG ?_
    exact Fa
   ·exact Fa
theorem F.uF (b:(List Int)) (p:Int) (n:Int) (h_b:Sm (Ty.sl (Ty.int .u8)) b) (p0:M.ay b) (p1:0<=p) (p2:p<=998000000000000):F.gy b p n=some (M.gp b p n):=iQ (F.nR b p n h_b p0 p1 p2)
theorem M.yW (b:(List Int)) (p:Int) (n:Int) (h_b:Sm (Ty.sl (Ty.int .u8)) b) (p0:M.ay b) (p1:0<=p) (p2:p<=998000000000000):1<=(M.gp b p n).1.length/\(M.gp b p n).1.length<=6/\p<=(M.gp b p n).2/\(M.gp b p n).2<=p+20:=iT (F.nR b p n h_b p0 p1 p2)
theorem tE {α:Type} {K:α->Prop} {f:LC×Int->Option α} {b:(List Int)} {p:Int} {n:Int} (k:∀r,(1<=r.1.length)->(r.1.length<=6)->(p<=r.2)->(r.2<=p+20)->ok (f r) K) (h_b:Sm (Ty.sl (Ty.int .u8)) b:=by exact au) (p0:M.ay b:=by exact au) (p1:0<=p:=by exact au) (p2:p<=998000000000000:=by exact au):ok (aJ (M.gp b p n) f) K:=by
 have h:=M.yW b p n h_b p0 p1 p2
 obtain⟨h0,h1,h2,h3⟩:=h
 exact k _ h0 h1 h2 h3
theorem F.ql (b:(List Int)) (p:Int) (n:Int) (h_b:Sm (Ty.sl (Ty.int .u8)) b) (p0:M.ay b) (p1:0<=p) (p2:p<=998000000000000):ok (F.jj b p n) (fun r=>r.1.2.2.1.size<=20/\p<=r.2/\r.2<=p+20):=by
  unfold F.jj
  refine okG ?_
  refine aC fun r1 h_2_1_0 h_2_1_1 h_2_1_2 h_2_1_3=>?_
  refine okB (A:=fun e0=>p<=e0.1/\e0.1<=p+12/\e0.2.2.2.size<=3) ?_ (fun e0 h_e0=>?_)
  ·refine okW (fun(_:Nat) (_:Unit)=>True) (fun _ v0 _=>?_) 0 _ trivial
   unfold F.iJ
   refine okD (fun c_1=>?_) (fun c_1=>?_)
   ·exact di ⟨au,au,au⟩
   ·refine okD (fun c_2=>?_) (fun c_2=>?_)
    ·refine okG ?_
     refine okG ?_
     refine okG ?_
     refine aC fun r2 h_8_1_0 h_8_1_1 h_8_1_2 h_8_1_3=>?_
     refine okG ?_
     refine okG ?_
     refine aC fun r3 h_9_1_0 h_9_1_1 h_9_1_2 h_9_1_3=>?_
     refine okD (fun c_3=>?_) (fun c_3=>?_)
     ·refine okG ?_
      refine okG ?_
      refine aC fun r4 h_10_2_0 h_10_2_1 h_10_2_2 h_10_2_3=>?_
      refine okG ?_
      refine okG ?_
      exact di ⟨au,au,au⟩
     ·exact di ⟨au,au,au⟩
    ·refine okD (fun c_4=>?_) (fun c_4=>?_)
     ·refine okG ?_
      refine okG ?_
      refine okG ?_
      refine aC fun r2 h_8_1_0 h_8_1_1 h_8_1_2 h_8_1_3=>?_
      refine okG ?_
      refine okG ?_
      refine aC fun r3 h_9_1_0 h_9_1_1 h_9_1_2 h_9_1_3=>?_
      refine okD (fun c_5=>?_) (fun c_5=>?_)
      ·refine okG ?_
       refine okG ?_
       refine aC fun r4 h_10_2_0 h_10_2_1 h_10_2_2 h_10_2_3=>?_
       refine okG ?_
       refine okG ?_
       exact di ⟨au,au,au⟩
      ·exact di ⟨au,au,au⟩
     ·refine okD (fun c_6=>?_) (fun c_6=>?_)
      ·refine okG ?_
       refine okG ?_
       refine okG ?_
       refine aC fun r2 h_8_1_0 h_8_1_1 h_8_1_2 h_8_1_3=>?_
       refine okG ?_
       refine okG ?_
       refine aC fun r3 h_9_1_0 h_9_1_1 h_9_1_2 h_9_1_3=>?_
       refine okD (fun c_7=>?_) (fun c_7=>?_)
       ·refine okG ?_
        refine okG ?_
        refine aC fun r4 h_10_2_0 h_10_2_1 h_10_2_2 h_10_2_3=>?_
        refine okG ?_
        refine okG ?_
        exact di ⟨au,au,au⟩
       ·exact di ⟨au,au,au⟩
      ·refine okD (fun c_8=>?_) (fun c_8=>?_)
       ·refine okG ?_
        refine okG ?_
        refine okG ?_
        refine aC fun r5 h_14_1_0 h_14_1_1 h_14_1_2 h_14_1_3=>?_
        refine okB (A:=fun e1=>p<=e1.1/\e1.1<=p+8/\e1.2.size<=3) ?_ (fun e1 h_e1=>?_)
        ·refine okW (fun(k:Nat) (v1:Int×Int×ByteArray)=>0<=v1.1/\v1.1<=(k:Int)/\(v1.2.2.size:Int)+v1.1<=3/\p<=v1.2.1/\v1.2.1+v1.1<=p+8) (fun k v1 hI=>?_) (3:Nat) _ ⟨au,au,au,au,au⟩
         obtain⟨i_0,i_1,i_2,i_3,i_4⟩:=hI
         unfold F.eS
         refine okD (fun c_0=>?_) (fun c_0=>?_)
         ·refine okG ?_
          refine okG ?_
          refine okG ?_
          refine aC fun r6 h_17_3_0 h_17_3_1 h_17_3_2 h_17_3_3=>?_
          refine okG ?_
          exact eI ⟨k-1,by omega,au,au,au,au,au⟩
         ·exact di ⟨au,au,au⟩
        ·obtain⟨e1_0,e1_1,e1_2⟩:=h_e1
         exact di ⟨au,au,au⟩
       ·refine okD (fun c_9=>?_) (fun c_9=>?_)
        ·refine okG ?_
         refine okG ?_
         refine okG ?_
         refine aC fun r5 h_14_1_0 h_14_1_1 h_14_1_2 h_14_1_3=>?_
         refine okB (A:=fun e1=>p<=e1.1/\e1.1<=p+8/\e1.2.size<=3) ?_ (fun e1 h_e1=>?_)
         ·refine okW (fun(k:Nat) (v1:Int×Int×ByteArray)=>0<=v1.1/\v1.1<=(k:Int)/\(v1.2.2.size:Int)+v1.1<=3/\p<=v1.2.1/\v1.2.1+v1.1<=p+8) (fun k v1 hI=>?_) (3:Nat) _ ⟨au,au,au,au,au⟩
          obtain⟨i_0,i_1,i_2,i_3,i_4⟩:=hI
          unfold F.eS
          refine okD (fun c_0=>?_) (fun c_0=>?_)
          ·refine okG ?_
           refine okG ?_
           refine okG ?_
           refine aC fun r6 h_17_3_0 h_17_3_1 h_17_3_2 h_17_3_3=>?_
           refine okG ?_
           exact eI ⟨k-1,by omega,au,au,au,au,au⟩
          ·exact di ⟨au,au,au⟩
         ·obtain⟨e1_0,e1_1,e1_2⟩:=h_e1
          exact di ⟨au,au,au⟩
        ·refine okG ?_
         refine okG ?_
         refine okG ?_
         refine aC fun r7 h_3_1_0 h_3_1_1 h_3_1_2 h_3_1_3=>?_
         exact di ⟨au,au,au⟩
  ·obtain⟨e0_0,e0_1,e0_2⟩:=h_e0
   refine okG ?_
   refine okG ?_
   refine mJ fun r8 h_18_2_0 h_18_2_1 h_18_2_2=>?_
   refine okC (fun c_10=>?_) (fun c_10=>?_)
   ·refine okG ?_
    refine okG ?_
    refine aC fun r9 h_19_1_0 h_19_1_1 h_19_1_2 h_19_1_3=>?_
    refine okD (fun c_11=>?_) (fun c_11=>?_)
    ·exact tB
    ·refine okD (fun c_12=>?_) (fun c_12=>?_)
     ·refine okG ?_
      exact tB
     ·refine okD (fun c_13=>?_) (fun c_13=>?_)
      ·refine okG ?_
       refine okG ?_
       refine aC fun r10 h_26_1_0 h_26_1_1 h_26_1_2 h_26_1_3=>?_
       exact tB
      ·refine okG ?_
       exact tB
   ·exact tB
theorem F.xD (b:(List Int)) (p:Int) (n:Int) (h_b:Sm (Ty.sl (Ty.int .u8)) b) (p0:M.ay b) (p1:0<=p) (p2:p<=998000000000000):F.jj b p n=some (M.fD b p n):=iQ (F.ql b p n h_b p0 p1 p2)
theorem M.BS (b:(List Int)) (p:Int) (n:Int) (h_b:Sm (Ty.sl (Ty.int .u8)) b) (p0:M.ay b) (p1:0<=p) (p2:p<=998000000000000):(M.fD b p n).1.2.2.1.size<=20/\p<=(M.fD b p n).2/\(M.fD b p n).2<=p+20:=iT (F.ql b p n h_b p0 p1 p2)
theorem gR {α:Type} {K:α->Prop} {f:af.D×Int->Option α} {b:(List Int)} {p:Int} {n:Int} (k:∀r,(r.1.2.2.1.size<=20)->(p<=r.2)->(r.2<=p+20)->ok (f r) K) (h_b:Sm (Ty.sl (Ty.int .u8)) b:=by exact au) (p0:M.ay b:=by exact au) (p1:0<=p:=by exact au) (p2:p<=998000000000000:=by exact au):ok (aJ (M.fD b p n) f) K:=by
 have h:=M.BS b p n h_b p0 p1 p2
 obtain⟨h0,h1,h2⟩:=h
 exact k _ h0 h1 h2
theorem F.rI (b:(List Int)) (p:Int) (columns:LC) (n:Int) (h_b:Sm (Ty.sl (Ty.int .u8)) b) (h_columns:Sm (Ty.sl ah) columns) (p0:M.ay b) (p1:0<=p) (p2:p<=997000000000000):ok (F.lK b p columns n) (fun r=>r.1.length<=columns.length+3/\(∀v∈r.1,v.2.2.1.size<=20)/\p<=r.2/\r.2<=p+3 * columns.length+70):=by
  unfold F.lK
  have hl:=h_columns.1
  refine okT (A:=fun v0=>p<=v0.1/\v0.1<=p+3 * (columns.length:Int)/\v0.2.length=columns.length/\(∀v∈v0.2,v.2.2.1.size<=20)) (B:=fun _=>False) ?_ (fun v0 h_v0=>?_) (fun _ h=>h.elim)
  ·refine Lg (fun(k:Nat) (v0:Int×LV)=>p<=v0.1/\v0.1<=p+3 * (k:Int)/\v0.2.length=k/\(∀v∈v0.2,v.2.2.1.size<=20)) ⟨au,au,au,au⟩ (fun z0 hz k v0 hk hI=>?_)
   obtain⟨i_0,i_1,i_2,i_3⟩:=hI
   unfold F.jZ
   refine okG ?_
   refine okG ?_
   refine okG ?_
   refine pW fun r1 h_5_6_0 h_5_6_1 h_5_6_2=>?_
   refine okG ?_
   exact eI ⟨au,au,au,au⟩
  ·obtain⟨v0_0,v0_1,v0_2,v0_3⟩:=h_v0
   refine okG ?_
   refine okG ?_
   refine mJ fun r2 h_6_2_0 h_6_2_1 h_6_2_2=>?_
   refine okC (fun c_0=>?_) (fun c_0=>?_)
   ·refine okG ?_
    refine okG ?_
    refine aC fun r3 h_7_1_0 h_7_1_1 h_7_1_2 h_7_1_3=>?_
    refine okD (fun c_1=>?_) (fun c_1=>?_)
    ·refine okG ?_
     exact Fa
    ·refine okD (fun c_2=>?_) (fun c_2=>?_)
     ·refine okD (fun c_3=>?_) (fun c_3=>?_)
      ·refine okG ?_
       refine okG ?_
       refine aC fun r4 h_13_4_0 h_13_4_1 h_13_4_2 h_13_4_3=>?_
       refine okG ?_
       refine okG ?_
       refine gR fun r5 h_13_6_0 h_13_6_1 h_13_6_2=>?_
       refine okG ?_
       refine okG ?_
       exact Fa
      ·exact Fa
     ·refine okG ?_
      refine okG ?_
      refine gR fun r6 h_8_2_0 h_8_2_1 h_8_2_2=>?_
      refine okG ?_
      refine okG ?_
      refine gR fun r7 h_8_4_0 h_8_4_1 h_8_4_2=>?_
      refine okG ?_
      refine okG ?_
      refine gR fun r8 h_8_6_0 h_8_6_1 h_8_6_2=>?_
      refine okG ?_
      exact Fa
   ·exact Fa
theorem F.AB (b:(List Int)) (p:Int) (columns:LC) (n:Int) (h_b:Sm (Ty.sl (Ty.int .u8)) b) (h_columns:Sm (Ty.sl ah) columns) (p0:M.ay b) (p1:0<=p) (p2:p<=997000000000000):F.lK b p columns n=some (M.ni b p columns n):=iQ (F.rI b p columns n h_b h_columns p0 p1 p2)
theorem M.Eu (b:(List Int)) (p:Int) (columns:LC) (n:Int) (h_b:Sm (Ty.sl (Ty.int .u8)) b) (h_columns:Sm (Ty.sl ah) columns) (p0:M.ay b) (p1:0<=p) (p2:p<=997000000000000):(M.ni b p columns n).1.length<=columns.length+3/\(∀v∈(M.ni b p columns n).1,v.2.2.1.size<=20)/\p<=(M.ni b p columns n).2/\(M.ni b p columns n).2<=p+3 * columns.length+70:=iT (F.rI b p columns n h_b h_columns p0 p1 p2)
theorem rz {α:Type} {K:α->Prop} {f:LV×Int->Option α} {b:(List Int)} {p:Int} {columns:LC} {n:Int} (k:∀r,(r.1.length<=columns.length+3)->(∀v∈r.1,v.2.2.1.size<=20)->(p<=r.2)->(r.2<=p+3 * columns.length+70)->ok (f r) K) (h_b:Sm (Ty.sl (Ty.int .u8)) b:=by exact au) (h_columns:Sm (Ty.sl ah) columns:=by exact au) (p0:M.ay b:=by exact au) (p1:0<=p:=by exact au) (p2:p<=997000000000000:=by exact au):ok (aJ (M.ni b p columns n) f) K:=by
 have h:=M.Eu b p columns n h_b h_columns p0 p1 p2
 obtain⟨h0,h1,h2,h3⟩:=h
 exact k _ h0 h1 h2 h3
theorem F.BN (row:LV) (h_row:Sm (Ty.sl af) row):F.zC row=some row:=by
 rfl
theorem F.rZ (b:(List Int)) (p:Int) (c:LC) (n:Int) (h_b:Sm (Ty.sl (Ty.int .u8)) b) (h_c:Sm (Ty.sl ah) c) (p0:M.ay b) (p1:0<=p) (p2:p<=996000000000000) (p3:c.length<=6):ok (F.lN b p c n) (fun r=>r.1.length<=6/\(∀w∈r.1,M.wP w)/\p<=r.2/\r.2<=p+1000):=by
  unfold F.lN
  have hl:=p3
  refine okG ?_
  refine aC fun r1 h_2_1_0 h_2_1_1 h_2_1_2 h_2_1_3=>?_
  refine okB (A:=fun e0=>p<=e0.1/\e0.1<=p+700/\e0.2.length<=6/\(∀w∈e0.2,M.wP w)) ?_ (fun e0 h_e0=>?_)
  ·refine okW (fun(k:Nat) (v0:Int×Int×LLV)=>0<=v0.1/\v0.1<=(k:Int)/\(v0.2.2.length:Int)+v0.1<=6/\(∀w∈v0.2.2,M.wP w)/\p<=v0.2.1/\v0.2.1+100 * v0.1<=p+700) (fun k v0 hI=>?_) (6:Nat) _ ⟨au,au,au,au,au,au⟩
   obtain⟨i_0,i_1,i_2,i_3,i_4,i_5⟩:=hI
   unfold F.jW
   refine okD (fun c_0=>?_) (fun c_0=>?_)
   ·refine Da (fun c_1=>?_) (fun c_1=>?_)
    ·refine okG ?_
     refine okG ?_
     refine okG ?_
     refine aC fun r2 h_5_5_0 h_5_5_1 h_5_5_2 h_5_5_3=>?_
     refine okD (fun c_2=>?_) (fun c_2=>?_)
     ·refine okG ?_
      refine okG ?_
      refine aC fun r3 h_6_5_0 h_6_5_1 h_6_5_2 h_6_5_3=>?_
      refine okG ?_
      refine okG ?_
      refine okG ?_
      refine okL fun r4 er4=>?_
      have w_a:M.wP r4:=er4▸M.Bb i_3 _
      refine okG ?_
      exact eI ⟨k-1,by omega,au,au,au,au,au,au⟩
     ·refine okG ?_
      refine okG ?_
      refine rz fun r5 h_7_4_0 h_7_4_1 h_7_4_2 h_7_4_3=>?_
      refine okG ?_
      exact eI ⟨k-1,by omega,au,au,au,au,au,au⟩
    ·refine okG ?_
     refine okG ?_
     refine okG ?_
     refine rz fun r5 h_7_4_0 h_7_4_1 h_7_4_2 h_7_4_3=>?_
     refine okG ?_
     exact eI ⟨k-1,by omega,au,au,au,au,au,au⟩
   ·exact di ⟨au,au,au,au⟩
  ·obtain⟨e0_0,e0_1,e0_2,e0_3⟩:=h_e0
   exact Fa
theorem F.Bi (b:(List Int)) (p:Int) (c:LC) (n:Int) (h_b:Sm (Ty.sl (Ty.int .u8)) b) (h_c:Sm (Ty.sl ah) c) (p0:M.ay b) (p1:0<=p) (p2:p<=996000000000000) (p3:c.length<=6):F.lN b p c n=some (M.qY b p c n):=iQ (F.rZ b p c n h_b h_c p0 p1 p2 p3)
theorem M.Fv (b:(List Int)) (p:Int) (c:LC) (n:Int) (h_b:Sm (Ty.sl (Ty.int .u8)) b) (h_c:Sm (Ty.sl ah) c) (p0:M.ay b) (p1:0<=p) (p2:p<=996000000000000) (p3:c.length<=6):(M.qY b p c n).1.length<=6/\(∀w∈(M.qY b p c n).1,M.wP w)/\p<=(M.qY b p c n).2/\(M.qY b p c n).2<=p+1000:=iT (F.rZ b p c n h_b h_c p0 p1 p2 p3)
theorem yI {α:Type} {K:α->Prop} {f:LLV×Int->Option α} {b:(List Int)} {p:Int} {c:LC} {n:Int} (k:∀r,(r.1.length<=6)->(∀w∈r.1,M.wP w)->(p<=r.2)->(r.2<=p+1000)->ok (f r) K) (h_b:Sm (Ty.sl (Ty.int .u8)) b:=by exact au) (h_c:Sm (Ty.sl ah) c:=by exact au) (p0:M.ay b:=by exact au) (p1:0<=p:=by exact au) (p2:p<=996000000000000:=by exact au) (p3:c.length<=6:=by exact au):ok (aJ (M.qY b p c n) f) K:=by
 have h:=M.Fv b p c n h_b h_c p0 p1 p2 p3
 obtain⟨h0,h1,h2,h3⟩:=h
 exact k _ h0 h1 h2 h3
theorem F.oB (b:(List Int)) (p:Int) (n:Int) (h_b:Sm (Ty.sl (Ty.int .u8)) b) (p0:M.ay b) (p1:0<=p) (p2:p<=995000000000000) (p3:n=0):ok (F.ig b p n) (fun r=>r.1.length<=3/\1<=r.1.length/\(∀t∈r.1,M.mT t)/\p<=r.2/\r.2<=p+10000):=by
  unfold F.ig
  refine okG ?_
  refine aC fun r1 h_2_1_0 h_2_1_1 h_2_1_2 h_2_1_3=>?_
  refine okB (A:=fun e0=>p<=e0.1/\e0.1<=p+6100/\e0.2.length<=3/\1<=e0.2.length/\(∀t∈e0.2,M.mT t)) ?_ (fun e0 h_e0=>?_)
  ·refine okW (fun(k:Nat) (v0:Int×Int×LTb)=>0<=v0.1/\v0.1<=(k:Int)/\(v0.2.2.length:Int)+v0.1<=3/\1<=(v0.2.2.length:Int)+v0.1/\(∀t∈v0.2.2,M.mT t)/\p<=v0.2.1/\v0.2.1+2000 * v0.1<=p+6100) (fun k v0 hI=>?_) (3:Nat) _ ⟨au,au,au,au,au,au,au⟩
   obtain⟨i_0,i_1,i_2,i_3,i_4,i_5,i_6⟩:=hI
   unfold F.gV
   refine okD (fun c_0=>?_) (fun c_0=>?_)
   ·refine okG ?_
    refine okG ?_
    refine okG ?_
    refine tE fun r2 h_5_1_0 h_5_1_1 h_5_1_2 h_5_1_3=>?_
    refine okG ?_
    refine okG ?_
    refine aC fun r3 h_6_2_0 h_6_2_1 h_6_2_2 h_6_2_3=>?_
    refine okG ?_
    refine okG ?_
    refine okG ?_
    refine okG ?_
    refine okG ?_
    refine okG ?_
    refine okG ?_
    refine yI fun r4 h_7_3_0 h_7_3_1 h_7_3_2 h_7_3_3=>?_
    refine okG ?_
    exact eI ⟨k-1,by omega,au,au,au,au,au,au,au⟩
   ·exact di ⟨au,au,au,au,au⟩
  ·obtain⟨e0_0,e0_1,e0_2,e0_3,e0_4⟩:=h_e0
   refine okG ?_
   refine okG ?_
   refine mJ fun r5 h_9_2_0 h_9_2_1 h_9_2_2=>?_
   refine okC (fun c_1=>?_) (fun c_1=>?_)
   ·exact okN
   ·exact zF
theorem F.vD (b:(List Int)) (p:Int) (n:Int) (h_b:Sm (Ty.sl (Ty.int .u8)) b) (p0:M.ay b) (p1:0<=p) (p2:p<=995000000000000) (p3:n=0):F.ig b p n=some (M.gF b p n):=iQ (F.oB b p n h_b p0 p1 p2 p3)
theorem M.zG (b:(List Int)) (p:Int) (n:Int) (h_b:Sm (Ty.sl (Ty.int .u8)) b) (p0:M.ay b) (p1:0<=p) (p2:p<=995000000000000) (p3:n=0):(M.gF b p n).1.length<=3/\1<=(M.gF b p n).1.length/\(∀t∈(M.gF b p n).1,M.mT t)/\p<=(M.gF b p n).2/\(M.gF b p n).2<=p+10000:=iT (F.oB b p n h_b p0 p1 p2 p3)
theorem uf {α:Type} {K:α->Prop} {f:LTb×Int->Option α} {b:(List Int)} {p:Int} {n:Int} (k:∀r,(r.1.length<=3)->(1<=r.1.length)->(∀t∈r.1,M.mT t)->(p<=r.2)->(r.2<=p+10000)->ok (f r) K) (h_b:Sm (Ty.sl (Ty.int .u8)) b:=by exact au) (p0:M.ay b:=by exact au) (p1:0<=p:=by exact au) (p2:p<=995000000000000:=by exact au) (p3:n=0:=by exact au):ok (aJ (M.gF b p n) f) K:=by
 have h:=M.zG b p n h_b p0 p1 p2 p3
 obtain⟨h0,h1,h2,h3,h4⟩:=h
 exact k _ h0 h1 h2 h3 h4
theorem F.rA (b:(List Int)) (p:Int) (tables:LTb) (h_b:Sm (Ty.sl (Ty.int .u8)) b) (h_tables:Sm (Ty.sl az) tables) (p0:M.ay b) (p1:0<=p) (p2:p<=995000000000000) (p3:(∀t∈tables,M.mT t)):ok (F.jO b p tables) (fun r=>r.1.length<=6/\1<=r.1.length/\(∀s∈r.1,M.fZ s)/\p<=r.2/\r.2<=p+100000):=by
  unfold F.jO
  have hE:=M.GS (d:=(2:Int))
  have hE2:M.eB (2:Int)=27:=by decide
  refine okG ?_
  refine aC fun r1 h_1_3_0 h_1_3_1 h_1_3_2 h_1_3_3=>?_
  refine okG ?_
  refine okG ?_
  refine aC fun r2 h_2_1_0 h_2_1_1 h_2_1_2 h_2_1_3=>?_
  refine okT (A:=fun e0=>p<=e0.1/\e0.1<=p+16000/\e0.2.length<=6/\1<=e0.2.length/\(∀s∈e0.2,M.fZ s)) (B:=fun q0=>p<=q0.1/\q0.1<=p+16000/\q0.2.length<=6/\1<=q0.2.length/\(∀s∈q0.2,M.fZ s)) ?_ (fun e0 h_e0=>?_) (fun q0 h_q0=>?_)
  ·refine okW (fun(k:Nat) (v0:Int×Int×LS)=>0<=v0.1/\v0.1<=(k:Int)/\(v0.2.2.length:Int)+v0.1<=6/\1<=v0.2.2.length/\(∀s∈v0.2.2,M.fZ s)/\p<=v0.2.1/\v0.2.1+3000 * v0.1<=p+16000) (fun k v0 hI=>?_) (6:Nat) _ ⟨au,au,au,au,au,au,au⟩
   obtain⟨i_0,i_1,i_2,i_3,i_4,i_5,i_6⟩:=hI
   unfold F.jq
   refine okD (fun c_11=>?_) (fun c_11=>?_)
   ·refine okG ?_ (M.pT (n:=1000) (by first | omega | (simp only[List.length_append,List.length_cons,List.length_nil];omega)) (by exact cl) (by decide))
    refine okL fun r3 er3=>?_
    have k_a:=M.vb p3 er3
    refine okC (fun c_12=>?_) (fun c_12=>?_)
    ·exact FQ ⟨au,au,au,au,au⟩
    ·have l_a:=M.yb er3 c_12
     have l_b:r3.1.length<=6:=by omega
     refine okG ?_
     refine okG ?_
     refine okG ?_
     refine aC fun r4 h_9_3_0 h_9_3_1 h_9_3_2 h_9_3_3=>?_
     have t_a:=M.KV h_9_3_0 (h_9_3_1 (by decide)) (n:=(v0.2.2.length:Int)) (by omega) (by omega)
     refine okD (fun c_13=>?_) (fun c_13=>?_)
     ·refine okG ?_
      refine okG ?_
      refine aC fun r5 h_12_3_0 h_12_3_1 h_12_3_2 h_12_3_3=>?_
      refine okG ?_
      refine okG ?_
      refine aC fun r6 h_13_1_0 h_13_1_1 h_13_1_2 h_13_1_3=>?_
      refine okB (A:=fun e2=>v0.2.1<=e2.1/\e2.1<=v0.2.1+2000/\e2.2.2.2.2.2.1.length<=81/\(∀v∈e2.2.2.2.2.2.1,v.2.2.1.2.2.1.size<=20)/\e2.2.2.2.2.2.2.length<=3) ?_ (fun e2 h_e2=>?_)
      ·refine okW (fun(_:Nat) (_:Unit)=>True) (fun _ v2 _=>?_) 0 _ trivial
       unfold F.eG
       refine okD (fun c_3=>?_) (fun c_3=>?_)
       ·refine okG ?_
        refine okG ?_
        refine okG ?_ (M.lG rfl (M.kZ k_a _) (by decide))
        refine okG ?_
        refine okG ?_
        refine okG ?_
        refine okG ?_
        refine okG ?_
        refine dM fun r7 h_15_6_0 h_15_6_1 h_15_6_2 h_15_6_3 h_15_6_4=>?_
        exact di ⟨au,au,au,au,au⟩
       ·refine okD (fun c_4=>?_) (fun c_4=>?_)
        ·refine okG ?_
         refine okG ?_
         refine okG ?_
         refine aC fun r8 h_18_1_0 h_18_1_1 h_18_1_2 h_18_1_3=>?_
         refine okB (A:=fun e3=>v0.2.1<=e3.1/\e3.1<=v0.2.1+30/\e3.2.length<=3) ?_ (fun e3 h_e3=>?_)
         ·refine okW (fun(k:Nat) (v3:Int×Int×(List Int))=>0<=v3.1+1/\v3.1+1<=(k:Int)/\(v3.2.2.length:Int)+v3.1<=2/\v0.2.1<=v3.2.1/\v3.2.1+v3.1<=v0.2.1+20) (fun k v3 hI=>?_) (3:Nat) _ ⟨au,au,au,au,au⟩
          obtain⟨i_0,i_1,i_2,i_3,i_4⟩:=hI
          unfold F.gw
          refine Da (fun c_0=>?_) (fun c_0=>?_)
          ·refine okG ?_
           refine okG ?_
           refine okD (fun c_1=>?_) (fun c_1=>?_)
           ·refine okG ?_
            refine okG ?_
            refine okG ?_
            refine aC fun r9 h_21_8_0 h_21_8_1 h_21_8_2 h_21_8_3=>?_
            refine okG ?_ (by simp only[List.length_cons,List.length_nil,List.length_append,lim];omega)
            exact eI ⟨k-1,by omega,au,au,au,au,au⟩
           ·exact di ⟨au,au,au⟩
          ·exact di ⟨au,au,au⟩
         ·obtain⟨e3_0,e3_1,e3_2⟩:=h_e3
          exact di ⟨au,au,au,au,au⟩
        ·refine okD (fun c_5=>?_) (fun c_5=>?_)
         ·refine okG ?_
          refine okG ?_
          refine okG ?_
          refine aC fun r10 h_24_2_0 h_24_2_1 h_24_2_2 h_24_2_3=>?_
          refine okG ?_
          refine okG ?_
          refine okG ?_
          refine okG ?_
          refine okG ?_ (M.jl1 k_a)
          refine okG ?_ (M.jl2 k_a)
          refine okD (fun c_6=>?_) (fun c_6=>?_)
          ·refine okG ?_ (M.jl3 k_a)
           refine okG ?_
           refine okG ?_
           refine okG ?_
           refine okG ?_
           refine dM fun r11 h_27_4_0 h_27_4_1 h_27_4_2 h_27_4_3 h_27_4_4=>?_
           exact di ⟨au,au,au,au,au⟩
          ·exact di ⟨au,au,au,au,au⟩
         ·refine okD (fun c_7=>?_) (fun c_7=>?_)
          ·refine okG ?_
           refine okG ?_
           refine okG ?_
           refine aC fun r10 h_24_2_0 h_24_2_1 h_24_2_2 h_24_2_3=>?_
           refine okG ?_
           refine okG ?_
           refine okG ?_
           refine okG ?_
           refine okG ?_ (M.jl1 k_a)
           refine okG ?_ (M.jl2 k_a)
           refine okD (fun c_8=>?_) (fun c_8=>?_)
           ·refine okG ?_ (M.jl3 k_a)
            refine okG ?_
            refine okG ?_
            refine okG ?_
            refine okG ?_
            refine dM fun r11 h_27_4_0 h_27_4_1 h_27_4_2 h_27_4_3 h_27_4_4=>?_
            exact di ⟨au,au,au,au,au⟩
           ·exact di ⟨au,au,au,au,au⟩
          ·refine okD (fun c_9=>?_) (fun c_9=>?_)
           ·refine okG ?_ (by unfold fh;omega)
            refine okT (A:=fun v5=>(0:Int)<=0/\(0:Int)<=0) (B:=fun _=>False) ?_ (fun v5 h_v5=>?_) (fun _ h=>h.elim)
            ·refine Lg (fun(k:Nat) (v5:Int×Int×Int×Int)=>(0:Int)<=0/\(0:Int)<=0) ⟨au,au⟩ (fun z5 hz k v5 hk hI=>?_)
             obtain⟨i_0,i_1⟩:=hI
             unfold F.gE
             refine okG ?_ (M.Di l_b k_a (by decide))
             refine okL fun r12 er12=>?_
             refine okC (fun c_2=>?_) (fun c_2=>?_)
             ·exact eI ⟨au,au⟩
             ·exact eI ⟨au,au⟩
            ·obtain⟨v5_0,v5_1⟩:=h_v5
             exact di ⟨au,au,au,au,au⟩
           ·refine okD (fun c_10=>?_) (fun c_10=>?_)
            ·exact di ⟨au,au,au,au,au⟩
            ·exact di ⟨au,au,au,au,au⟩
      ·obtain⟨e2_0,e2_1,e2_2,e2_3,e2_4⟩:=h_e2
       refine okG ?_ (by simp only[List.length_cons,List.length_nil,List.length_append,lim];omega)
       refine okG ?_ (by simp only[List.length_cons,List.length_nil,List.length_append,lim];omega)
       refine okG ?_ (M.pT (n:=1000) (by first | omega | (simp only[List.length_append,List.length_cons,List.length_nil];omega)) (by exact cl) (by decide))
       refine okL fun r13 er13=>?_
       refine okC (fun c_14=>?_) (fun c_14=>?_)
       ·refine okG ?_ (by simp only[List.length_cons,List.length_nil,List.length_append,lim];omega)
        exact eI ⟨k-1,by omega,au,au,au,au,au,au,au⟩
       ·exact eI ⟨k-1,by omega,au,au,au,au,au,au,au⟩
     ·refine okG ?_
      refine okG ?_
      refine aC fun r5 h_12_3_0 h_12_3_1 h_12_3_2 h_12_3_3=>?_
      refine okG ?_
      refine okG ?_
      refine aC fun r6 h_13_1_0 h_13_1_1 h_13_1_2 h_13_1_3=>?_
      refine okB (A:=fun e2=>v0.2.1<=e2.1/\e2.1<=v0.2.1+2000/\e2.2.2.2.2.2.1.length<=81/\(∀v∈e2.2.2.2.2.2.1,v.2.2.1.2.2.1.size<=20)/\e2.2.2.2.2.2.2.length<=3) ?_ (fun e2 h_e2=>?_)
      ·refine okW (fun(_:Nat) (_:Unit)=>True) (fun _ v2 _=>?_) 0 _ trivial
       unfold F.eG
       refine okD (fun c_3=>?_) (fun c_3=>?_)
       ·refine okG ?_
        refine okG ?_
        refine okG ?_ (M.lG rfl (M.kZ k_a _) (by decide))
        refine okG ?_
        refine okG ?_
        refine okG ?_
        refine okG ?_
        refine okG ?_
        refine dM fun r7 h_15_6_0 h_15_6_1 h_15_6_2 h_15_6_3 h_15_6_4=>?_
        exact di ⟨au,au,au,au,au⟩
       ·refine okD (fun c_4=>?_) (fun c_4=>?_)
        ·refine okG ?_
         refine okG ?_
         refine okG ?_
         refine aC fun r8 h_18_1_0 h_18_1_1 h_18_1_2 h_18_1_3=>?_
         refine okB (A:=fun e3=>v0.2.1<=e3.1/\e3.1<=v0.2.1+30/\e3.2.length<=3) ?_ (fun e3 h_e3=>?_)
         ·refine okW (fun(k:Nat) (v3:Int×Int×(List Int))=>0<=v3.1+1/\v3.1+1<=(k:Int)/\(v3.2.2.length:Int)+v3.1<=2/\v0.2.1<=v3.2.1/\v3.2.1+v3.1<=v0.2.1+20) (fun k v3 hI=>?_) (3:Nat) _ ⟨au,au,au,au,au⟩
          obtain⟨i_0,i_1,i_2,i_3,i_4⟩:=hI
          unfold F.gw
          refine Da (fun c_0=>?_) (fun c_0=>?_)
          ·refine okG ?_
           refine okG ?_
           refine okD (fun c_1=>?_) (fun c_1=>?_)
           ·refine okG ?_
            refine okG ?_
            refine okG ?_
            refine aC fun r9 h_21_8_0 h_21_8_1 h_21_8_2 h_21_8_3=>?_
            refine okG ?_ (by simp only[List.length_cons,List.length_nil,List.length_append,lim];omega)
            exact eI ⟨k-1,by omega,au,au,au,au,au⟩
           ·exact di ⟨au,au,au⟩
          ·exact di ⟨au,au,au⟩
         ·obtain⟨e3_0,e3_1,e3_2⟩:=h_e3
          exact di ⟨au,au,au,au,au⟩
        ·refine okD (fun c_5=>?_) (fun c_5=>?_)
         ·refine okG ?_
          refine okG ?_
          refine okG ?_
          refine aC fun r10 h_24_2_0 h_24_2_1 h_24_2_2 h_24_2_3=>?_
          refine okG ?_
          refine okG ?_
          refine okG ?_
          refine okG ?_
          refine okG ?_ (M.jl1 k_a)
          refine okG ?_ (M.jl2 k_a)
          refine okD (fun c_6=>?_) (fun c_6=>?_)
          ·refine okG ?_ (M.jl3 k_a)
           refine okG ?_
           refine okG ?_
           refine okG ?_
           refine okG ?_
           refine dM fun r11 h_27_4_0 h_27_4_1 h_27_4_2 h_27_4_3 h_27_4_4=>?_
           exact di ⟨au,au,au,au,au⟩
          ·exact di ⟨au,au,au,au,au⟩
         ·refine okD (fun c_7=>?_) (fun c_7=>?_)
          ·refine okG ?_
           refine okG ?_
           refine okG ?_
           refine aC fun r10 h_24_2_0 h_24_2_1 h_24_2_2 h_24_2_3=>?_
           refine okG ?_
           refine okG ?_
           refine okG ?_
           refine okG ?_
           refine okG ?_ (M.jl1 k_a)
           refine okG ?_ (M.jl2 k_a)
           refine okD (fun c_8=>?_) (fun c_8=>?_)
           ·refine okG ?_ (M.jl3 k_a)
            refine okG ?_
            refine okG ?_
            refine okG ?_
            refine okG ?_
            refine dM fun r11 h_27_4_0 h_27_4_1 h_27_4_2 h_27_4_3 h_27_4_4=>?_
            exact di ⟨au,au,au,au,au⟩
           ·exact di ⟨au,au,au,au,au⟩
          ·refine okD (fun c_9=>?_) (fun c_9=>?_)
           ·refine okG ?_ (by unfold fh;omega)
            refine okT (A:=fun v5=>(0:Int)<=0/\(0:Int)<=0) (B:=fun _=>False) ?_ (fun v5 h_v5=>?_) (fun _ h=>h.elim)
            ·refine Lg (fun(k:Nat) (v5:Int×Int×Int×Int)=>(0:Int)<=0/\(0:Int)<=0) ⟨au,au⟩ (fun z5 hz k v5 hk hI=>?_)
             obtain⟨i_0,i_1⟩:=hI
             unfold F.gE
             refine okG ?_ (M.Di l_b k_a (by decide))
             refine okL fun r12 er12=>?_
             refine okC (fun c_2=>?_) (fun c_2=>?_)
             ·exact eI ⟨au,au⟩
             ·exact eI ⟨au,au⟩
            ·obtain⟨v5_0,v5_1⟩:=h_v5
             exact di ⟨au,au,au,au,au⟩
           ·refine okD (fun c_10=>?_) (fun c_10=>?_)
            ·exact di ⟨au,au,au,au,au⟩
            ·exact di ⟨au,au,au,au,au⟩
      ·obtain⟨e2_0,e2_1,e2_2,e2_3,e2_4⟩:=h_e2
       refine okG ?_ (by simp only[List.length_cons,List.length_nil,List.length_append,lim];omega)
       refine okG ?_ (by simp only[List.length_cons,List.length_nil,List.length_append,lim];omega)
       refine okG ?_ (M.pT (n:=1000) (by first | omega | (simp only[List.length_append,List.length_cons,List.length_nil];omega)) (by exact cl) (by decide))
       refine okL fun r13 er13=>?_
       refine okC (fun c_15=>?_) (fun c_15=>?_)
       ·refine okG ?_ (by simp only[List.length_cons,List.length_nil,List.length_append,lim];omega)
        exact eI ⟨k-1,by omega,au,au,au,au,au,au,au⟩
       ·exact eI ⟨k-1,by omega,au,au,au,au,au,au,au⟩
   ·exact Af ⟨au,au,au,au,au⟩
  ·obtain⟨e0_0,e0_1,e0_2,e0_3,e0_4⟩:=h_e0
   exact zF
  ·obtain⟨q0_0,q0_1,q0_2,q0_3,q0_4⟩:=h_q0
   exact zF
theorem F.zk (b:(List Int)) (p:Int) (tables:LTb) (h_b:Sm (Ty.sl (Ty.int .u8)) b) (h_tables:Sm (Ty.sl az) tables) (p0:M.ay b) (p1:0<=p) (p2:p<=995000000000000) (p3:(∀t∈tables,M.mT t)):F.jO b p tables=some (M.kY b p tables):=iQ (F.rA b p tables h_b h_tables p0 p1 p2 p3)
theorem M.Dl (b:(List Int)) (p:Int) (tables:LTb) (h_b:Sm (Ty.sl (Ty.int .u8)) b) (h_tables:Sm (Ty.sl az) tables) (p0:M.ay b) (p1:0<=p) (p2:p<=995000000000000) (p3:(∀t∈tables,M.mT t)):(M.kY b p tables).1.length<=6/\1<=(M.kY b p tables).1.length/\(∀s∈(M.kY b p tables).1,M.fZ s)/\p<=(M.kY b p tables).2/\(M.kY b p tables).2<=p+100000:=iT (F.rA b p tables h_b h_tables p0 p1 p2 p3)
theorem xM {α:Type} {K:α->Prop} {f:LS×Int->Option α} {b:(List Int)} {p:Int} {tables:LTb} (k:∀r,(r.1.length<=6)->(1<=r.1.length)->(∀s∈r.1,M.fZ s)->(p<=r.2)->(r.2<=p+100000)->ok (f r) K) (h_b:Sm (Ty.sl (Ty.int .u8)) b:=by exact au) (h_tables:Sm (Ty.sl az) tables:=by exact au) (p0:M.ay b:=by exact au) (p1:0<=p:=by exact au) (p2:p<=995000000000000:=by exact au) (p3:(∀t∈tables,M.mT t):=by exact au):ok (aJ (M.kY b p tables) f) K:=by
 have h:=M.Dl b p tables h_b h_tables p0 p1 p2 p3
 obtain⟨h0,h1,h2,h3,h4⟩:=h
 exact k _ h0 h1 h2 h3 h4
theorem F.pS (b:(List Int)) (p:Int) (h_b:Sm (Ty.sl (Ty.int .u8)) b) (p0:M.ay b) (p1:0<=p) (p2:p<=994000000000000):ok (F.jf b p) (fun r=>r.1.length<=3/\1<=r.1.length/\(∀t∈r.1,M.mT t)/\r.2.1.length<=6/\1<=r.2.1.length/\(∀s∈r.2.1,M.fZ s)/\p<=r.2.2/\r.2.2<=p+200000):=by
  unfold F.jf
  have hE1:M.eB (1:Int)=9:=by decide
  refine okG ?_
  refine okG ?_
  refine uf fun r1 h_1_1_0 h_1_1_1 h_1_1_2 h_1_1_3 h_1_1_4=>?_
  refine okG ?_
  refine okG ?_
  refine okG ?_
  refine okG ?_
  refine xM fun r2 h_2_2_0 h_2_2_1 h_2_2_2 h_2_2_3 h_2_2_4=>?_
  refine okB (A:=fun e0=>e0.2.length<=6/\1<=e0.2.length/\(∀s∈e0.2,M.fZ s)/\p<=e0.1/\e0.1<=p+120000) ?_ (fun e0 h_e0=>?_)
  ·refine okW (fun(k:Nat) (v0:Int×LS)=>(v0.2.length:Int)<=(k:Int)/\v0.2.length<=6/\1<=v0.2.length/\(∀s∈v0.2,M.fZ s)/\p<=v0.1/\v0.1+(v0.2.length:Int)<=p+120000) (fun k v0 hI=>?_) (6:Nat) _ ⟨au,au,au,au,au,au⟩
   obtain⟨i_0,i_1,i_2,i_3,i_4,i_5⟩:=hI
   unfold F.iP
   refine Da (fun c_0=>?_) (fun c_0=>?_)
   ·refine okG ?_
    refine okG ?_
    refine okG ?_
    refine aC fun r3 h_3_5_0 h_3_5_1 h_3_5_2 h_3_5_3=>?_
    have w_a:wrap64 ((v0.2.length:Int)-(1:Int))=(v0.2.length:Int)-1:=aH (by omega) (by omega)
    have w_b:(aj v0.2 (some ((0:Int),wrap64 ((v0.2.length:Int)-(1:Int))))).length=v0.2.length-1:=by rw[w_a,M.Lb (by omega) (by omega)];omega
    refine okD (fun c_1=>?_) (fun c_1=>?_)
    ·refine okG ?_
     refine okG ?_
     exact eI ⟨k-1,by omega,au,au,au,au,au,au⟩
    ·exact di ⟨au,au,au,au,au⟩
   ·exact di ⟨au,au,au,au,au⟩
  ·obtain⟨e0_0,e0_1,e0_2,e0_3,e0_4⟩:=h_e0
   refine okT (A:=fun e2=>e2.2.length<=6/\1<=e2.2.length/\(∀s∈e2.2,M.fZ s)/\p<=e2.1/\e2.1<=p+140000) (B:=fun q2=>q2.2.length<=6/\1<=q2.2.length/\(∀s∈q2.2,M.fZ s)/\p<=q2.1/\q2.1<=p+140000) ?_ (fun e2 h_e2=>?_) (fun q2 h_q2=>?_)
   ·refine okW (fun(k:Nat) (v2:Int×LS)=>(v2.2.length:Int)+(k:Int)=6/\v2.2.length<=6/\1<=v2.2.length/\(∀s∈v2.2,M.fZ s)/\p<=v2.1/\v2.1+1000 * (k:Int)<=p+130000) (fun k v2 hI=>?_) (6-e0.2.length:Nat) _ ⟨au,au,au,au,au,au⟩
    obtain⟨i_0,i_1,i_2,i_3,i_4,i_5⟩:=hI
    unfold F.iI
    refine Da (fun c_4=>?_) (fun c_4=>?_)
    ·refine okG ?_
     refine okG ?_
     refine okG ?_
     refine aC fun r4 h_5_5_0 h_5_5_1 h_5_5_2 h_5_5_3=>?_
     refine okD (fun c_5=>?_) (fun c_5=>?_)
     ·refine okG ?_
      refine okG ?_ (M.pT (n:=1000) (by first | omega | (simp only[List.length_append,List.length_cons,List.length_nil];omega)) (by exact cl) (by decide))
      refine okL fun r5 er5=>?_
      have k_a:=M.vb h_1_1_2 er5
      have w_a:wrap64 ((v2.2.length:Int)-(1:Int))=(v2.2.length:Int)-1:=aH (by omega) (by omega)
      refine okC (fun c_6=>?_) (fun c_6=>?_)
      ·exact FQ ⟨au,au,au,au,au⟩
      ·have l_a:=M.yb er5 c_6
       refine okG ?_
       refine okG ?_
       refine okG ?_ (M.lG rfl (M.kZ k_a _) (by decide))
       refine okG ?_
       refine okG ?_
       refine okG ?_
       refine okG ?_
       refine dM fun r6 h_10_6_0 h_10_6_1 h_10_6_2 h_10_6_3 h_10_6_4=>?_
       refine okG ?_
       refine okG ?_
       refine aC fun r7 h_11_1_0 h_11_1_1 h_11_1_2 h_11_1_3=>?_
       refine okD (fun c_7=>?_) (fun c_7=>?_)
       ·refine okG ?_ (by simp only[List.length_cons,List.length_nil,List.length_append,lim];omega)
        exact eI ⟨k-1,by omega,au,au,au,au,au,au⟩
       ·refine okD (fun c_8=>?_) (fun c_8=>?_)
        ·refine okG ?_
         refine okG ?_
         refine aC fun r8 h_16_1_0 h_16_1_1 h_16_1_2 h_16_1_3=>?_
         refine okB (A:=fun e5=>v2.1<=e5.1/\e5.1<=v2.1+420/\e5.2.length<=3) ?_ (fun e5 h_e5=>?_)
         ·refine okW (fun(k:Nat) (v5:Int×Int×(List Int))=>0<=v5.1+1/\v5.1+1<=(k:Int)/\(v5.2.2.length:Int)+v5.1<=2/\v2.1<=v5.2.1/\v5.2.1+v5.1<=v2.1+400) (fun k v5 hI=>?_) (3:Nat) _ ⟨au,au,au,au,au⟩
          obtain⟨i_0,i_1,i_2,i_3,i_4⟩:=hI
          unfold F.iC
          refine Da (fun c_2=>?_) (fun c_2=>?_)
          ·refine okG ?_
           refine okG ?_
           refine okD (fun c_3=>?_) (fun c_3=>?_)
           ·refine okG ?_
            refine okG ?_
            refine okG ?_
            refine aC fun r9 h_19_8_0 h_19_8_1 h_19_8_2 h_19_8_3=>?_
            refine okG ?_ (by simp only[List.length_cons,List.length_nil,List.length_append,lim];omega)
            exact eI ⟨k-1,by omega,au,au,au,au,au⟩
           ·exact di ⟨au,au,au⟩
          ·exact di ⟨au,au,au⟩
         ·obtain⟨e5_0,e5_1,e5_2⟩:=h_e5
          refine okG ?_ (by simp only[List.length_cons,List.length_nil,List.length_append,lim];omega)
          exact eI ⟨k-1,by omega,au,au,au,au,au,au⟩
        ·refine okG ?_ (by simp only[List.length_cons,List.length_nil,List.length_append,lim];omega)
         exact eI ⟨k-1,by omega,au,au,au,au,au,au⟩
     ·exact Af ⟨au,au,au,au,au⟩
    ·exact Af ⟨au,au,au,au,au⟩
   ·obtain⟨e2_0,e2_1,e2_2,e2_3,e2_4⟩:=h_e2
    exact LF
   ·obtain⟨q2_0,q2_1,q2_2,q2_3,q2_4⟩:=h_q2
    exact LF
theorem F.wM (b:(List Int)) (p:Int) (h_b:Sm (Ty.sl (Ty.int .u8)) b) (p0:M.ay b) (p1:0<=p) (p2:p<=994000000000000):F.jf b p=some (M.eZ b p):=iQ (F.pS b p h_b p0 p1 p2)
theorem M.BQ (b:(List Int)) (p:Int) (h_b:Sm (Ty.sl (Ty.int .u8)) b) (p0:M.ay b) (p1:0<=p) (p2:p<=994000000000000):(M.eZ b p).1.length<=3/\1<=(M.eZ b p).1.length/\(∀t∈(M.eZ b p).1,M.mT t)/\(M.eZ b p).2.1.length<=6/\1<=(M.eZ b p).2.1.length/\(∀s∈(M.eZ b p).2.1,M.fZ s)/\p<=(M.eZ b p).2.2/\(M.eZ b p).2.2<=p+200000:=iT (F.pS b p h_b p0 p1 p2)
theorem oH {α:Type} {K:α->Prop} {f:LTb×LS×Int->Option α} {b:(List Int)} {p:Int} (k:∀r,(r.1.length<=3)->(1<=r.1.length)->(∀t∈r.1,M.mT t)->(r.2.1.length<=6)->(1<=r.2.1.length)->(∀s∈r.2.1,M.fZ s)->(p<=r.2.2)->(r.2.2<=p+200000)->ok (f r) K) (h_b:Sm (Ty.sl (Ty.int .u8)) b:=by exact au) (p0:M.ay b:=by exact au) (p1:0<=p:=by exact au) (p2:p<=994000000000000:=by exact au):ok (aJ (M.eZ b p) f) K:=by
 have h:=M.BQ b p h_b p0 p1 p2
 obtain⟨h0,h1,h2,h3,h4,h5,h6,h7⟩:=h
 exact k _ h0 h1 h2 h3 h4 h5 h6 h7
theorem F.lT (code:(List Int)) (h_code:Sm (Ty.sl (Ty.int .u8)) code) (p0:M.ay code):ok (F.fq code) (fun r=>r.1.length<=3/\1<=r.1.length/\(∀t∈r.1,M.mT t)/\r.2.length<=6/\1<=r.2.length/\(∀s∈r.2,M.fZ s)):=by
  unfold F.fq
  refine okD (fun c_0=>?_) (fun c_0=>?_)
  ·refine okG ?_
   refine okG ?_
   refine okG ?_
   refine okG ?_
   refine okG ?_
   refine oH fun r1 h_1_2_0 h_1_2_1 h_1_2_2 h_1_2_3 h_1_2_4 h_1_2_5 h_1_2_6 h_1_2_7=>?_
   exact Lx
  ·refine okG ?_
   refine okG ?_
   refine oH fun r1 h_1_2_0 h_1_2_1 h_1_2_2 h_1_2_3 h_1_2_4 h_1_2_5 h_1_2_6 h_1_2_7=>?_
   exact Lx
theorem F.rY (code:(List Int)) (h_code:Sm (Ty.sl (Ty.int .u8)) code) (p0:M.ay code):F.fq code=some (M.de code):=iQ (F.lT code h_code p0)
theorem M.oe (code:(List Int)) (h_code:Sm (Ty.sl (Ty.int .u8)) code) (p0:M.ay code):(M.de code).1.length<=3/\1<=(M.de code).1.length/\(∀t∈(M.de code).1,M.mT t)/\(M.de code).2.length<=6/\1<=(M.de code).2.length/\(∀s∈(M.de code).2,M.fZ s):=iT (F.lT code h_code p0)
theorem DV {α:Type} {K:α->Prop} {f:LTb×LS->Option α} {code:(List Int)} (k:∀r,(r.1.length<=3)->(1<=r.1.length)->(∀t∈r.1,M.mT t)->(r.2.length<=6)->(1<=r.2.length)->(∀s∈r.2,M.fZ s)->ok (f r) K) (h_code:Sm (Ty.sl (Ty.int .u8)) code:=by exact au) (p0:M.ay code:=by exact au):ok (aJ (M.de code) f) K:=by
 have h:=M.oe code h_code p0
 obtain⟨h0,h1,h2,h3,h4,h5⟩:=h
 exact k _ h0 h1 h2 h3 h4 h5
theorem F.Cd (plan:LS) (h_plan:Sm (Ty.sl aa) plan) (p0:M.jS plan):F.uN plan=some (M.eX plan):=by
 unfold F.uN M.eX
 have hl:=h_plan.1
 have hw:wrap64 ((plan.length:Int)-(1:Int))=(plan.length:Int)-1:=gf _ hl
 have h0:=p0.1
 rw[hw,ai (by omega),ai (by simp;omega),aV]
 have e1:(plan.length:Int).toNat=plan.length:=by simp
 have e2:((plan.length:Int)-1).toNat=plan.length-1:=by omega
 rw[e1,e2,(M.tY (M.dx plan) (fun u:List Bool=>u.length=plan.length) plan.length (fun k u k0 k1 hI=>by
   refine⟨?_,by rw[M.mR];exact hI⟩
   unfold F.lF M.dx
   have hin:=p0.2 k k0 k1
   have hu:k<(u.length:Int):=by rw[hI];exact k1
   simp only
   rw[decide_eq_true k0,cond_true,ai k0,ai k1,ai hu,aH (n:=k-1) (by omega) (by omega)]
   cases nth (t:=.bool) u k
   ·rfl
   by_cases h1:(nth (t:=aa) plan k).1=(1:Int)
   ·rw[decide_eq_true h1]
    rfl
   obtain⟨⟨a0,a1⟩,⟨b0,b1⟩⟩:=hin h1
   have a2:(nth (t:=aa) plan k).2.1<(u.length:Int):=by rw[hI];exact Int.lt_trans a1 k1
   have b2:(nth (t:=aa) plan k).2.2.1<((u.set (nth (t:=aa) plan k).2.1.toNat true).length:Int):=by rw[List.length_set,hI];exact Int.lt_trans b1 k1
   rw[decide_eq_false h1]
   simp only[Bool.not_false,Bool.and_true,cond_true,aV,show ((true:Bool)==true)=true from rfl]
   rw[ai a0,ai a2]
   repeat rw[ai b0]
   repeat rw[ai b2]
   unfold M.two
   cases decide ((nth (t:=aa) plan k).1=(4:Int))<;>cases decide ((nth (t:=aa) plan k).1=(5:Int))<;>rfl) (fun u hI=>rfl) plan.length _ (Nat.le_refl _) (by simp)).1]
 rfl
theorem F.Aa (xs:LPt) (h_xs:Sm (Ty.sl ax) xs):F.yf xs=some xs:=by
 exact M.tn (t:=ax)
theorem F.yU (xs:(List Int)) (h_xs:Sm (Ty.sl (Ty.int .i64)) xs):F.wq xs=some xs:=by
 exact M.tn (t:=(Ty.int .i64))
theorem F.AJ (kind:Int)  : F.rV kind=some (M.two kind):=by
 unfold F.rV M.two
 cases decide (kind=(4:Int))<;>rfl
theorem F.DT (plan:LS) (h_plan:Sm (Ty.sl aa) plan) (p0:M.jS plan):F.xb plan=some (M.tidy plan):=by
 unfold F.xb M.tidy
 have hl:=h_plan.1
 have e1:(plan.length:Int).toNat=plan.length:=by simp
 rw[aV,M.xL,ai (by unfold fh;omega),e1]
 have hfold:=M.rU (f:=F.jR plan (plan.length:Int) (M.eX plan)) (fun(v:List aa.D×List Int) k=>((M.cv plan (M.eX plan) (v.2,v.1) k).2,(M.cv plan (M.eX plan) (v.2,v.1) k).1)) (fun k v=>v.2.length=plan.length/\(v.1.length:Int)<=k/\∀s∈v.1,Sm aa s) plan.length (s:=([],List.replicate plan.length (0:Int))) ⟨by simp,by simp,fun s h=>by cases h⟩ (fun k v k0 k1 hI=>by
   have hnext:=M.zQ (need:=M.eX plan) h_plan (st:=(v.2,v.1)) k0 hI
   refine⟨?_,hnext⟩
   clear hnext
   have hin:=p0.2 k k0 k1
   obtain⟨hI1,hI2,hI3⟩:=hI
   have hs1:k<(v.2.length:Int):=by rw[hI1];exact k1
   have hnd:k<((M.eX plan).length:Int):=by rw[M.xL];exact k1
   have hl:=h_plan.1
   unfold F.jR M.cv M.ren
   rw[ai hnd]
   cases nth (t:=.bool) (M.eX plan) k
   ·rfl
   simp only[cond_true]
   rw[ai hs1,ai k1]
   simp only[aV,M.jQ]
   have hlim:∀s:aa.D,(v.1.length+[s].length) * 80<=lim:=fun s=>by unfold lim;simp;omega
   by_cases h1:(nth (t:=aa) plan k).1=(1:Int)
   ·have ht:M.two (1:Int)=false:=rfl
    rw[decide_eq_true h1,h1,ht]
    simp only[Bool.not_true,cond_true,cond_false]
    rw[ai (hlim _),<-h1]
   obtain⟨⟨a0,a1⟩,⟨b0,b1⟩⟩:=hin h1
   have a2:(nth (t:=aa) plan k).2.1<((v.2.set k.toNat (v.1.length:Int)).length:Int):=by rw[List.length_set,hI1];exact Int.lt_trans a1 k1
   have b2:(nth (t:=aa) plan k).2.2.1<((v.2.set k.toNat (v.1.length:Int)).length:Int):=by rw[List.length_set,hI1];exact Int.lt_trans b1 k1
   rw[decide_eq_false h1,M.gm (t:=.int .i64) k0 a0 (Int.ne_of_gt a1)]
   simp only[Bool.not_false,cond_true,cond_false]
   rw[ai a0,ai a2]
   cases M.two (nth (t:=aa) plan k).1
   ·simp only[cond_false]
    rw[ai (hlim _)]
   ·simp only[cond_true]
    rw[M.gm (t:=.int .i64) k0 b0 (Int.ne_of_gt b1),ai b0,ai b2,ai (hlim _)])
 rw[hfold.1,bp,M.zV (M.cv plan (M.eX plan)) (fun(v:List aa.D×List Int) k=>((M.cv plan (M.eX plan) (v.2,v.1) k).2,(M.cv plan (M.eX plan) (v.2,v.1) k).1)) (fun a b x=>rfl)]
 simp only[M.ia]
theorem F.xT (plan:LS) (h_plan:Sm (Ty.sl aa) plan):F.pG plan=some plan:=by
 unfold F.pG
 rw[vq (fun r=>r) (fun x hx s hs=>by
  have hl:=h_plan.1
  simp only[F.iM,aV,M.jQ]
  rw[ai (by unfold lim;simp;omega)]),M.AH,bp,M.ia]
theorem F.BL (n:Int) (p0:0<=n) (p1:n<=1099511627776):F.uk n=some ([]:List ax.D):=by
 unfold F.uk
 have e:wrap64 (n-wrap64 ((0:Int)-(0:Int)))=n:=by
  rw[show wrap64 ((0:Int)-(0:Int))=0 by decide,Int.sub_zero]
  exact aH (by omega) (by omega)
 rw[decide_eq_false (by omega),e]
 by_cases h:0<n
 ·rw[decide_eq_true h]
  simp only[cond_true,cond_false]
  rw[ai p0,ai (by unfold lim;omega)]
  rfl
 ·rw[decide_eq_false h]
  rfl
theorem F.yO (xss:(List LPt)) (h_xss:Sm (Ty.sl (Ty.sl ax)) xss):F.qM xss=some (List.flatten xss):=by
 unfold F.qM
 exact M.qt (t:=ax) h_xss (fun z v h0 h1=>by
  unfold F.jm
  rw[aH (n:=v+(z.length:Int)) (by omega) (by omega),decide_eq_false (by omega)]
  rfl) (fun z v h1=>by
  unfold F.jw
  rw[ai (by unfold lim;omega)])
theorem F.Db (a:LPt) (b:LPt) (h_a:Sm (Ty.sl ax) a) (h_b:Sm (Ty.sl ax) b):F.xj a b=some (M.gv a b):=by
 unfold F.xj
 have hA:Sm ax M.Gi:=⟨trivial,trivial,⟨trivial,trivial,Nat.zero_le _,trivial⟩,trivial⟩
 have hS:Sm (.sl (.sl ax)) [a,b,[M.Gi]]:=by
  refine⟨show 3<=1048576 by decide,fun x hx=>?_⟩
  rcases List.mem_cons.1 hx with rfl | hx
  ·exact h_a
  rcases List.mem_cons.1 hx with rfl | hx
  ·exact h_b
  rw[List.mem_singleton.1 hx]
  exact⟨show 1<=1048576 by decide,fun y hy=>by rw[List.mem_singleton.1 hy];exact hA⟩
 refine(ai hS).trans ?_
 show some (List.flatten [a,b,[M.Gi]])=some (a++b++[M.Gi])
 simp
theorem F.vX (e:LPt) (to:(List Int)) (h_e:Sm (Ty.sl ax) e) (h_to:Sm (Ty.sl (Ty.int .i64)) to) (p0:M.pE e to.length):F.ng e to=some (M.mG e to):=by
 unfold F.ng
 have hl:=h_e.1
 rw[aV,ai (by unfold fh;omega)]
 have:=vL (t:=ax) (ρ:=Unit) (M.mj to) e.length (f:=F.fF e to (e.length:Int) (e.length:Int) (e.length:Int)) e [] (by simp) (fun x hx A R hA=>by
  unfold F.fF
  rw[ai (by omega),KF]
  unfold M.mj
  by_cases h2:x.1=(2:Int)
  ·obtain⟨c0,c1⟩:=p0 x hx h2
   rw[decide_eq_true h2]
   simp only[cond_true]
   rw[ai c0,ai c1,ai (by omega),aV,Kf]
  ·rw[decide_eq_false h2]
   rfl)
 simp only[List.length_nil,List.nil_append] at this
 rw[show ((0:Nat):Int)=0 from rfl] at this
 rw[this,bp]
 show some ((M.mG e to).take _)=some (M.mG e to)
 rw[List.take_of_length_le (by unfold M.mG;simp)]
theorem F.Dh (all:(List aF.D)) (plan:LS) (at_:Int) (rule:Int) (h_all:Sm (Ty.sl aF) all) (h_plan:Sm (Ty.sl aa) plan) (p0:M.jk plan at_) (p1:1<=rule/\rule<=7):F.wK all plan at_ rule=some (M.bA plan at_ rule):=by
 unfold F.wK M.bA
 obtain⟨⟨a0,a1⟩,hsafe⟩:=p0
 rw[ai a0,ai a1]
 have sS:=aL h_plan at_
 obtain⟨_,_,_,_,_,⟨sl,_⟩,_⟩:=sS

 generalize hs:nth (t:=aa) plan at_=s at *
 generalize hj:nth (t:=aa) plan s.2.1=j at *
 obtain⟨q1,q2,q3⟩:=hsafe
 unfold M.fj
 by_cases r1:rule=(1:Int)
 ·have hO:iV (Ty.int .i64) (bz (bz (bz (bz (bz (bz (bz ([]:List (Int×Int)) (1:Int) (2:Int)) (2:Int) (2:Int)) (3:Int) (2:Int)) (4:Int) (2:Int)) (5:Int) (2:Int)) (6:Int) (3:Int)) (7:Int) (6:Int)) rule=(2:Int):=by rw[r1];rfl
  have hI:iV (Ty.int .i64) (bz (bz (bz (bz (bz (bz (bz ([]:List (Int×Int)) (1:Int) (2:Int)) (2:Int) (4:Int)) (3:Int) (3:Int)) (4:Int) (6:Int)) (5:Int) (5:Int)) (6:Int) (3:Int)) (7:Int) (6:Int)) rule=(2:Int):=by rw[r1];rfl
  rw[decide_eq_true r1,hO,hI]
  by_cases s2:s.1=(2:Int)
  ·have h1:¬s.1=(1:Int):=by rw[s2];decide
   rw[decide_eq_true s2]
   simp only[Bool.not_true,cond_true,Bool.true_and,show ((false:Bool)==false)=true from rfl]
   rw[ai (q1 h1).1,ai (q1 h1).2]
   by_cases j2:j.1=(2:Int)
   ·rw[decide_eq_true j2]
    simp only[Bool.not_true,cond_false,cond_true]
    rfl
   ·rw[decide_eq_false j2]
    rfl
  ·rw[decide_eq_false s2]
   rfl
 rw[decide_eq_false r1]
 simp only[cond_false]
 by_cases r2:rule=(2:Int)
 ·have hO:iV (Ty.int .i64) (bz (bz (bz (bz (bz (bz (bz ([]:List (Int×Int)) (1:Int) (2:Int)) (2:Int) (2:Int)) (3:Int) (2:Int)) (4:Int) (2:Int)) (5:Int) (2:Int)) (6:Int) (3:Int)) (7:Int) (6:Int)) rule=(2:Int):=by rw[r2];rfl
  have hI:iV (Ty.int .i64) (bz (bz (bz (bz (bz (bz (bz ([]:List (Int×Int)) (1:Int) (2:Int)) (2:Int) (4:Int)) (3:Int) (3:Int)) (4:Int) (6:Int)) (5:Int) (5:Int)) (6:Int) (3:Int)) (7:Int) (6:Int)) rule=(4:Int):=by rw[r2];rfl
  rw[decide_eq_true r2,hO,hI]
  by_cases s2:s.1=(2:Int)
  ·have h1:¬s.1=(1:Int):=by rw[s2];decide
   rw[decide_eq_true s2]
   simp only[Bool.not_true,cond_true,Bool.true_and,show ((false:Bool)==false)=true from rfl]
   rw[ai (q1 h1).1,ai (q1 h1).2]
   by_cases j2:j.1=(4:Int)
   ·rw[decide_eq_true j2]
    simp only[Bool.not_true,cond_false,cond_true]
    rfl
   ·rw[decide_eq_false j2]
    rfl
  ·rw[decide_eq_false s2]
   rfl
 rw[decide_eq_false r2]
 simp only[cond_false]
 by_cases r3:rule=(3:Int)
 ·have hO:iV (Ty.int .i64) (bz (bz (bz (bz (bz (bz (bz ([]:List (Int×Int)) (1:Int) (2:Int)) (2:Int) (2:Int)) (3:Int) (2:Int)) (4:Int) (2:Int)) (5:Int) (2:Int)) (6:Int) (3:Int)) (7:Int) (6:Int)) rule=(2:Int):=by rw[r3];rfl
  have hI:iV (Ty.int .i64) (bz (bz (bz (bz (bz (bz (bz ([]:List (Int×Int)) (1:Int) (2:Int)) (2:Int) (4:Int)) (3:Int) (3:Int)) (4:Int) (6:Int)) (5:Int) (5:Int)) (6:Int) (3:Int)) (7:Int) (6:Int)) rule=(3:Int):=by rw[r3];rfl
  rw[decide_eq_true r3,hO,hI]
  by_cases s2:s.1=(2:Int)
  ·have h1:¬s.1=(1:Int):=by rw[s2];decide
   rw[decide_eq_true s2]
   simp only[Bool.not_true,cond_true,Bool.true_and,show ((false:Bool)==false)=true from rfl]
   rw[ai (q1 h1).1,ai (q1 h1).2]
   by_cases j2:j.1=(3:Int)
   ·rw[decide_eq_true j2]
    simp only[Bool.not_true,cond_false,cond_true]
    rw[ai (q2 s2 j2),aV,M.jQ]
    rfl
   ·rw[decide_eq_false j2]
    rfl
  ·rw[decide_eq_false s2]
   rfl
 rw[decide_eq_false r3]
 simp only[cond_false]
 by_cases r4:rule=(4:Int)
 ·have hO:iV (Ty.int .i64) (bz (bz (bz (bz (bz (bz (bz ([]:List (Int×Int)) (1:Int) (2:Int)) (2:Int) (2:Int)) (3:Int) (2:Int)) (4:Int) (2:Int)) (5:Int) (2:Int)) (6:Int) (3:Int)) (7:Int) (6:Int)) rule=(2:Int):=by rw[r4];rfl
  have hI:iV (Ty.int .i64) (bz (bz (bz (bz (bz (bz (bz ([]:List (Int×Int)) (1:Int) (2:Int)) (2:Int) (4:Int)) (3:Int) (3:Int)) (4:Int) (6:Int)) (5:Int) (5:Int)) (6:Int) (3:Int)) (7:Int) (6:Int)) rule=(6:Int):=by rw[r4];rfl
  rw[decide_eq_true r4,hO,hI]
  by_cases s2:s.1=(2:Int)
  ·have h1:¬s.1=(1:Int):=by rw[s2];decide
   rw[decide_eq_true s2]
   simp only[Bool.not_true,cond_true,Bool.true_and,show ((false:Bool)==false)=true from rfl]
   rw[ai (q1 h1).1,ai (q1 h1).2]
   by_cases j2:j.1=(6:Int)
   ·rw[decide_eq_true j2]
    simp only[Bool.not_true,cond_false,cond_true]
    rfl
   ·rw[decide_eq_false j2]
    rfl
  ·rw[decide_eq_false s2]
   rfl
 rw[decide_eq_false r4]
 simp only[cond_false]
 by_cases r5:rule=(5:Int)
 ·have hO:iV (Ty.int .i64) (bz (bz (bz (bz (bz (bz (bz ([]:List (Int×Int)) (1:Int) (2:Int)) (2:Int) (2:Int)) (3:Int) (2:Int)) (4:Int) (2:Int)) (5:Int) (2:Int)) (6:Int) (3:Int)) (7:Int) (6:Int)) rule=(2:Int):=by rw[r5];rfl
  have hI:iV (Ty.int .i64) (bz (bz (bz (bz (bz (bz (bz ([]:List (Int×Int)) (1:Int) (2:Int)) (2:Int) (4:Int)) (3:Int) (3:Int)) (4:Int) (6:Int)) (5:Int) (5:Int)) (6:Int) (3:Int)) (7:Int) (6:Int)) rule=(5:Int):=by rw[r5];rfl
  rw[decide_eq_true r5,hO,hI]
  by_cases s2:s.1=(2:Int)
  ·have h1:¬s.1=(1:Int):=by rw[s2];decide
   rw[decide_eq_true s2]
   simp only[Bool.not_true,cond_true,Bool.true_and,show ((false:Bool)==false)=true from rfl]
   rw[ai (q1 h1).1,ai (q1 h1).2]
   by_cases j2:j.1=(5:Int)
   ·rw[decide_eq_true j2]
    simp only[Bool.not_true,cond_false,cond_true]
    rfl
   ·rw[decide_eq_false j2]
    rfl
  ·rw[decide_eq_false s2]
   rfl
 rw[decide_eq_false r5]
 simp only[cond_false]
 by_cases r6:rule=(6:Int)
 ·have hO:iV (Ty.int .i64) (bz (bz (bz (bz (bz (bz (bz ([]:List (Int×Int)) (1:Int) (2:Int)) (2:Int) (2:Int)) (3:Int) (2:Int)) (4:Int) (2:Int)) (5:Int) (2:Int)) (6:Int) (3:Int)) (7:Int) (6:Int)) rule=(3:Int):=by rw[r6];rfl
  have hI:iV (Ty.int .i64) (bz (bz (bz (bz (bz (bz (bz ([]:List (Int×Int)) (1:Int) (2:Int)) (2:Int) (4:Int)) (3:Int) (3:Int)) (4:Int) (6:Int)) (5:Int) (5:Int)) (6:Int) (3:Int)) (7:Int) (6:Int)) rule=(3:Int):=by rw[r6];rfl
  rw[decide_eq_true r6,hO,hI]
  by_cases s2:s.1=(3:Int)
  ·have h1:¬s.1=(1:Int):=by rw[s2];decide
   rw[decide_eq_true s2]
   simp only[Bool.not_true,cond_true,Bool.true_and,show ((false:Bool)==false)=true from rfl]
   rw[ai (q1 h1).1,ai (q1 h1).2]
   by_cases j2:j.1=(3:Int)
   ·rw[decide_eq_true j2]
    simp only[Bool.not_true,cond_false,cond_true]
    rw[nh (fun z=>nth (t:=.int .i64) j.2.2.2.2.2.1 z) s.2.2.2.2.2.1 [] (fun z hz v hv=>by
     simp only[List.length_nil,Nat.zero_add] at hv
     have hz2:=q3 s2 j2 z hz
     unfold F.mM
     rw[hs,hj,ai hz2.1,ai hz2.2,ai (by unfold lim;simp;omega)]),bp]
    rfl
   ·rw[decide_eq_false j2]
    rfl
  ·rw[decide_eq_false s2]
   rfl
 rw[decide_eq_false r6]
 simp only[cond_false]
 by_cases r7:rule=(7:Int)
 ·have hO:iV (Ty.int .i64) (bz (bz (bz (bz (bz (bz (bz ([]:List (Int×Int)) (1:Int) (2:Int)) (2:Int) (2:Int)) (3:Int) (2:Int)) (4:Int) (2:Int)) (5:Int) (2:Int)) (6:Int) (3:Int)) (7:Int) (6:Int)) rule=(6:Int):=by rw[r7];rfl
  have hI:iV (Ty.int .i64) (bz (bz (bz (bz (bz (bz (bz ([]:List (Int×Int)) (1:Int) (2:Int)) (2:Int) (4:Int)) (3:Int) (3:Int)) (4:Int) (6:Int)) (5:Int) (5:Int)) (6:Int) (3:Int)) (7:Int) (6:Int)) rule=(6:Int):=by rw[r7];rfl
  rw[decide_eq_true r7,hO,hI]
  by_cases s2:s.1=(6:Int)
  ·have h1:¬s.1=(1:Int):=by rw[s2];decide
   rw[decide_eq_true s2]
   simp only[Bool.not_true,cond_true,Bool.true_and,show ((false:Bool)==false)=true from rfl]
   rw[ai (q1 h1).1,ai (q1 h1).2]
   by_cases j2:j.1=(6:Int)
   ·rw[decide_eq_true j2]
    simp only[Bool.not_true,cond_false,cond_true]
    rfl
   ·rw[decide_eq_false j2]
    rfl
  ·rw[decide_eq_false s2]
   rfl
 exact absurd p1 (by omega)
theorem F.Ai (tables:LTb) (plan:LS) (at_:Int) (rule:Int) (h_tables:Sm (Ty.sl az) tables) (h_plan:Sm (Ty.sl aa) plan) (p0:M.aQ tables plan=true) (p1:0<=at_) (p2:at_<(plan.length:Int)) (p3:1<=rule/\rule<=7):F.rP tables plan at_ rule=some (M.eR tables plan at_ rule):=by
 have facts:=M.nZ p0 h_plan p1 p2
 have h6:=M.ja p0
 have refs:=(M.cz p0).2
 unfold F.rP M.eR
 rw[aV,ai (DX h_tables h_plan),ai facts.1,aV]
 have hn:=facts.2.2.2.2 rule
 have h3:(M.bA plan at_ rule).length<=3:=M.sU _ _ _ _
 generalize M.bA plan at_ rule=N at *
 cases decide ((N.length:Int)=(0:Int)) with
 | true=>rfl
 | false=>
  simp only[cond_false,aV]
  have ht:(plan.take at_.toNat).length<=6:=Nat.le_trans (List.length_take_le' _ _) h6
  rw[ai p1,ai (Int.le_of_lt p2),EF,ai (by unfold lim;simp;omega),aH (n:=at_+(1:Int)) (by omega) (by omega),ai (by omega),ai (by omega),Am plan (by omega) (by omega),show (at_+1).toNat=at_.toNat+1 by omega]
  rw[nh (M.shift at_ (wrap64 ((N.length:Int)-1))) (plan.drop (at_.toNat+1)) (plan.take at_.toNat++N) (fun z hz v hv=>by
   have hmem:=List.mem_of_mem_drop hz
   obtain⟨k,hk,e⟩:=List.getElem_of_mem hmem
   have hin:=refs (k:Int) (by omega) (by omega)
   have e2:nth (t:=aa) plan (k:Int)=z:=by
    rw[iq (by omega) (by omega)]
    simpa using e
   rw[e2] at hin
   have hlv:v.length<=20:=by
    simp only[List.length_append,List.length_drop] at hv
    omega
   have hlim:∀s:aa.D,(v.length+[s].length) * 80<=lim:=fun s=>by unfold lim;simp;omega
   have hw:∀x:Int,0<=x->x<(k:Int)->wrap64 (wrap64 (x+(N.length:Int))-(1:Int))=wrap64 (x+wrap64 ((N.length:Int)-1)):=fun x x0 x1=>by
    rw[aH (n:=x+(N.length:Int)) (by omega) (by omega),aH (n:=(N.length:Int)-1) (by omega) (by omega),show x+(N.length:Int)-1=x+((N.length:Int)-1) by omega]
   have hc:∀x:Int,decide (at_<=x)=!decide (x<at_):=fun x=>by
    by_cases h:x<at_
    ·rw[decide_eq_true h,decide_eq_false (by omega)];rfl
    ·rw[decide_eq_false h,decide_eq_true (by omega)];rfl
   unfold F.jP M.shift
   simp only[aV,M.jQ]
   rw[hc z.2.1,hc z.2.2.1]
   by_cases h1:z.1=(1:Int)
   ·have h2:M.two z.1=false:=by rw[h1];rfl
    rw[decide_eq_true h1,h2]
    exact ai (hlim _)
   ·obtain⟨⟨z0,z1⟩,w0,w1⟩:=hin h1
    rw[decide_eq_false h1,hw _ z0 z1,hw _ w0 w1]
    cases M.two z.1<;>cases decide (z.2.1<at_)<;>cases decide (z.2.2.1<at_)<;>simp only[cond_true,cond_false,Bool.and_self,Bool.and_true,Bool.true_and,Bool.and_false,Bool.false_and,Bool.or_self,Bool.or_true,Bool.true_or,Bool.or_false,Bool.false_or,Bool.not_true,Bool.not_false,show ((true:Bool)==true)=true from rfl,show ((false:Bool)==true)=false from rfl,show ((false:Bool)==false)=true from rfl,show ((true:Bool)==false)=false from rfl]<;>rw[ai (hlim _)]),bp]
  show ag (Sm (.sl aa) (M.bC plan at_ N)) (cond (!(M.aQ tables (M.bC plan at_ N))) (some (plan,false)) (some (M.bC plan at_ N,true)))=_
  rw[ai (M.Gw h_plan h6 hn h3),cK,kW]
theorem F.Aj (tables:LTb) (plan:LS) (h_tables:Sm (Ty.sl az) tables) (h_plan:Sm (Ty.sl aa) plan) (p0:M.aQ tables plan=true):F.rK tables plan=some (M.better tables plan):=by
 unfold F.rK M.better M.fy
 have hg:M.Good tables plan:=⟨p0,h_plan⟩
 have key:∀(n:Nat) (k:Int),(8-k).toNat=n->1<=k->ck (F.eY tables plan) k=some (match gr (M.fP tables plan) (aP k 8) with | some q=>.inr q | none=>.inl ()):=by
  intro n
  induction n with
  | zero=>
   intro k hk k1
   rw[ct,M.tZ _ k 8 (by omega)]
   unfold F.eY
   rw[decide_eq_false (by omega)]
   rfl
  | succ n ih=>
   intro k hk k1
   have e:F.eY tables plan k=some (match M.fP tables plan k with | some q=>.inr (.inr q) | none=>.inl (k+1)):=by
    unfold F.eY M.fP
    rw[decide_eq_true (show k<=7 by omega),cond_true,aH (n:=k+1) (by omega) (by omega),FG (M.gD tables plan k) (fun i hi=>by
     obtain⟨i0,i1⟩:=fH.1 hi
     have hq:=M.sj hg i0 i1 k
     unfold F.ke M.gD
     rw[ai p0,ai (⟨k1,by omega⟩:1<=k/\k<=7),aV]
     cases (M.eR tables plan i k).2 with
     | false=>rfl
     | true=>
      simp only[cond_true]
      rw[ai hq.2,ai (M.cz hq.1),aV])]
    cases gr (M.gD tables plan k) (aP 0 (plan.length:Int))<;>rfl
   rw[ct,M.sG _ k 8 (by omega),e]
   cases M.fP tables plan k with
   | some q=>rfl
   | none=>exact ih (k+1) (by omega) (by omega)
 rw[key 7 1 rfl (by decide)]
 cases gr (M.fP tables plan) (aP 1 8)<;>rfl
theorem F.wN (tables:LTb) (plan:LS) (h_tables:Sm (Ty.sl az) tables) (h_plan:Sm (Ty.sl aa) plan):F.pL tables plan=some (M.cV tables plan):=by
 unfold F.pL M.cV
 cases hp:M.aQ tables plan
 ·rfl
 have hg:=M.kL ⟨hp,h_plan⟩
 simp only[Bool.not_true,cond_false,cond_true]
 rw[ai (M.cz hp),aV]
 have key:∀(n:Nat) (k:Int) (p:List aa.D),(12-k).toNat=n->M.Good tables p->Cr (aO (F.eT tables plan) (aP k 12) p) (fun v=>v)=some (M.iS tables n p):=by
  intro n
  induction n with
  | zero=>
   intro k p hk hg
   rw[cH (by omega)]
   rfl
  | succ n ih=>
   intro k p hk hg
   rw[dr (by omega),bM]
   unfold M.iS
   have e:F.eT tables plan k p=some (match M.fy tables p with | some q=>.inl q | none=>.inr p):=by
    unfold F.eT M.better
    rw[ai hg.2,ai hg.1,aV]
    cases M.fy tables p<;>rfl
   rw[e]
   cases hb:M.fy tables p with
   | none=>rfl
   | some q=>exact ih (k+1) q (by omega) (M.lI hg hb)
 rw[key 12 0 _ rfl hg]
 rfl
theorem F.BZ (row:LV) (h_row:Sm (Ty.sl af) row):F.tR row=some (M.qc row):=by
 unfold F.tR M.qc
 rw[ki M.aZ () (fun x _=>by simp only[F.lu,kW,cK]<;>rfl),show decide ((row.length:Int)<=4)=decide (row.length<=4) from decide_eq_decide.2 (by omega)]
 cases row.all M.aZ<;>simp
theorem F.ze (columns:LC) (row:LV) (h_columns:Sm (Ty.sl ah) columns) (h_row:Sm (Ty.sl af) row):F.qK columns row=some (M.cM columns row):=by
 unfold F.qK M.cM
 cases M.bI columns
 ·rfl
 cases M.qc row
 ·rfl
 by_cases hl:row.length=columns.length
 ·rw[ki (M.uR columns row) () (fun i hi=>by
   obtain⟨h0,h1⟩:=fH.1 hi
   have h2:i<(columns.length:Int):=by omega
   simp only[F.jn,ai h2]
   unfold M.uR
   cases decide ((nth (t:=af) row i).1=(nth (t:=ah) columns i).1)<;>cases decide ((nth (t:=af) row i).1=(0:Int))<;>cases (nth (t:=ah) columns i).2.1<;>rfl)]
  simp only[hl,Bool.not_true,decide_true,Bool.true_and,cond_true,cond_false]
  cases (aP 0 (columns.length:Int)).all (M.uR columns row)<;>rfl
 ·have h3:¬(row.length:Int)=(columns.length:Int):=by omega
  simp[hl,h3]
theorem F.AX (columns:LC) (rows:LLV) (h_columns:Sm (Ty.sl ah) columns) (h_rows:Sm (Ty.sl (Ty.sl af)) rows):F.sw columns rows=some (M.gI columns rows):=by
 unfold F.sw M.gI
 rw[ki (M.cM columns) () (fun x _=>by simp only[F.kA,kW,cK])]
 cases rows.all (M.cM columns)<;>simp
theorem F.xz (tables:LTb) (h_tables:Sm (Ty.sl az) tables):F.oZ tables=some (M.cC tables):=by
 unfold F.oZ M.cC
 rw[ki M.dy () (fun x _=>by
  simp only[F.iO]
  unfold M.dy
  by_cases h:x.2.1.length<=6
  ·have h2:¬(6:Int)<(x.2.1.length:Int):=by omega
   simp only[h2,h,decide_true,decide_false,Bool.true_and]
   cases M.gI x.1 x.2.1<;>rfl
  ·have h2:(6:Int)<(x.2.1.length:Int):=by omega
   simp[h2,h]),show decide ((tables.length:Int)<=3)=decide (tables.length<=3) from decide_eq_decide.2 (by omega)]
 cases tables.all M.dy<;>simp
theorem F.Ao (tables:LTb) (plan:LS) (h_tables:Sm (Ty.sl az) tables) (h_plan:Sm (Ty.sl aa) plan):F.sM tables plan=some (M.aQ tables plan):=by
 unfold F.sM M.aQ
 rw[aV]
 cases (M.aX tables plan).2<;>cases M.cC tables<;>rfl
theorem F.BR (plan:LS) (h_plan:Sm (Ty.sl aa) plan):F.uD plan=some plan:=by
 unfold F.uD
 rw[vq (fun r=>r) (fun x hx s hs=>by
  have hl:=h_plan.1
  simp only[F.lf,List.nil_append]
  rw[ai (by unfold lim;simp;omega)]),M.AH]
 rfl
theorem F.xH (tables:LTb) (plan:LS) (h_tables:Sm (Ty.sl az) tables) (h_plan:Sm (Ty.sl aa) plan):F.pz tables plan=some (M.kg tables plan):=by
 unfold F.pz M.kg
 cases hp:M.aQ tables plan
 ·rfl
 have p0:=M.cz hp
 have hl:=h_plan.1
 have hw:wrap64 ((plan.length:Int)-(1:Int))=(plan.length:Int)-1:=gf _ hl
 have h0:=p0.1
 simp only[Bool.not_true,cond_true,cond_false,aV]
 rw[hw,ai (by omega),ai (by simp;omega)]
 have e1:(plan.length:Int).toNat=plan.length:=by simp
 have e2:((plan.length:Int)-1).toNat=plan.length-1:=by omega
 rw[e1,e2,(M.tY (M.dx plan) (fun u:List Bool=>u.length=plan.length) plan.length (fun k u k0 k1 hI=>by
   refine⟨?_,by rw[M.mR];exact hI⟩
   unfold F.iB M.dx
   have hin:=p0.2 k k0 k1
   have hu:k<(u.length:Int):=by rw[hI];exact k1
   simp only
   rw[decide_eq_true k0,cond_true,ai k0,ai k1,ai hu,aH (n:=k-1) (by omega) (by omega)]
   cases nth (t:=.bool) u k
   ·rfl
   by_cases h1:(nth (t:=aa) plan k).1=(1:Int)
   ·rw[decide_eq_true h1]
    rfl
   obtain⟨⟨a0,a1⟩,⟨b0,b1⟩⟩:=hin h1
   have a2:(nth (t:=aa) plan k).2.1<(u.length:Int):=by rw[hI];exact Int.lt_trans a1 k1
   have b2:(nth (t:=aa) plan k).2.2.1<((u.set (nth (t:=aa) plan k).2.1.toNat true).length:Int):=by rw[List.length_set,hI];exact Int.lt_trans b1 k1
   rw[decide_eq_false h1]
   simp only[Bool.not_false,Bool.and_true,cond_true,aV,show ((true:Bool)==true)=true from rfl]
   rw[ai a0,ai a2]
   rw[ai b0,ai b2]
   have hsame:=M.It (t:=.bool) (u:=u.set (nth (t:=aa) plan k).2.1.toNat true) b0 b2
   unfold M.two
   cases hb:nth (t:=.bool) (u.set (nth (t:=aa) plan k).2.1.toNat true) (nth (t:=aa) plan k).2.2.1 with
   | false=>
    rw[hb] at hsame
    cases decide ((nth (t:=aa) plan k).1=(4:Int))<;>cases decide ((nth (t:=aa) plan k).1=(5:Int))<;>simp[hsame]
   | true=>
    rw[hb] at hsame
    cases decide ((nth (t:=aa) plan k).1=(4:Int))<;>cases decide ((nth (t:=aa) plan k).1=(5:Int))<;>simp[hsame]) (fun u hI=>rfl) plan.length _ (Nat.le_refl _) (by simp)).1]
 show bu (aO (F.eV tables plan (M.eX plan) plan) _ _) _ _=_
 have hfold:=M.rU (f:=F.eV tables plan (M.eX plan) plan) (M.cv plan (M.eX plan)) (fun k v=>v.1.length=plan.length/\(v.2.length:Int)<=k/\∀s∈v.2,Sm aa s) plan.length (s:=(List.replicate plan.length (0:Int),[])) ⟨by simp,by simp,fun s h=>by cases h⟩ (fun k v k0 k1 hI=>by
   have hnext:=M.zQ (need:=M.eX plan) h_plan (st:=v) k0 hI
   refine⟨?_,hnext⟩
   clear hnext
   have hin:=p0.2 k k0 k1
   obtain⟨hI1,hI2,hI3⟩:=hI
   have hs1:k<(v.1.length:Int):=by rw[hI1];exact k1
   have hnd:k<((M.eX plan).length:Int):=by rw[M.xL];exact k1
   have hl:=h_plan.1
   unfold F.eV M.cv M.ren
   rw[ai hnd]
   cases nth (t:=.bool) (M.eX plan) k
   ·rfl
   simp only[cond_true]
   rw[ai k1]
   have hlim:∀s:aa.D,(v.2.length+[s].length) * 80<=lim:=fun s=>by unfold lim;simp;omega
   by_cases h1:(nth (t:=aa) plan k).1=(1:Int)
   ·have ht:M.two (1:Int)=false:=rfl
    rw[decide_eq_true h1]
    simp only[Bool.not_true,cond_true,cond_false]
    rw[ai hs1,ai (hlim _)]
    have e:M.two (nth (t:=aa) plan k).1=false:=by rw[h1];rfl
    rw[e]
    rfl
   obtain⟨⟨a0,a1⟩,⟨b0,b1⟩⟩:=hin h1
   have a2:(nth (t:=aa) plan k).2.1<(v.1.length:Int):=by rw[hI1];exact Int.lt_trans a1 k1
   have b2:(nth (t:=aa) plan k).2.2.1<(v.1.length:Int):=by rw[hI1];exact Int.lt_trans b1 k1
   rw[decide_eq_false h1]
   simp only[Bool.not_false,cond_true,cond_false]
   rw[ai a0,ai a2]
   unfold M.two
   cases decide ((nth (t:=aa) plan k).1=(4:Int))<;>cases decide ((nth (t:=aa) plan k).1=(5:Int))<;>simp only[cond_true,cond_false,Bool.or_self,Bool.or_true,Bool.or_false,Bool.false_or,Bool.true_or,show ((false:Bool)==false)=true from rfl,show ((true:Bool)==false)=false from rfl]<;>(repeat rw[ai b0])<;>(repeat rw[ai b2])<;>rw[ai hs1,ai (hlim _)]<;>rfl)
 rw[hfold.1]
 rfl
theorem F.Bg (a:LPt) (b:LPt) (h_a:Sm (Ty.sl ax) a) (h_b:Sm (Ty.sl ax) b):F.rN a b=some (M.gv a b):=by
 unfold F.rN
 have ha:=h_a.1
 have hb:=h_b.1
 rw[ai (by unfold lim;simp;omega),ai (by unfold lim;simp;omega)]
 rfl
theorem F.vF (columns:LC) (e:LPt) (to:(List Int)) (h_columns:Sm (Ty.sl ah) columns) (h_e:Sm (Ty.sl ax) e) (h_to:Sm (Ty.sl (Ty.int .i64)) to):F.nK columns e to=some (M.kT columns e to):=by
 unfold F.nK M.kT
 by_cases hk:M.bE columns e<0
 ·rw[decide_eq_true hk]
  rfl
 rw[decide_eq_false hk]
 simp only[show ((false:Bool)==false)=true from rfl,cond_true,cond_false]
 have hc:=M.CV (Int.not_lt.1 hk)
 have hl:=h_e.1
 cases hd:decide ((to.length:Int)=(columns.length:Int)) with
 | false=>rfl
 | true=>
  have hd':=of_decide_eq_true hd
  simp only[Bool.not_true,cond_false]
  rw[IJ (fun z=>!(M.inR z 0 3)) () (fun x _=>by unfold F.gL;rw[cK]),nh (M.mj to) e [] (fun z hz v hv=>by
   simp only[List.length_nil,Nat.zero_add] at hv
   unfold F.gY M.mj
   by_cases h2:z.1=(2:Int)
   ·obtain⟨c0,c1⟩:=hc z hz h2
    rw[decide_eq_true h2]
    simp only[cond_true]
    rw[ai c0,ai (by rw[hd'];exact c1),ai (by unfold lim;simp;omega)]
   ·rw[decide_eq_false h2]
    simp only[cond_false]
    rw[ai (by unfold lim;simp;omega)]),bp,cK]
  rfl
theorem F.BT (columns:LLC) (plan:LS) (at_:Int) (rule:Int) (h_columns:Sm (Ty.sl (Ty.sl ah)) columns) (h_plan:Sm (Ty.sl aa) plan) (p0:M.jk plan at_) (p1:M.nB columns plan at_):F.uy columns plan at_ rule=some (M.bA plan at_ rule):=by
 unfold F.uy M.bA
 obtain⟨⟨a0,a1⟩,hsafe⟩:=p0
 rw[ai a0,ai a1]
 have sS:=aL h_plan at_
 obtain⟨_,_,_,_,_,⟨sl,_⟩,_⟩:=sS
 unfold M.nB M.Jb at p1
 generalize hs:nth (t:=aa) plan at_=s at *
 generalize hj:nth (t:=aa) plan s.2.1=j at *
 obtain⟨q1,q2,q3⟩:=hsafe
 by_cases h1:s.1=(1:Int)
 ·have h2:¬s.1=(2:Int):=by rw[h1];decide
  have h3:¬s.1=(3:Int):=by rw[h1];decide
  have h6:¬s.1=(6:Int):=by rw[h1];decide
  unfold M.fj
  rw[decide_eq_true h1,decide_eq_false h2,decide_eq_false h3,decide_eq_false h6]
  cases decide (rule=(1:Int))<;>cases decide (rule=(2:Int))<;>cases decide (rule=(3:Int))<;>cases decide (rule=(4:Int))<;>cases decide (rule=(5:Int))<;>cases decide (rule=(6:Int))<;>cases decide (rule=(7:Int))<;>rfl
 rw[decide_eq_false h1,cond_false,ai (q1 h1).1,ai (q1 h1).2]
 unfold M.fj
 by_cases r1:rule=(1:Int)
 ·rw[decide_eq_true r1]
  cases decide (s.1=(2:Int))<;>cases decide (j.1=(2:Int))<;>rfl
 rw[decide_eq_false r1]
 simp only[cond_false,show ((false:Bool)==true)=false from rfl]
 by_cases r2:rule=(2:Int)
 ·rw[decide_eq_true r2]
  cases decide (s.1=(2:Int))<;>cases decide (j.1=(4:Int))<;>rfl
 rw[decide_eq_false r2]
 simp only[cond_false,show ((false:Bool)==true)=false from rfl]
 by_cases r3:rule=(3:Int)
 ·rw[decide_eq_true r3]
  by_cases s2:s.1=(2:Int)
  ·by_cases j2:j.1=(3:Int)
   ·rw[decide_eq_true s2,decide_eq_true j2]
    simp only[cond_true,Bool.and_self,show ((true:Bool)==true)=true from rfl]
    rw[ai (p1 s2 j2).1,aV,(p1 s2 j2).2]
    rfl
   ·rw[decide_eq_true s2,decide_eq_false j2]
    rfl
  ·rw[decide_eq_false s2]
   rfl
 rw[decide_eq_false r3]
 simp only[cond_false,show ((false:Bool)==true)=false from rfl]
 by_cases r4:rule=(4:Int)
 ·rw[decide_eq_true r4]
  cases decide (s.1=(2:Int))<;>cases decide (j.1=(6:Int))<;>rfl
 rw[decide_eq_false r4]
 simp only[cond_false,show ((false:Bool)==true)=false from rfl]
 by_cases r5:rule=(5:Int)
 ·rw[decide_eq_true r5]
  cases decide (s.1=(2:Int))<;>cases decide (j.1=(5:Int))<;>rfl
 rw[decide_eq_false r5]
 simp only[cond_false,show ((false:Bool)==true)=false from rfl]
 by_cases r6:rule=(6:Int)
 ·rw[decide_eq_true r6]
  by_cases s2:s.1=(3:Int)
  ·by_cases j2:j.1=(3:Int)
   ·rw[decide_eq_true s2,decide_eq_true j2]
    simp only[cond_true,Bool.and_self,show ((true:Bool)==true)=true from rfl]
    rw[nh (fun z=>nth (t:=.int .i64) j.2.2.2.2.2.1 z) s.2.2.2.2.2.1 [] (fun z hz v hv=>by
     simp only[List.length_nil,Nat.zero_add] at hv
     have hz2:=q3 s2 j2 z hz
     unfold F.ld
     rw[hs,hj,ai hz2.1,ai hz2.2,ai (by unfold lim;simp;omega)]),bp]
    rfl
   ·rw[decide_eq_true s2,decide_eq_false j2]
    rfl
  ·rw[decide_eq_false s2]
   rfl
 rw[decide_eq_false r6]
 simp only[cond_false,show ((false:Bool)==true)=false from rfl]
 by_cases r7:rule=(7:Int)
 ·rw[decide_eq_true r7]
  cases decide (s.1=(6:Int))<;>cases decide (j.1=(6:Int))<;>rfl
 rw[decide_eq_false r7]
 rfl
theorem F.Bx (plan:LS) (at_:Int) (steps:LS) (h_plan:Sm (Ty.sl aa) plan) (h_steps:Sm (Ty.sl aa) steps) (p0:0<=at_) (p1:at_<(plan.length:Int)):F.uS plan at_ steps=some (M.bC plan at_ steps):=by
 unfold F.uS M.bC
 have hl:=h_plan.1
 have hn:=h_steps.1
 rw[aV,ai p0,ai (Int.le_of_lt p1)]
 simp only[EF]
 have ht:(plan.take at_.toNat).length<=1048576:=Nat.le_trans (List.length_take_le' _ _) hl
 rw[ai (by unfold lim;simp;omega),ai (by unfold lim;simp;omega),ai (by unfold fh;omega),aH (n:=at_+(1:Int)) (by omega) (by omega),ai (by omega)]
 have:=zY (t:=aa) (β:=aa.D) (ρ:=Unit) (M.shift at_ (wrap64 ((steps.length:Int)-1))) plan 4000000 (plan.drop (at_.toNat+1)) (plan.take (at_.toNat+1)) (f:=F.jg plan at_ steps plan) (plan.take at_.toNat++steps) (List.take_append_drop _ _).symm (by simp;omega) (fun i v i0 i1 hv=>by
  have hlim:∀s:aa.D,(v.length+[s].length) * 80<=lim:=fun s=>by unfold lim;simp;omega
  unfold F.jg M.shift M.two
  generalize nth (t:=aa) plan i=s
  by_cases h1:s.1=(1:Int)
  ·rw[decide_eq_true h1,decide_eq_false (show ¬s.1=(4:Int) by rw[h1];decide),decide_eq_false (show ¬s.1=(5:Int) by rw[h1];decide)]
   cases decide (at_<=s.2.1)<;>cases decide (at_<=s.2.2.1)<;>simp only[cond_true,cond_false,Bool.and_self,Bool.and_true,Bool.true_and,Bool.and_false,Bool.false_and,Bool.or_self,Bool.or_true,Bool.true_or,Bool.or_false,Bool.false_or,Bool.not_true,Bool.not_false,show ((true:Bool)==true)=true from rfl,show ((false:Bool)==true)=false from rfl,show ((false:Bool)==false)=true from rfl,show ((true:Bool)==false)=false from rfl]<;>rw[ai (hlim _)]
  ·rw[decide_eq_false h1]
   cases decide (s.1=(4:Int))<;>cases decide (s.1=(5:Int))<;>cases decide (at_<=s.2.1)<;>cases decide (at_<=s.2.2.1)<;>simp only[cond_true,cond_false,Bool.and_self,Bool.and_true,Bool.true_and,Bool.and_false,Bool.false_and,Bool.or_self,Bool.or_true,Bool.true_or,Bool.or_false,Bool.false_or,Bool.not_true,Bool.not_false,show ((true:Bool)==true)=true from rfl,show ((false:Bool)==true)=false from rfl,show ((false:Bool)==false)=true from rfl,show ((true:Bool)==false)=false from rfl]<;>rw[ai (hlim _)])
 rw[show (((plan.take (at_.toNat+1)).length:Nat):Int)=at_+1 by rw[List.length_take];omega] at this
 rw[List.nil_append,this]
 rfl
theorem F.uH (tables:LTb) (plan:LS) (at_:Int) (rule:Int) (h_tables:Sm (Ty.sl az) tables) (h_plan:Sm (Ty.sl aa) plan):F.mb tables plan at_ rule=some (M.jA tables plan at_ rule):=by
 unfold F.mb M.jA
 cases hp:M.aQ tables plan
 ·rfl
 cases ha:M.inR at_ 0 (wrap64 ((plan.length:Int)-(1:Int)))
 ·rfl
 cases hr:M.inR rule 1 7
 ·rfl
 have a0:=fk ha
 have a1:=lZ ha
 simp only[Bool.not_true,cond_true,cond_false,Bool.and_self,show ((false:Bool)==false)=true from rfl]
 have facts:=M.nZ hp h_plan a0 a1
 have h6:=M.ja hp
 obtain⟨f1,f2,f3,f4,f5⟩:=facts
 have hn:=f5 rule
 have h3:(M.bA plan at_ rule).length<=3:=M.sU _ _ _ _
 unfold M.eR
 have hcs:Sm (.sl (.sl ah)) (M.aX tables plan).1:=⟨show (M.aX tables plan).1.length<=1048576 by omega,fun x hx=>M.xO (Nat.le_trans (f3 x hx) (by decide))⟩
 rw[aV,ai hcs,ai f1,ai f2,aV]
 generalize M.bA plan at_ rule=N at *
 cases decide ((N.length:Int)=(0:Int)) with
 | true=>rfl
 | false=>
  simp only[cond_false,aV]
  rw[ai hn,ai (M.Gw h_plan h6 hn h3),cK,kW]
theorem F.xA (tables:LTb) (plan:LS) (h_tables:Sm (Ty.sl az) tables) (h_plan:Sm (Ty.sl aa) plan):F.pI tables plan=some (M.cV tables plan):=by
 unfold F.pI M.cV M.kg
 cases hp:M.aQ tables plan
 ·simp only[cond_false,aV]
  rw[ct]
  rfl
 have hg:=M.kL ⟨hp,h_plan⟩
 simp only[cond_true,aV]
 have inner:∀(c rule:Int) (p:List aa.D),M.Good tables p->1<=rule->rule<=7->∀(n:Nat) (k:Int),((p.length:Int)-k).toNat=n->0<=k →
   ck (F.dn tables plan c rule) (p,false,k)=some (match gr (M.gD tables p rule) (aP k (p.length:Int)) with | some q=>(q,true) | none=>(p,false)):=by
  intro c rule p hg r0 r1 n
  have h6:=M.ja hg.1
  induction n with
  | zero=>
   intro k hk k1
   rw[ct,M.tZ _ k _ (by omega)]
   unfold F.dn
   simp only
   rw[decide_eq_false (by omega)]
   rfl
  | succ n ih=>
   intro k hk k1
   have hlt:k<(p.length:Int):=by omega
   rw[ct,M.sG _ k _ hlt]
   have hq:=M.sj hg k1 hlt rule
   have hw:wrap64 (k+1)=k+1:=aH (by omega) (by omega)
   have e:F.dn tables plan c rule (p,false,k)=some (match M.gD tables p rule k with | some q=>.inl (q,true,k+1) | none=>.inl (p,false,k+1)):=by
    unfold F.dn M.gD
    simp only
    rw[decide_eq_true hlt,M.Cc hg k1 hlt r0 r1,ai hg.2,aV,hw]
    cases (M.eR tables p k rule).2 with
    | false=>rfl
    | true=>
     simp only[cond_true,Bool.not_false,show ((true:Bool)==true)=true from rfl]
     rw[ai hq.2,aV]
     unfold M.kg
     rw[hq.1]
     rfl
   rw[e]
   cases M.gD tables p rule k with
   | some q=>
    show ck _ (q,true,k+1)=_
    rw[ct]
    unfold F.dn
    cases decide (k+1<(q.length:Int))<;>rfl
   | none=>exact ih (k+1) (by omega) (by omega)
 have outer:∀(c:Int) (p:List aa.D),M.Good tables p->∀(n:Nat) (k:Int),(8-k).toNat=n->1<=k →
   ck (F.dm tables plan c) (p,false,k)=some (match gr (M.fP tables p) (aP k 8) with | some q=>(q,true) | none=>(p,false)):=by
  intro c p hg n
  induction n with
  | zero=>
   intro k hk k1
   rw[ct,M.tZ _ k _ (by omega)]
   unfold F.dm
   simp only
   rw[decide_eq_false (by omega)]
   rfl
  | succ n ih=>
   intro k hk k1
   rw[ct,M.sG _ k _ (by omega)]
   have hw:wrap64 (k+1)=k+1:=aH (by omega) (by omega)
   have e:F.dm tables plan c (p,false,k)=some (match M.fP tables p k with | some q=>.inl (q,true,k+1) | none=>.inl (p,false,k+1)):=by
    unfold F.dm M.fP
    simp only
    rw[decide_eq_true (show k<=7 by omega),inner c k p hg k1 (by omega) _ 0 rfl (by decide),hw]
    cases gr (M.gD tables p k) (aP 0 (p.length:Int))<;>rfl
   rw[e]
   cases M.fP tables p k with
   | some q=>
    show ck _ (q,true,k+1)=_
    rw[ct]
    unfold F.dm
    cases decide (k+1<=(7:Int))<;>rfl
   | none=>exact ih (k+1) (by omega) (by omega)
 have last:∀(n:Nat) (k:Int) (p:List aa.D),(12-k).toNat=n->0<=k->M.Good tables p →
   ck (F.dj tables plan) (p,k)=some (.inl (M.iS tables n p))\/ck (F.dj tables plan) (p,k)=some (.inr (M.iS tables n p)):=by
  intro n
  induction n with
  | zero=>
   intro k p hk k1 hg
   left
   rw[ct]
   unfold F.dj
   simp only
   rw[decide_eq_false (by omega)]
   rfl
  | succ n ih=>
   intro k p hk k1 hg
   rw[ct]
   have hw:wrap64 (k+1)=k+1:=aH (by omega) (by omega)
   have hpos:=(M.cz hg.1).1
   unfold M.iS
   have e:F.dj tables plan (p,k)=some (match M.fy tables p with | some q=>.inl (q,k+1) | none=>.inr (.inr p)):=by
    unfold F.dj M.fy
    simp only
    rw[decide_eq_true (show k<12 by omega),decide_eq_true (show (0:Int)<(p.length:Int) by omega),outer k p hg _ 1 rfl (by decide),hw]
    cases gr (M.fP tables p) (aP 1 8)<;>rfl
   rw[e]
   cases hb:M.fy tables p with
   | none=>right;rfl
   | some q=>exact ih (k+1) q (by omega) (by omega) (M.lI hg hb)
 rcases last 12 0 _ rfl (by decide) hg with h | h<;>rw[h]<;>rfl
theorem F.tw (tables:LTb) (plan:LS) (h_tables:Sm (Ty.sl az) tables) (h_plan:Sm (Ty.sl aa) plan):F.kP tables plan=some (M.bV tables plan):=by
 unfold F.kP M.bV
 have ho:=Ej h_tables h_plan
 have hms:=DX h_tables h_plan
 rw[aV,ho]
 cases hp:M.aQ tables plan with
 | false=>rfl
 | true=>
  have hc:=Gt h_tables h_plan hp
  have hl:=(M.AM hp).1
  have h1:=(M.cz hp).1
  have hl2:(M.makes tables plan).1.length=plan.length:=by rw[<-hl,<-hc,List.length_map]
  have h6:=M.ja hp
  simp only[Bool.not_true,cond_false,cond_true]
  rw[hl2,aH (by omega) (by omega),ai (by omega),ai (by omega)]
  have e:nth (t:=.sl ah) (M.aX tables plan).1 ((plan.length:Int)-1)=(nth (t:=aF) (M.makes tables plan).1 ((plan.length:Int)-1)).1:=by
   rw[<-hc,iq (t:=.sl ah) (by omega) (by rw[List.length_map];omega),iq (t:=aF) (by omega) (by omega),List.getElem_map]
  rw[e]
  have hn:=(aL hms ((plan.length:Int)-1)).1
  rw[ai hn,aV,M.ia]
theorem F.uE (code:(List Int)) (h_code:Ln (Ty.sl (Ty.int .u8)) code) (p0:M.ay code):F.mD code=some true:=by
 unfold F.mD
 by_cases hc:(1048576:Int)<(code.length:Int)
 ·rw[decide_eq_true hc]
  rfl
 rw[decide_eq_false hc,cond_false]
 have hs:Sm (.sl (.int .u8)) code:=⟨by omega,fun _ _=>trivial⟩
 rw[ai hs,aV]
 obtain⟨d0,d1,d2,d3,d4,d5⟩:=M.oe code hs p0
 generalize M.de code=r at *
 obtain⟨ts,plan⟩:=r
 simp only at d0 d1 d2 d3 d4 d5 ⊢
 have st:Sm (.sl az) ts:=M.Hu d0 d2 (by decide)
 have sp:Sm (.sl aa) plan:=M.pT d3 d5 (by decide)
 have hbb:∀a:Bool,Ty.beq Ty.bool a a=true:=fun a=>by cases a<;>rfl
 simp only[aV,M.jQ]
 rw[ai st,ai sp]
 have sq:Sm (.sl aa) (M.cV ts plan):=M.Ec sp
 rw[ai sq,ai sq,M.lO]
 simp only[Bool.not_true,cond_false]
 cases hp:M.aQ ts plan with
 | false=>
  have e:M.cV ts plan=[]:=by
   unfold M.cV
   rw[hp]
   rfl
  rw[e]
  rfl
 | true=>
  obtain⟨g1,g2⟩:=M.BP sp hp
  have g3:=M.BC sp hp
  have g4:=(M.cz g1).1
  have g5:=M.zd (tables:=ts) (plan:=plan)
  rw[g1,g2,g3]
  generalize M.cV ts plan=q at *
  generalize M.bV ts plan=c at *
  have sr:Sm (.sl (.sl af)) (M.cB ts plan):=Eb st sp
  rw[decide_eq_false (show ¬(q.length:Int)=0 by omega),cond_false,decide_eq_true (rfl:(c.length:Int)=(c.length:Int)),Bool.not_true,cond_false,ai (show (c.length:Int)<=fh by unfold fh;omega)]
  have hloop:aO (F.dN code ts plan q (c.length:Int) (c.length:Int) c c) (aP 0 (c.length:Int)) ()=some (.inl ()):=by
   have:=(M.zb (t:=ah) (ρ:=Unit) (f:=F.dN code ts plan q (c.length:Int) (c.length:Int) c c) (fun _ _=>()) (fun _=>True) c (s:=()) trivial (fun i s i0 i1 _=>⟨by
    unfold F.dN
    rw[ai i1,(beq_iff (t:=ah) rfl _ _).2 rfl]
    rfl,trivial⟩)).1
   rw[this]
  rw[hloop,bp]
  simp only[show ((true:Bool)==true)=true from rfl,cond_true]
  rw[ai sr,ai sr,M.lO]
end Go.AE
