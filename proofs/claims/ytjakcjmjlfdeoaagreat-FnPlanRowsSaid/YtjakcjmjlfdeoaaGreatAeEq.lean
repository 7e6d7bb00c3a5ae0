/- What the functions compute is what is said. -/
import Derived.Test.YtjakcjmjlfdeoaaGreatAeF
import Derived.Test.YtjakcjmjlfdeoaaGreatAeInl
import Derived.Test.YtjakcjmjlfdeoaaGreatAeEqI
import Derived.Test.YtjakcjmjlfdeoaaGreatAeEqR
import Derived.Test.YtjakcjmjlfdeoaaGreatAeMV
import Derived.Test.YtjakcjmjlfdeoaaGreatAeMV
import Derived.Test.YtjakcjmjlfdeoaaGreatAeMV
import Derived.Test.YtjakcjmjlfdeoaaGreatAeEqI
namespace Go.AE
open Go Go.RowKit
set_option linter.unusedVariables false
set_option linter.unusedSimpArgs false
set_option maxHeartbeats 2000000
theorem F.wj (n:Int) (low:Int) (high:Int)  : F.oD n low high=some (M.inR n low high):=by
 unfold F.oD M.inR
 cases decide (low<=n)<;>rfl
theorem F.rj (c:ag.D)  : F.ny c=some (!M.dQ c):=by
 rfl
theorem F.jV (xs:LC) (h_xs:Sm (Ty.sl ag) xs):F.gn xs=some (M.idx (t:=ag) (fun e=>!M.dQ e) xs):=by
 exact iM (t:=ag) (p:=(fun e=>!M.dQ e)) (fun i h0 h1=>by simp only[F.cD,cn])
theorem F.iN (xs:LC) (h_xs:Sm (Ty.sl ag) xs):F.dA xs=some (List.any xs (fun e=>!M.dQ e)):=by
 unfold F.dA
 exact fL (t:=ag)
theorem F.tC (columns:LC) (h_columns:Sm (Ty.sl ag) columns):F.lN columns=some (M.bA columns):=by
 unfold F.lN M.bA
 rw[jx,show decide ((columns.length:Int)<=4)=decide (columns.length<=4) from decide_eq_decide.2 (by omega)]
 rw[List.all_eq_not_any_not]
theorem F.wK (s:ByteArray) (h_s:Sm Ty.str s):F.oS s=some (M.lower (bM s)):=by
 unfold F.oS M.lower
 rw[iR (fun n=>M.inR n 97 122) () (fun x hx=>by
  obtain⟨h0,h1⟩:=Fp hx
  simp only[F.ir,kZ,cn,aI (n:=x) (by omega) (by omega)])]
 cases (bM s).all fun n=>M.inR n 97 122<;>rfl
theorem F.vu (v:aa.D) (h_v:Sm aa v):F.mV v=some (M.aL v):=by
 unfold F.mV M.aL M.text
 simp only[jx]
 rw[show decide ((v.2.2.1.size:Int)<=6)=decide (v.2.2.1.size<=6) from decide_eq_decide.2 (by omega)]
 simp only[Ty.beq]
 cases h0:decide (v.1=(0:Int))
 ·generalize decide (v.1=(1:Int))=b1
  generalize decide (v.1=(2:Int))=b2
  generalize decide (v.1=(3:Int))=b3
  generalize decide (v.2.1=(0:Int))=c0
  generalize decide (v.2.2.1.size<=6)=c6
  generalize M.inR v.2.1 (-9999) 9999=c1
  generalize M.inR v.2.1 0 1=c3
  generalize decide (v.2.2.1=M.none_)=e0
  cases b1<;>cases b2<;>cases b3<;>cases c0<;>cases c6<;>cases c1<;>cases c3<;>cases e0<;>rfl
 ·simp only[cond_true,Bool.true_and,Bool.and_true]
theorem F.wX (v:aa.D) (h_v:Sm aa v):F.tq v=some (!M.aL v):=by
 rfl
theorem F.lX (xs:LV) (h_xs:Sm (Ty.sl aa) xs):F.iV xs=some (M.idx (t:=aa) (fun e=>!M.aL e) xs):=by
 exact iM (t:=aa) (p:=(fun e=>!M.aL e)) (fun i h0 h1=>by simp only[F.dh,cn])
theorem F.ki (xs:LV) (h_xs:Sm (Ty.sl aa) xs):F.ew xs=some (List.any xs (fun e=>!M.aL e)):=by
 unfold F.ew
 exact fL (t:=aa)
theorem F.zv (row:LV) (h_row:Sm (Ty.sl aa) row):F.rO row=some (M.nE row):=by
 unfold F.rO M.nE
 rw[jx,show decide ((row.length:Int)<=4)=decide (row.length<=4) from decide_eq_decide.2 (by omega)]
 rw[List.all_eq_not_any_not]
theorem F.wP (columns:LC) (row:LV) (h_columns:Sm (Ty.sl ag) columns) (h_row:Sm (Ty.sl aa) row):F.oH columns row=some (M.cr columns row):=by
 unfold F.oH M.cr
 cases M.bA columns
 ·rfl
 cases M.nE row
 ·rfl
 by_cases hl:row.length=columns.length
 ·rw[iR (M.sy columns row) () (fun i hi=>by
   obtain⟨h0,h1⟩:=jn.1 hi
   have h2:i<(columns.length:Int):=by omega
   simp only[F.iA,ah h2]
   unfold M.sy
   cases decide ((nth (t:=aa) row i).1=(nth (t:=ag) columns i).1)<;>cases decide ((nth (t:=aa) row i).1=(0:Int))<;>cases (nth (t:=ag) columns i).2.1<;>rfl)]
  simp only[hl,Bool.not_true,decide_true,Bool.true_and,cond_true,cond_false]
  cases (br 0 (columns.length:Int)).all (M.sy columns row)<;>rfl
 ·have h3:¬(row.length:Int)=(columns.length:Int):=by omega
  simp[hl,h3]
theorem F.vi (r:LV) (columns:LC) (h_r:Sm (Ty.sl aa) r) (h_columns:Sm (Ty.sl ag) columns):F.rL r columns=some (!M.cr columns r):=by
 rfl
theorem F.lI (xs:LLV) (k0:LC) (h_xs:Sm (Ty.sl (Ty.sl aa)) xs) (h_k0:Sm (Ty.sl ag) k0):F.iH xs k0=some (M.idx (t:=(Ty.sl aa)) (fun e=>!M.cr k0 e) xs):=by
 exact iM (t:=(Ty.sl aa)) (p:=(fun e=>!M.cr k0 e)) (fun i h0 h1=>by simp only[F.cS,cn])
theorem F.jO (xs:LLV) (k0:LC) (h_xs:Sm (Ty.sl (Ty.sl aa)) xs) (h_k0:Sm (Ty.sl ag) k0):F.dY xs k0=some (List.any xs (fun e=>!M.cr k0 e)):=by
 unfold F.dY
 exact fL (t:=(Ty.sl aa))
theorem F.yP (columns:LC) (rows:LLV) (h_columns:Sm (Ty.sl ag) columns) (h_rows:Sm (Ty.sl (Ty.sl aa)) rows):F.qi columns rows=some (M.gG columns rows):=by
 unfold F.qi M.gG
 rw[jx,List.all_eq_not_any_not]
theorem F.sC (t:ax.D) (h_t:Sm ax t):F.kq t=some (!M.de t):=by
 unfold F.kq M.de
 cases hc:M.bA t.1
 ·have:M.gG t.1 t.2.1=false:=by unfold M.gG;rw[hc];rfl
  rw[this]
  simp
 by_cases h:t.2.1.length<=6
 ·have h2:¬(6:Int)<(t.2.1.length:Int):=by omega
  simp[h2,h]
 ·have h2:(6:Int)<(t.2.1.length:Int):=by omega
  simp[h2,h]
theorem F.ko (xs:LTb) (h_xs:Sm (Ty.sl ax) xs):F.gW xs=some (M.idx (t:=ax) (fun e=>!M.de e) xs):=by
 exact iM (t:=ax) (p:=(fun e=>!M.de e)) (fun i h0 h1=>by simp only[F.cI,cn])
theorem F.ji (xs:LTb) (h_xs:Sm (Ty.sl ax) xs):F.dM xs=some (List.any xs (fun e=>!M.de e)):=by
 unfold F.dM
 exact fL (t:=ax)
theorem F.vt (tables:LTb) (h_tables:Sm (Ty.sl ax) tables):F.mZ tables=some (M.cA tables):=by
 unfold F.mZ M.cA
 rw[jx,show decide ((tables.length:Int)<=3)=decide (tables.length<=3) from decide_eq_decide.2 (by omega)]
 rw[List.all_eq_not_any_not]
theorem F.rS (p:aC.D) (h_p:Sm aC p):F.kj p=some (M.takes p):=by
 unfold F.kj M.takes
 generalize decide (p.1=(3:Int))=c3
 generalize decide (p.1=(4:Int))=c4
 generalize decide (p.1=(5:Int))=c5
 generalize decide (p.1=(6:Int))=c6
 generalize decide (p.1=(7:Int))=c7
 generalize decide (p.1=(8:Int))=c8
 cases c3<;>cases c4<;>cases c5<;>cases c6<;>cases c7<;>cases c8<;>rfl
theorem F.sA (p:aC.D) (columns:LC) (h_p:Sm aC p) (h_columns:Sm (Ty.sl ag) columns):F.kD p columns=some (M.kK p columns):=by
 unfold F.kD M.kK M.noV
 rw[fP _ h_columns.1]
 simp only[jx,show Ty.beq aa p.2.2.1 ((0:Int),(0:Int),(⟨#[]⟩:ByteArray),())=Ty.beq aa p.2.2.1 M.zeroV from rfl]
 generalize Ty.beq aa p.2.2.1 M.zeroV=nv
 by_cases e1:p.1=(1:Int)
 ·simp only[e1,decide_true,cond_true]
 by_cases e2:p.1=(2:Int)
 ·simp only[e2,decide_true,cond_true,Int.reduceEq,decide_false,cond_false]
 by_cases e4:p.1=(4:Int)
 ·simp only[e4,decide_true,cond_true,Int.reduceEq,decide_false,cond_false]
 by_cases e3:p.1=(3:Int)
 ·simp only[e3,decide_true,cond_true,Int.reduceEq,decide_false,cond_false]
  rfl
 by_cases e5:p.1=(5:Int)
 ·simp only[e5,decide_true,cond_true,Int.reduceEq,decide_false,cond_false]
  rfl
 by_cases e6:p.1=(6:Int)
 ·simp only[e6,decide_true,cond_true,Int.reduceEq,decide_false,cond_false]
  rfl
 by_cases e7:p.1=(7:Int)
 ·simp only[e7,decide_true,cond_true,Int.reduceEq,decide_false,cond_false]
  rfl
 by_cases e8:p.1=(8:Int)
 ·simp only[e8,decide_true,cond_true,Int.reduceEq,decide_false,cond_false]
  rfl
 simp only[e1,e2,e3,e4,e5,e6,e7,e8,decide_false,cond_false,DI e3 e4 e5 e6 e7 e8]
theorem F.pM (k:Int) (kind:Int)  : F.lB k kind=some (!decide (k=kind)):=by
 rfl
theorem F.jh (xs:(List Int)) (k0:Int) (h_xs:Sm (Ty.sl (Ty.int .i64)) xs):F.fG xs k0=some (M.idx (t:=(Ty.int .i64)) (fun e=>!decide (e=k0)) xs):=by
 exact iM (t:=(Ty.int .i64)) (p:=(fun e=>!decide (e=k0))) (fun i h0 h1=>by simp only[F.cq,cn])
theorem F.iF (xs:(List Int)) (k0:Int) (h_xs:Sm (Ty.sl (Ty.int .i64)) xs):F.dc xs k0=some (List.any xs (fun e=>!decide (e=k0))):=by
 unfold F.dc
 exact fL (t:=(Ty.int .i64))
theorem F.rA (kind:Int) (ins:(List Int)) (h_ins:Sm (Ty.sl (Ty.int .i64)) ins):F.jv kind ins=some (List.all ins (fun k=>decide (k=kind))):=by
 unfold F.jv
 rw[List.all_eq_not_any_not]
theorem F.tX (p:aC.D) (columns:LC) (inp:(List Int)) (h_p:Sm aC p) (h_columns:Sm (Ty.sl ag) columns) (h_inp:Sm (Ty.sl (Ty.int .i64)) inp) (p0:M.kK p columns=true) (p1:(inp.length:Int)=M.takes p):F.lG p columns inp=some (M.cE p columns inp):=by
 unfold F.lG M.cE
 obtain⟨_,hc⟩:=yN p0
 by_cases e1:p.1=(1:Int)
 ·simp only[e1,decide_true,cond_true]
 by_cases e2:p.1=(2:Int)
 ·obtain⟨c0,c1⟩:=hc e2
  simp only[e2,decide_true,cond_true,Int.reduceEq,decide_false,cond_false]
  rw[ah c0,ah c1]
 by_cases e4:p.1=(4:Int)
 ·rw[ff (.inr (.inl e4))] at p1
  simp only[e4,decide_true,cond_true,Int.reduceEq,decide_false,cond_false]
  repeat rw[ah (by omega)]
 cases decide (p.1=(3:Int))<;>cases decide (p.1=(8:Int))<;>simp[e1,e2,e4]
theorem F.uS (columns:LC) (e:LPt) (h_columns:Sm (Ty.sl ag) columns) (h_e:Sm (Ty.sl aC) e):F.ni columns e=some (M.cO columns e):=by
 unfold F.ni M.cO
 cases M.bA columns
 ·rfl
 by_cases hl:e.length<=12
 ·rw[decide_eq_false (show ¬(12:Int)<(e.length:Int) by omega),decide_eq_true hl]
  rw[rG e [] (by simp;omega)]
  cases M.jc columns e [] with
  | none=>rfl
  | some s=>
   match s with
   | []=>rfl
   | [a]=>exact ah (by simp)
   | a::b::l=>
    have:¬((a::b::l).length:Int)=1:=by simp;omega
    simp only[this,decide_false]
    rfl
 ·rw[decide_eq_true (show (12:Int)<(e.length:Int) by omega),decide_eq_false hl]
  rfl
theorem F.sB (s:aj.D) (h_s:Sm aj s):F.kJ s=some (M.bR s):=by
 unfold F.kJ M.bR M.two
 generalize decide (s.2.1=(0:Int))=a0
 generalize decide (s.2.2.1=(0:Int))=b0
 generalize decide (s.2.2.2.1=(0:Int))=n0
 generalize decide ((s.2.2.2.2.1.length:Int)=(0:Int))=e0
 generalize decide ((s.2.2.2.2.2.1.length:Int)=(0:Int))=l0
 by_cases h1:s.1=(1:Int)
 ·simp only[h1,Int.reduceEq,decide_true,decide_false]
  cases a0<;>cases b0<;>cases n0<;>cases e0<;>cases l0<;>rfl
 by_cases h2:s.1=(2:Int)
 ·simp only[h2,Int.reduceEq,decide_true,decide_false]
  cases a0<;>cases b0<;>cases n0<;>cases e0<;>cases l0<;>rfl
 by_cases h3:s.1=(3:Int)
 ·simp only[h3,Int.reduceEq,decide_true,decide_false]
  cases a0<;>cases b0<;>cases n0<;>cases e0<;>cases l0<;>rfl
 by_cases h4:s.1=(4:Int)
 ·simp only[h4,Int.reduceEq,decide_true,decide_false]
  cases a0<;>cases b0<;>cases n0<;>cases e0<;>cases l0<;>rfl
 by_cases h5:s.1=(5:Int)
 ·simp only[h5,Int.reduceEq,decide_true,decide_false]
  cases a0<;>cases b0<;>cases n0<;>cases e0<;>cases l0<;>rfl
 simp only[h1,h2,h3,h4,h5,decide_false]
 cases a0<;>cases b0<;>cases n0<;>cases e0<;>cases l0<;>rfl
theorem F.wF (n:Int) (p0:0<=n) (p1:n<=1099511627776):F.ou n=some ([]:List ag.D):=by
 unfold F.ou
 have e:wrap64 (n-wrap64 ((0:Int)-(0:Int)))=n:=by
  rw[show wrap64 ((0:Int)-(0:Int))=0 by decide,Int.sub_zero]
  exact aI (by omega) (by omega)
 rw[decide_eq_false (by omega),e]
 by_cases h:0<n
 ·rw[decide_eq_true h]
  simp only[cond_true,cond_false]
  rw[ah p0,ah (by unfold lim;omega)]
  rfl
 ·rw[decide_eq_false h]
  rfl
theorem F.uz (xss:LLC) (h_xss:Sm (Ty.sl (Ty.sl ag)) xss):F.lF xss=some (List.flatten xss):=by
 unfold F.lF
 exact M.si (t:=ag) h_xss (fun z v h0 h1=>by
  unfold F.ga
  rw[aI (n:=v+(z.length:Int)) (by omega) (by omega),decide_eq_false (by omega)]
  rfl) (fun z v h1=>by
  unfold F.gf
  rw[ah (by unfold lim;omega)])
theorem F.vA (xs:LC) (h_xs:Sm (Ty.sl ag) xs):F.rF xs=some xs:=by
 exact M.Ay (t:=ag)
theorem F.tE (s:aj.D) (tables:LTb) (ahead:(List aF.D)) (h_s:Sm aj s) (h_tables:Sm (Ty.sl ax) tables) (h_ahead:Sm (Ty.sl aF) ahead):F.gB s tables ahead=some (M.make s tables ahead):=by
 obtain⟨r,h1,_⟩:=tO h_s h_tables h_ahead
 unfold M.make
 rw[h1]
 rfl
theorem F.zI (tables:LTb) (plan:LS) (h_tables:Sm (Ty.sl ax) tables) (h_plan:Sm (Ty.sl aj) plan):F.lT tables plan=some (M.makes tables plan):=by
 obtain⟨r,h1,_⟩:=rE h_tables h_plan
 unfold M.makes
 rw[h1]
 rfl
theorem F.zd (tables:LTb) (plan:LS) (h_tables:Sm (Ty.sl ax) tables) (h_plan:Sm (Ty.sl aj) plan):F.qk tables plan=some (M.bL tables plan):=by
 unfold F.qk
 rw[aY]
 exact congrArg some (FX h_tables h_plan)
theorem F.wU (xs:LV) (h_xs:Sm (Ty.sl aa) xs):F.tR xs=some xs:=by
 exact M.Ay (t:=aa)
theorem F.va (rows:LLV) (h_rows:Sm (Ty.sl (Ty.sl aa)) rows):F.mI rows=some rows:=by
 unfold F.mI
 rw[zh (fun r=>r) (fun x hx s hs=>by
  have hl:=h_rows.1
  simp only[F.gK,aY,M.oO]
  rw[ah (by unfold lim;simp;omega)]),M.Fv,bp,M.jX]
theorem F.wI (xs:LV) (ys:LV) (h_xs:Sm (Ty.sl aa) xs) (h_ys:Sm (Ty.sl aa) ys):F.uj xs ys=some (decide (xs=ys)):=by
 exact BS (t:=aa) (fun i h0 h1 h2=>by simp only[F.ij,ah h2,kZ,cn,DB (t:=aa) rfl])
theorem F.xg (rows:LLV) (row:LV) (h_rows:Sm (Ty.sl (Ty.sl aa)) rows) (h_row:Sm (Ty.sl aa) row):F.oJ rows row=some (M.dx rows row:Int):=by
 unfold F.oJ M.dx
 have hl:=h_rows.1
 have key:∀(l:List (List aa.D)) (v:Int),0<=v->v+(l.length:Int)<=1048576->aN (F.fH rows row) l v=some (.inl (v+(l.countP (fun r=>decide (r=row)):Int))):=by
  intro l
  induction l with
  | nil=>intro v _ _;show some (Sum.inl v)=some (Sum.inl (v+0));rw[Int.add_zero]
  | cons x l ih=>
   intro v h0 hb
   simp only[List.length_cons] at hb
   rw[bN,List.countP_cons,show F.fH rows row x v=cond (decide (x=row)) (some (.inl (wrap64 (v+(1:Int))))) (some (.inl v)) from rfl]
   cases decide (x=row) with
   | true=>
    rw[cond_true,aI (n:=v+(1:Int)) (by omega) (by omega),bp,ih _ (by omega) (by omega)]
    congr 2
    simp
    omega
   | false=>
    rw[cond_false,bp,ih _ h0 (by omega)]
    congr 2
 rw[key rows 0 (by omega) (by omega),bp,Int.zero_add]
theorem F.wG (rows:LLV) (row:LV) (h_rows:Sm (Ty.sl (Ty.sl aa)) rows) (h_row:Sm (Ty.sl aa) row):F.tB rows row=some (decide (0<(M.dx rows row:Int))):=by
 rfl
theorem F.vo (rows:LLV) (h_rows:Sm (Ty.sl (Ty.sl aa)) rows):F.nh rows=some (M.cB rows):=by
 unfold F.nh M.cB
 have hfold:=rM (f:=F.fh rows) rows h_rows (fun z v hz hv=>by
  unfold F.fh M.dZ
  have hl:=h_rows.1
  rw[ah hv.1]
  rw[show (!decide ((0:Int)<(M.dx v z:Int)))=decide ((M.dx v z:Int)=(0:Int)) by
   generalize M.dx v z=n
   by_cases h:n=0
   ·rw[decide_eq_false (by omega),decide_eq_true (by omega)];rfl
   ·rw[decide_eq_true (by omega),decide_eq_false (by omega)];rfl]
  cases decide ((M.dx v z:Int)=(0:Int)) with
  | false=>rfl
  | true=>
   simp only[cond_true]
   rw[ah (by have:=hv.2;unfold lim;simp;omega)])
 rw[hfold.1,bp,ah hfold.2,aY,M.jX]
theorem F.wD (n:Int) (p0:0<=n) (p1:n<=1099511627776):F.nU n=some ([]:List (Ty.sl aa).D):=by
 unfold F.nU
 have e:wrap64 (n-wrap64 ((0:Int)-(0:Int)))=n:=by
  rw[show wrap64 ((0:Int)-(0:Int))=0 by decide,Int.sub_zero]
  exact aI (by omega) (by omega)
 rw[decide_eq_false (by omega),e]
 by_cases h:0<n
 ·rw[decide_eq_true h]
  simp only[cond_true,cond_false]
  rw[ah p0,ah (by unfold lim;omega)]
  rfl
 ·rw[decide_eq_false h]
  rfl
theorem F.tg (xss:(List LLV)) (h_xss:Sm (Ty.sl (Ty.sl (Ty.sl aa))) xss):F.lQ xss=some (List.flatten xss):=by
 unfold F.lQ
 exact M.si (t:=(Ty.sl aa)) h_xss (fun z v h0 h1=>by
  unfold F.fW
  rw[aI (n:=v+(z.length:Int)) (by omega) (by omega),decide_eq_false (by omega)]
  rfl) (fun z v h1=>by
  unfold F.fZ
  rw[ah (by unfold lim;omega)])
theorem F.ya (n:Int) (p0:0<=n) (p1:n<=1099511627776):F.pU n=some ([]:List aa.D):=by
 unfold F.pU
 have e:wrap64 (n-wrap64 ((0:Int)-(0:Int)))=n:=by
  rw[show wrap64 ((0:Int)-(0:Int))=0 by decide,Int.sub_zero]
  exact aI (by omega) (by omega)
 rw[decide_eq_false (by omega),e]
 by_cases h:0<n
 ·rw[decide_eq_true h]
  simp only[cond_true,cond_false]
  rw[ah p0,ah (by unfold lim;omega)]
  rfl
 ·rw[decide_eq_false h]
  rfl
theorem F.uQ (xss:LLV) (h_xss:Sm (Ty.sl (Ty.sl aa)) xss):F.mH xss=some (List.flatten xss):=by
 unfold F.mH
 exact M.si (t:=aa) h_xss (fun z v h0 h1=>by
  unfold F.gP
  rw[aI (n:=v+(z.length:Int)) (by omega) (by omega),decide_eq_false (by omega)]
  rfl) (fun z v h1=>by
  unfold F.gL
  rw[ah (by unfold lim;omega)])
theorem F.yW (a:LV) (b:LV) (h_a:Sm (Ty.sl aa) a) (h_b:Sm (Ty.sl aa) b) (p0:a.length+b.length<=1048576):F.qq a b=some (a++b):=by
 unfold F.qq
 have h1:=h_a.1
 have h2:=h_b.1
 have hs:Sm (.sl aa) (a++b):=⟨by rw[List.length_append];omega,fun x hx=>by
  rcases List.mem_append.1 hx with h | h
  ·exact h_a.2 x h
  ·exact h_b.2 x h⟩
 rw[ah (show Sm (.sl (.sl aa)) [a,b] from⟨by simp,fun x hx=>by
  rcases List.mem_cons.1 hx with rfl | hx
  ·exact h_a
  ·cases List.mem_singleton.1 hx
   exact h_b⟩),aY,List.flatten_cons,List.flatten_cons,List.flatten_nil,List.append_nil,ah hs,aY,M.jX]
theorem F.wJ (truth:Int)  : F.oA truth=some (M.valueOf truth):=by
 unfold F.oA M.valueOf
 cases M.inR truth 0 1<;>rfl
theorem F.zy (vals:(List Int)) (h_vals:Sm (Ty.sl (Ty.int .i64)) vals):F.sK vals=some (M.orI vals):=by
 unfold F.sK
 suffices h:∀(A B:List Int),bw (aN (F.hD A) B ()) (fun v0:Unit=>some (0:Int)) (fun q0:Int=>some q0)=some (M.orI B) from h vals vals
 intro A B
 induction B with
 | nil=>rfl
 | cons x l ih=>
  rw[bN]
  simp only[F.hD,M.orI]
  by_cases hx:x=0
  ·simp only[hx,decide_true,Bool.not_true,cond_false,cond_true,bp]
   exact ih
  ·simp[hx]
theorem F.vn (x:Int)  : F.mT x=some false:=by
 unfold F.mT
 simp
theorem F.sM (x:Int) (y:Int)  : F.kF x y=some (M.tG x y):=by
 unfold F.kF M.tG
 simp only[cond_false,cn]
theorem F.rq (x:ByteArray) (h_x:Sm Ty.str x):F.jl x=some false:=by
 unfold F.jl
 simp
theorem F.pO (x:ByteArray) (y:ByteArray) (h_x:Sm Ty.str x) (h_y:Sm Ty.str y):F.iD x y=some (M.sX x y):=by
 unfold F.iD M.sX
 simp only[cond_false,cn]
theorem F.ru (v:aa.D) (w:aa.D) (h_v:Sm aa v) (h_w:Sm aa w):F.jz v w=some (M.order v w):=by
 unfold F.jz
 rw[ah ⟨by simp,fun _ _=>trivial⟩]
 rfl
theorem F.wO (b:Bool)  : F.og b=some (M.bool b):=by
 unfold F.og M.bool
 rw[cn]
theorem F.wA (kind:Int) (a:aa.D) (b:aa.D) (h_a:Sm aa a) (h_b:Sm aa b):F.ot kind a b=some (M.compare kind a b):=by
 unfold F.ot M.compare M.yH
 cases hk:M.inR kind 1 4
 ·rfl
 cases M.aL a
 ·rfl
 cases M.aL b
 ·rfl
 have h4:decide (kind=1)=false->decide (kind=2)=false->decide (kind=3)=false->decide (kind=4)=true:=by
  unfold M.inR at hk
  simp at hk ⊢
  omega
 cases decide (a.1=(0:Int))<;>cases decide (b.1=(0:Int))<;>cases decide (a.1=b.1)<;>cases h1:decide (kind=1)<;>cases h2:decide (kind=2)<;>cases h3:decide (kind=3)<;>(try rw[h4 h1 h2 h3])<;>cases decide (M.order a b=0)<;>cases decide (M.order a b<0)<;>rfl
theorem F.wH (n:Int)  : F.tW n=some (M.inR n 0 2):=by
 rfl
theorem F.Bo (a:Int) (b:Int) (alone:Int) (p0:0<=alone/\alone<=1):F.vc a b alone=some (M.fold a b alone):=by
 unfold F.vc M.fold
 rw[aI (n:=1-alone) (by omega) (by omega)]
 cases M.inR a 0 2
 ·rfl
 cases M.inR b 0 2
 ·rfl
 cases decide (a=alone)<;>cases decide (b=alone)<;>cases decide (a=2)<;>cases decide (b=2)<;>rfl
theorem F.zo (a:Int) (b:Int)  : F.sg a b=some (M.qx a b):=by
 unfold F.sg M.qx
 rw[ah (by decide)]
theorem F.xj (v:aa.D) (h_v:Sm aa v):F.nX v=some (M.bW v):=by
 unfold F.nX M.bW
 cases M.aL v<;>simp only[Bool.not_true,Bool.not_false,cond_true,cond_false,cn]
theorem F.AB (a:Int) (b:Int)  : F.uC a b=some (M.xY a b):=by
 unfold F.uC M.xY
 rw[ah (by decide)]
theorem F.zQ (a:Int)  : F.sq a=some (M.qu a):=by
 unfold F.sq M.qu
 simp only[cn]
theorem F.sk (p:aC.D) (row:LV) (inp:LV) (h_p:Sm aC p) (h_row:Sm (Ty.sl aa) row) (h_inp:Sm (Ty.sl aa) inp) (p0:(inp.length:Int)=M.takes p) (p1:M.lZ p row.length) (p2:1<=p.1/\p.1<=8):F.kA p row inp=some (M.gR p row inp):=by
 unfold F.kA M.gR
 have hz:(((0:Int),(0:Int),(⟨#[]⟩:ByteArray),()):aa.D)=M.zeroV:=rfl
 by_cases e1:p.1=(1:Int)
 ·simp only[e1,decide_true,cond_true]
 by_cases e2:p.1=(2:Int)
 ·obtain⟨c0,c1⟩:=p1 e2
  simp only[e2,decide_true,cond_true,Int.reduceEq,decide_false,cond_false]
  rw[ah c0,ah c1]
 by_cases e3:p.1=(3:Int)
 ·rw[ff (.inl e3)] at p0
  simp only[e3,decide_true,cond_true,Int.reduceEq,decide_false,cond_false]
  repeat rw[ah (by omega)]
  generalize nth (t:=aa) inp 0=a
  generalize nth (t:=aa) inp 1=b
  unfold M.sum
  have hv:M.aL ((1:Int),wrap64 (a.2.1+b.2.1),(⟨#[]⟩:ByteArray),())=M.inR (wrap64 (a.2.1+b.2.1)) (-9999) 9999:=by unfold M.aL;simp
  rw[hv]
  cases decide (a.1=(0:Int))<;>cases decide (b.1=(0:Int))<;>cases M.inR (wrap64 (a.2.1+b.2.1)) (-9999) 9999<;>rfl
 by_cases e4:p.1=(4:Int)
 ·rw[ff (.inr (.inl e4))] at p0
  simp only[e4,decide_true,cond_true,Int.reduceEq,decide_false,cond_false,aY]
  repeat rw[ah (by omega)]
 by_cases e5:p.1=(5:Int)
 ·rw[ff (.inr (.inr (.inl e5)))] at p0
  simp only[e5,decide_true,cond_true,Int.reduceEq,decide_false,cond_false,aY]
  repeat rw[ah (by omega)]
 by_cases e6:p.1=(6:Int)
 ·rw[ff (.inr (.inr (.inr e6)))] at p0
  simp only[e6,decide_true,cond_true,Int.reduceEq,decide_false,cond_false,aY]
  repeat rw[ah (by omega)]
 by_cases e7:p.1=(7:Int)
 ·rw[kY (.inl e7)] at p0
  simp only[e7,decide_true,cond_true,Int.reduceEq,decide_false,cond_false,aY]
  repeat rw[ah (by omega)]
 ·simp only[e1,e2,e3,e4,e5,e6,e7,decide_false,cond_false,aY]
  have e8:p.1=(8:Int):=by
   rcases DW p2 with h | h | h | h | h | h | h | h<;>first | exact h | exact absurd h (by assumption)
  rw[kY (.inr e8)] at p0
  rw[ah (by omega)]
theorem F.tM (row:LV) (e:LPt) (h_row:Sm (Ty.sl aa) row) (h_e:Sm (Ty.sl aC) e) (p0:M.cG row.length e):F.lU row e=some (M.fo row e):=by
 unfold F.lU M.fo
 obtain⟨h1,h2⟩:=yK (f:=F.dL row e) h_row (fun p st hp hs hl h1 hk hc=>zx p st hp hs hl h1 hk hc) e [] h_e.2 (iB aa) (by simp;have:=p0.1;omega) p0.2
 rw[h1,bp,ah (by omega)]
theorem F.uy (row:LV) (e:LPt) (h_row:Sm (Ty.sl aa) row) (h_e:Sm (Ty.sl aC) e) (p0:M.cG row.length e):F.qv row e=some (M.holds row e):=by
 rfl
theorem F.zJ (row:LV) (list:(List Int)) (h_row:Sm (Ty.sl aa) row) (h_list:Sm (Ty.sl (Ty.int .i64)) list) (p0:M.rH row list):F.rV row list=some (M.taken row list):=by
 unfold F.rV
 rw[zh (fun i=>nth (t:=aa) row i) (fun x hx s hs=>by
  have hl:=h_list.1
  obtain⟨h0,h1⟩:=p0 x hx
  simp only[F.jB]
  rw[ah h0,ah h1,ah (by unfold lim;simp;omega)])]
 show af (Sm (.sl aa) (M.taken row list)) (aK (M.taken row list) fun r:List aa.D=>some (aB r (some ((0:Int),(r.length:Int)))))=_
 rw[ah (M.Fl h_row h_list)]
 simp only[aY,M.oO]
theorem F.th (s:aj.D) (tables:LTb) (ahead:(List LLV)) (h_s:Sm aj s) (h_tables:Sm (Ty.sl ax) tables) (h_ahead:Sm (Ty.sl (Ty.sl (Ty.sl aa))) ahead) (p0:M.jC tables ahead s):F.lE s tables ahead=some (M.ck tables ahead s):=by
 obtain⟨r1,rin,rfew,r2,r3,r4⟩:=p0
 unfold F.lE M.ck
 by_cases h1:s.1=(1:Int)
 ·obtain⟨n0,n1⟩:=r1 h1
  have hsm:=(aJ h_tables s.2.2.2.1).2.1
  have hl:=hsm.1
  simp only[h1,decide_true,cond_true]
  rw[ah n0,ah n1]
 obtain⟨⟨a0,a1⟩,⟨b0,b1⟩⟩:=rin h1
 obtain⟨fa,fb⟩:=rfew h1
 have ha:=fa.1
 have hb:=fb.1
 have sa:Sm (.sl (.sl aa)) (nth (t:=.sl (.sl aa)) ahead s.2.1):=aJ h_ahead _
 have sb:Sm (.sl (.sl aa)) (nth (t:=.sl (.sl aa)) ahead s.2.2.1):=aJ h_ahead _
 by_cases h2:s.1=(2:Int)
 ·simp only[h2,decide_true,cond_true,Int.reduceEq,decide_false,cond_false]
  rw[ah a0,ah a1,uB (fun x:List aa.D=>cond (M.holds x s.2.2.2.2.1) [x] []) (nth (t:=.sl (.sl aa)) ahead s.2.1) 1 (fun x _=>by cases M.holds x s.2.2.2.2.1<;>simp) [] (fun x hx v hv=>by
   unfold F.fS
   rw[ah (r2 h2 _ hx)]
   cases M.holds x s.2.2.2.2.1
   ·rw[cond_false,cond_false,List.append_nil]
   ·rw[cond_true,cond_true,ah (by simp at hv;unfold lim;simp;omega)]),qg]
  rfl
 by_cases h3:s.1=(3:Int)
 ·simp only[h3,decide_true,cond_true,Int.reduceEq,decide_false,cond_false]
  rw[ah a0,ah a1,uB (fun x:List aa.D=>[M.taken x s.2.2.2.2.2.1]) (nth (t:=.sl (.sl aa)) ahead s.2.1) 1 (fun x _=>Nat.le_refl _) [] (fun x hx v hv=>by
   unfold F.fV
   rw[ah (r3 h3 _ hx),aY,ah (by simp at hv;unfold lim;simp;omega)]),xU]
  rfl
 by_cases h4:s.1=(4:Int)
 ·simp only[h4,decide_true,cond_true,Int.reduceEq,decide_false,cond_false]
  rw[ah a0,ah a1,CX (t:=.sl aa) (fun r=>M.joined s.2.2.2.2.1 r (nth (t:=.sl (.sl aa)) ahead s.2.2.1)) (nth (t:=.sl (.sl aa)) ahead s.2.1) ((nth (t:=.sl (.sl aa)) ahead s.2.2.1):List (List aa.D)).length (fun r _=>M.sL _ _ _) [] (fun i v i0 i1 hv=>by
   have hv9:v.length<=300 * 300:=Nat.le_trans (by simpa using hv) (Nat.mul_le_mul ha hb)
   have hrm:=hU (t:=.sl aa) i0 i1
   unfold F.gi
   rw[ah b0,ah b1,uB (fun q:List aa.D=>cond (M.holds (nth (t:=.sl aa) (nth (t:=.sl (.sl aa)) ahead s.2.1) i++q:List aa.D) s.2.2.2.2.1) [(nth (t:=.sl aa) (nth (t:=.sl (.sl aa)) ahead s.2.1) i++q:List aa.D)] []) (nth (t:=.sl (.sl aa)) ahead s.2.2.1) 1 (fun q _=>by cases M.holds (nth (t:=.sl aa) (nth (t:=.sl (.sl aa)) ahead s.2.1) i++q:List aa.D) s.2.2.2.2.1<;>simp) v (fun q hqm w hw=>by
    have l1:=fa.2 _ hrm
    have l2:=fb.2 _ hqm
    unfold F.fT
    rw[ah (show (nth (t:=.sl aa) (nth (t:=.sl (.sl aa)) ahead s.2.1) i:List aa.D).length+q.length<=1048576 by omega),aY]
    simp only[M.oO]
    rw[ah (show Sm (.sl aa) (nth (t:=.sl aa) (nth (t:=.sl (.sl aa)) ahead s.2.1) i++q) from⟨by rw[List.length_append];omega,fun x hx=>(List.mem_append.1 hx).elim ((sa.2 _ hrm).2 x) ((sb.2 _ hqm).2 x)⟩),ah (r4 h4 _ hrm _ hqm)]
    cases M.holds (nth (t:=.sl aa) (nth (t:=.sl (.sl aa)) ahead s.2.1) i++q:List aa.D) s.2.2.2.2.1
    ·rw[cond_false,cond_false,List.append_nil]
    ·rw[cond_true,cond_true,ah (by simp at hw;unfold lim;simp;omega)]),qI]
   rfl)]
  rfl
 by_cases h5:s.1=(5:Int)
 ·simp only[h5,decide_true,cond_true,Int.reduceEq,decide_false,cond_false]
  rw[ah a0,ah a1,ah b0,ah b1,ah (show Sm (.sl (.sl (.sl aa))) [(nth (t:=.sl (.sl aa)) ahead s.2.1),(nth (t:=.sl (.sl aa)) ahead s.2.2.1)] from⟨by simp,fun x hx=>by
   rcases List.mem_cons.1 hx with rfl | hx
   ·exact sa
   ·cases List.mem_singleton.1 hx
    exact sb⟩)]
  simp only[aY,List.flatten_cons,List.flatten_nil,List.append_nil,M.oO,M.jX]
 by_cases h6:s.1=(6:Int)
 ·simp only[h6,decide_true,cond_true,Int.reduceEq,decide_false,cond_false]
  rw[ah a0,ah a1]
  simp only[aY,M.oO,M.jX]
 simp only[h1,h2,h3,h4,h5,h6,decide_false,cond_false]
theorem F.uJ (tables:LTb) (plan:LS) (h_tables:Sm (Ty.sl ax) tables) (h_plan:Sm (Ty.sl aj) plan) (p0:M.bL tables plan=true):F.mW tables plan=some (M.bE tables plan):=by
 unfold F.mW M.bE
 rw[p0,cond_true]
 have hl:=h_plan.1
 have hpos:=(M.vI p0).1
 obtain⟨h1,h2⟩:=Au (f:=F.fe tables plan) h_tables h_plan p0 (fun z v h1 h2 h3=>by
  unfold F.fe M.eg
  rw[ah h1,ah h2,aY,ah (by unfold lim;simp;omega)])
 obtain⟨st,_,hR⟩:=tv h_tables h_plan p0
 have hsm:=Bk hR (by show (plan.foldl (M.eg tables) []).length<=1048576;rw[h2];exact hl)
 rw[h1,bp,h2,fP _ hl,ah (by omega),ah (by omega),show plan.foldl (M.eg tables) []=M.cT tables plan from rfl,ah (aJ hsm _),aY,M.jX]
theorem F.uK (tables:LTb) (plan:LS) (h_tables:Sm (Ty.sl ax) tables) (h_plan:Sm (Ty.sl aj) plan):F.mK tables plan=some (M.bE tables plan):=by
 unfold F.mK
 cases hp:M.bL tables plan
 ·unfold M.bE
  rw[hp]
  rfl
 ·simp only[Bool.not_true,cond_false,aY,M.jX]
theorem F.wR (v:aa.D) (h_v:Sm aa v):F.tV v=some (M.aL v):=by
 rfl
theorem F.zL   : F.rT  = some true:=by
 unfold F.rT
 rw[show M.aL ((1:Int),((3:Int),((⟨#[]⟩:ByteArray),())))=true from rfl,show M.aL ((9:Int),((0:Int),((⟨#[]⟩:ByteArray),())))=false from rfl]
 rfl
theorem F.wq (a:LV) (b:LV) (h_a:Sm (Ty.sl aa) a) (h_b:Sm (Ty.sl aa) b) (p0:a=b):F.oR a b=some true:=by
 subst p0
 unfold F.oR
 exact M.eq_eq (fun i h0 h1=>by
  unfold F.iq
  rw[ah h1,(beq_iff (t:=aa) rfl _ _).2 rfl]
  rfl)
theorem F.uL (a:LLV) (b:LLV) (h_a:Sm (Ty.sl (Ty.sl aa)) a) (h_b:Sm (Ty.sl (Ty.sl aa)) b) (p0:a=b):F.mJ a b=some true:=by
 subst p0
 unfold F.mJ
 exact M.eq_eq (fun i h0 h1=>by
  unfold F.gO
  rw[ah h1]
  simp only[decide_true,Bool.not_true,show ((false:Bool)==false)=true from rfl,cond_true,cond_false,eq_self,M.vL])
theorem F.uo (b:(List Int)) (p:Int) (n:Int) (h_b:Sm (Ty.sl (Ty.int .u8)) b) (p0:M.aq b) (p1:0<=p) (p2:p<=1000000000000000):ok (F.nA b p n) (fun r=>0<=r.1/\(1<=n->r.1<n)/\(n<1->r.1=0)/\r.2=p+1):=by
 unfold F.nA
 have hw:wrap64 (p+1)=p+1:=aI (by omega) (by omega)
 have hw2:wrap64 (p+1-1)=p:=by rw[show p+1-1=p by omega];exact aI (by omega) (by omega)
 simp only[hw,hw2]
 refine Ik (fun c0=>?_) (fun c0=>?_)
 ·refine okD (fun c1=>?_) (fun c1=>?_)
  ·exact okS ⟨by dsimp only;omega,fun h=>by dsimp only;omega,fun h=>rfl,rfl⟩
  ·have hl:1<=(b.length:Int):=by omega
   refine okD (fun c2=>?_) (fun c2=>?_)
   ·refine okG (okG (okG (okS ?_)))
    have:=M.Ew (M.uN p0 p) (n:=n) (by omega)
    exact⟨this.1,fun _=>this.2,fun h=>by omega,rfl⟩
   ·obtain⟨t0,t1⟩:=M.qN p1 hl
    have h7:wrap64 (wrap64 (p * 7)+3)=p * 7+3:=by rw[aI (n:=p * 7) (by omega) (by omega),aI (by omega) (by omega)]
    obtain⟨t2,t3⟩:=M.qN (a:=p * 7+3) (by omega) hl
    rw[h7]
    refine okG (okG (okG (okG (okG (okG (okS ?_))))))
    have:=M.FJ (M.uN p0 (p.tmod (b.length:Int))) (M.uN p0 ((p * 7+3).tmod (b.length:Int))) p1 p2 (M.DM p1 hl) (n:=n) (by omega)
    exact⟨this.1,fun _=>this.2,fun h=>by omega,rfl⟩
 ·exact okS ⟨by dsimp only;omega,fun h=>by omega,fun h=>rfl,rfl⟩
theorem F.Bi (b:(List Int)) (p:Int) (n:Int) (h_b:Sm (Ty.sl (Ty.int .u8)) b) (p0:M.aq b) (p1:0<=p) (p2:p<=1000000000000000):F.nA b p n=some (M.pick b p n):=gV (F.uo b p n h_b p0 p1 p2)
theorem M.Et (b:(List Int)) (p:Int) (n:Int) (h_b:Sm (Ty.sl (Ty.int .u8)) b) (p0:M.aq b) (p1:0<=p) (p2:p<=1000000000000000):0<=(M.pick b p n).1/\(1<=n->(M.pick b p n).1<n)/\(n<1->(M.pick b p n).1=0)/\(M.pick b p n).2=p+1:=gU (F.uo b p n h_b p0 p1 p2)
theorem aA {α:Type} {K:α->Prop} {f:Int×Int->Option α} {b:(List Int)} {p:Int} {n:Int} (k:∀r,(0<=r.1)->(1<=n->r.1<n)->(n<1->r.1=0)->(r.2=p+1)->ok (f r) K) (h_b:Sm (Ty.sl (Ty.int .u8)) b:=by exact au) (p0:M.aq b:=by exact au) (p1:0<=p:=by exact au) (p2:p<=1000000000000000:=by exact au):ok (aK (M.pick b p n) f) K:=by
 have h:=M.Et b p n h_b p0 p1 p2
 obtain⟨h0,h1,h2,h3⟩:=h
 exact k _ h0 h1 h2 h3
theorem F.vC (b:(List Int)) (p:Int) (n:Int) (h_b:Sm (Ty.sl (Ty.int .u8)) b) (p0:M.aq b) (p1:0<=p) (p2:p<=999000000000000):ok (F.qm b p n) (fun r=>(n<1->r.1=false)/\p<=r.2/\r.2<=p+1):=by
  unfold F.qm
  refine EY (fun c_0=>?_) (fun c_0=>?_)
  ·refine okG ?_
   refine aA fun r1 h_1_5_0 h_1_5_1 h_1_5_2 h_1_5_3=>?_
   exact rz
  ·exact rz
theorem F.BR (b:(List Int)) (p:Int) (n:Int) (h_b:Sm (Ty.sl (Ty.int .u8)) b) (p0:M.aq b) (p1:0<=p) (p2:p<=999000000000000):F.qm b p n=some (M.odd b p n):=gV (F.vC b p n h_b p0 p1 p2)
theorem M.FL (b:(List Int)) (p:Int) (n:Int) (h_b:Sm (Ty.sl (Ty.int .u8)) b) (p0:M.aq b) (p1:0<=p) (p2:p<=999000000000000):(n<1->(M.odd b p n).1=false)/\p<=(M.odd b p n).2/\(M.odd b p n).2<=p+1:=gU (F.vC b p n h_b p0 p1 p2)
theorem jf {α:Type} {K:α->Prop} {f:Bool×Int->Option α} {b:(List Int)} {p:Int} {n:Int} (k:∀r,(n<1->r.1=false)->(p<=r.2)->(r.2<=p+1)->ok (f r) K) (h_b:Sm (Ty.sl (Ty.int .u8)) b:=by exact au) (p0:M.aq b:=by exact au) (p1:0<=p:=by exact au) (p2:p<=999000000000000:=by exact au):ok (aK (M.odd b p n) f) K:=by
 have h:=M.FL b p n h_b p0 p1 p2
 obtain⟨h0,h1,h2⟩:=h
 exact k _ h0 h1 h2
theorem F.lO (b:(List Int)) (p:Int) (n:Int) (h_b:Sm (Ty.sl (Ty.int .u8)) b) (p0:M.aq b) (p1:0<=p) (p2:p<=998000000000000):ok (F.fM b p n) (fun r=>1<=r.1.length/\r.1.length<=6/\p<=r.2/\r.2<=p+20):=by
  unfold F.fM
  refine okG ?_
  refine aA fun r1 h_2_1_0 h_2_1_1 h_2_1_2 h_2_1_3=>?_
  refine okB (A:=fun e0=>p<=e0.1/\e0.1<=p+10/\1<=e0.2.length/\e0.2.length<=3) ?_ (fun e0 h_e0=>?_)
  ·refine okW (fun(k:Nat) (v0:Int×Int×LC)=>0<=v0.1/\v0.1<=(k:Int)/\(v0.2.2.length:Int)+v0.1<=3/\1<=(v0.2.2.length:Int)+v0.1/\p<=v0.2.1/\v0.2.1+2 * v0.1<=p+10) (fun k v0 hI=>?_) (3:Nat) _ ⟨au,au,au,au,au,au⟩
   obtain⟨i_0,i_1,i_2,i_3,i_4,i_5⟩:=hI
   unfold F.fz
   refine okD (fun c_0=>?_) (fun c_0=>?_)
   ·refine okG ?_
    refine okG ?_
    refine okG ?_
    refine aA fun r2 h_5_3_0 h_5_3_1 h_5_3_2 h_5_3_3=>?_
    refine okG ?_
    refine okG ?_
    refine okG ?_
    refine okG ?_
    refine aA fun r3 h_5_7_0 h_5_7_1 h_5_7_2 h_5_7_3=>?_
    refine okG ?_
    exact fq ⟨k-1,by omega,au,au,au,au,au,au⟩
   ·exact dm ⟨au,au,au,au⟩
  ·obtain⟨e0_0,e0_1,e0_2,e0_3⟩:=h_e0
   refine okG ?_
   refine okG ?_
   refine jf fun r4 h_6_2_0 h_6_2_1 h_6_2_2=>?_
   refine okC (fun c_1=>?_) (fun c_1=>?_)
   ·refine okG ?_
    refine okG ?_
    refine aA fun r5 h_7_2_0 h_7_2_1 h_7_2_2 h_7_2_3=>?_
    refine okG ?_
    exact Il
   ·exact Il
theorem F.rQ (b:(List Int)) (p:Int) (n:Int) (h_b:Sm (Ty.sl (Ty.int .u8)) b) (p0:M.aq b) (p1:0<=p) (p2:p<=998000000000000):F.fM b p n=some (M.fD b p n):=gV (F.lO b p n h_b p0 p1 p2)
theorem M.wM (b:(List Int)) (p:Int) (n:Int) (h_b:Sm (Ty.sl (Ty.int .u8)) b) (p0:M.aq b) (p1:0<=p) (p2:p<=998000000000000):1<=(M.fD b p n).1.length/\(M.fD b p n).1.length<=6/\p<=(M.fD b p n).2/\(M.fD b p n).2<=p+20:=gU (F.lO b p n h_b p0 p1 p2)
theorem rB {α:Type} {K:α->Prop} {f:LC×Int->Option α} {b:(List Int)} {p:Int} {n:Int} (k:∀r,(1<=r.1.length)->(r.1.length<=6)->(p<=r.2)->(r.2<=p+20)->ok (f r) K) (h_b:Sm (Ty.sl (Ty.int .u8)) b:=by exact au) (p0:M.aq b:=by exact au) (p1:0<=p:=by exact au) (p2:p<=998000000000000:=by exact au):ok (aK (M.fD b p n) f) K:=by
 have h:=M.wM b p n h_b p0 p1 p2
 obtain⟨h0,h1,h2,h3⟩:=h
 exact k _ h0 h1 h2 h3
theorem F.pz (b:(List Int)) (p:Int) (c:ag.D) (h_b:Sm (Ty.sl (Ty.int .u8)) b) (p0:M.aq b) (p1:0<=p) (p2:p<=998000000000000):ok (F.iO b p c) (fun r=>r.1.2.2.1.size<=20/\p<=r.2/\r.2<=p+3):=by
  unfold F.iO
  refine okC (fun c_0=>?_) (fun c_0=>?_)
  ·refine okG ?_
   refine aA fun r1 h_1_4_0 h_1_4_1 h_1_4_2 h_1_4_3=>?_
   refine okD (fun c_1=>?_) (fun c_1=>?_)
   ·exact rz
   ·refine okD (fun c_2=>?_) (fun c_2=>?_)
    ·refine okG ?_
     refine okG ?_
     refine aA fun r2 h_5_1_0 h_5_1_1 h_5_1_2 h_5_1_3=>?_
     exact rz
    ·refine okD (fun c_3=>?_) (fun c_3=>?_)
     ·refine okG ?_
      refine okG ?_
      refine aA fun r3 h_7_2_0 h_7_2_1 h_7_2_2 h_7_2_3=>?_
      refine okG ?_
      refine okG ?_
      exact rz
     ·refine okG ?_
      refine okG ?_
      refine aA fun r4 h_8_1_0 h_8_1_1 h_8_1_2 h_8_1_3=>?_
      exact rz
  ·refine okD (fun c_4=>?_) (fun c_4=>?_)
   ·refine okG ?_
    refine aA fun r2 h_5_1_0 h_5_1_1 h_5_1_2 h_5_1_3=>?_
    exact rz
   ·refine okD (fun c_5=>?_) (fun c_5=>?_)
    ·refine okG ?_
     refine aA fun r3 h_7_2_0 h_7_2_1 h_7_2_2 h_7_2_3=>?_
     refine okG ?_
     refine okG ?_
     exact rz
    ·refine okG ?_
     refine aA fun r4 h_8_1_0 h_8_1_1 h_8_1_2 h_8_1_3=>?_
     exact rz
theorem F.wV (b:(List Int)) (p:Int) (c:ag.D) (h_b:Sm (Ty.sl (Ty.int .u8)) b) (p0:M.aq b) (p1:0<=p) (p2:p<=998000000000000):F.iO b p c=some (M.jD b p c):=gV (F.pz b p c h_b p0 p1 p2)
theorem M.Bg (b:(List Int)) (p:Int) (c:ag.D) (h_b:Sm (Ty.sl (Ty.int .u8)) b) (p0:M.aq b) (p1:0<=p) (p2:p<=998000000000000):(M.jD b p c).1.2.2.1.size<=20/\p<=(M.jD b p c).2/\(M.jD b p c).2<=p+3:=gU (F.pz b p c h_b p0 p1 p2)
theorem nL {α:Type} {K:α->Prop} {f:aa.D×Int->Option α} {b:(List Int)} {p:Int} {c:ag.D} (k:∀r,(r.1.2.2.1.size<=20)->(p<=r.2)->(r.2<=p+3)->ok (f r) K) (h_b:Sm (Ty.sl (Ty.int .u8)) b:=by exact au) (p0:M.aq b:=by exact au) (p1:0<=p:=by exact au) (p2:p<=998000000000000:=by exact au):ok (aK (M.jD b p c) f) K:=by
 have h:=M.Bg b p c h_b p0 p1 p2
 obtain⟨h0,h1,h2⟩:=h
 exact k _ h0 h1 h2
theorem F.nQ (b:(List Int)) (p:Int) (n:Int) (h_b:Sm (Ty.sl (Ty.int .u8)) b) (p0:M.aq b) (p1:0<=p) (p2:p<=998000000000000):ok (F.ic b p n) (fun r=>r.1.2.2.1.size<=20/\p<=r.2/\r.2<=p+20):=by
  unfold F.ic
  refine okG ?_
  refine aA fun r1 h_2_1_0 h_2_1_1 h_2_1_2 h_2_1_3=>?_
  refine okB (A:=fun e0=>p<=e0.1/\e0.1<=p+12/\e0.2.2.2.size<=3) ?_ (fun e0 h_e0=>?_)
  ·refine okW (fun(_:Nat) (_:Unit)=>True) (fun _ v0 _=>?_) 0 _ trivial
   unfold F.gN
   refine okD (fun c_1=>?_) (fun c_1=>?_)
   ·exact dm ⟨au,au,au⟩
   ·refine okD (fun c_2=>?_) (fun c_2=>?_)
    ·refine okG ?_
     refine okG ?_
     refine okG ?_
     refine aA fun r2 h_8_1_0 h_8_1_1 h_8_1_2 h_8_1_3=>?_
     refine okG ?_
     refine okG ?_
     refine aA fun r3 h_9_1_0 h_9_1_1 h_9_1_2 h_9_1_3=>?_
     refine okD (fun c_3=>?_) (fun c_3=>?_)
     ·refine okG ?_
      refine okG ?_
      refine aA fun r4 h_10_2_0 h_10_2_1 h_10_2_2 h_10_2_3=>?_
      refine okG ?_
      refine okG ?_
      exact dm ⟨au,au,au⟩
     ·exact dm ⟨au,au,au⟩
    ·refine okD (fun c_4=>?_) (fun c_4=>?_)
     ·refine okG ?_
      refine okG ?_
      refine okG ?_
      refine aA fun r2 h_8_1_0 h_8_1_1 h_8_1_2 h_8_1_3=>?_
      refine okG ?_
      refine okG ?_
      refine aA fun r3 h_9_1_0 h_9_1_1 h_9_1_2 h_9_1_3=>?_
      refine okD (fun c_5=>?_) (fun c_5=>?_)
      ·refine okG ?_
       refine okG ?_
       refine aA fun r4 h_10_2_0 h_10_2_1 h_10_2_2 h_10_2_3=>?_
       refine okG ?_
       refine okG ?_
       exact dm ⟨au,au,au⟩
      ·exact dm ⟨au,au,au⟩
     ·refine okD (fun c_6=>?_) (fun c_6=>?_)
      ·refine okG ?_
       refine okG ?_
       refine okG ?_
       refine aA fun r2 h_8_1_0 h_8_1_1 h_8_1_2 h_8_1_3=>?_
       refine okG ?_
       refine okG ?_
       refine aA fun r3 h_9_1_0 h_9_1_1 h_9_1_2 h_9_1_3=>?_
       refine okD (fun c_7=>?_) (fun c_7=>?_)
       ·refine okG ?_
        refine okG ?_
        refine aA fun r4 h_10_2_0 h_10_2_1 h_10_2_2 h_10_2_3=>?_
        refine okG ?_
        refine okG ?_
        exact dm ⟨au,au,au⟩
       ·exact dm ⟨au,au,au⟩
      ·refine okD (fun c_8=>?_) (fun c_8=>?_)
       ·refine okG ?_
        refine okG ?_
        refine okG ?_
        refine aA fun r5 h_14_1_0 h_14_1_1 h_14_1_2 h_14_1_3=>?_
        refine okB (A:=fun e1=>p<=e1.1/\e1.1<=p+8/\e1.2.size<=3) ?_ (fun e1 h_e1=>?_)
        ·refine okW (fun(k:Nat) (v1:Int×Int×ByteArray)=>0<=v1.1/\v1.1<=(k:Int)/\(v1.2.2.size:Int)+v1.1<=3/\p<=v1.2.1/\v1.2.1+v1.1<=p+8) (fun k v1 hI=>?_) (3:Nat) _ ⟨au,au,au,au,au⟩
         obtain⟨i_0,i_1,i_2,i_3,i_4⟩:=hI
         unfold F.dU
         refine okD (fun c_0=>?_) (fun c_0=>?_)
         ·refine okG ?_
          refine okG ?_
          refine okG ?_
          refine aA fun r6 h_17_3_0 h_17_3_1 h_17_3_2 h_17_3_3=>?_
          refine okG ?_
          exact fq ⟨k-1,by omega,au,au,au,au,au⟩
         ·exact dm ⟨au,au,au⟩
        ·obtain⟨e1_0,e1_1,e1_2⟩:=h_e1
         exact dm ⟨au,au,au⟩
       ·refine okD (fun c_9=>?_) (fun c_9=>?_)
        ·refine okG ?_
         refine okG ?_
         refine okG ?_
         refine aA fun r5 h_14_1_0 h_14_1_1 h_14_1_2 h_14_1_3=>?_
         refine okB (A:=fun e1=>p<=e1.1/\e1.1<=p+8/\e1.2.size<=3) ?_ (fun e1 h_e1=>?_)
         ·refine okW (fun(k:Nat) (v1:Int×Int×ByteArray)=>0<=v1.1/\v1.1<=(k:Int)/\(v1.2.2.size:Int)+v1.1<=3/\p<=v1.2.1/\v1.2.1+v1.1<=p+8) (fun k v1 hI=>?_) (3:Nat) _ ⟨au,au,au,au,au⟩
          obtain⟨i_0,i_1,i_2,i_3,i_4⟩:=hI
          unfold F.dU
          refine okD (fun c_0=>?_) (fun c_0=>?_)
          ·refine okG ?_
           refine okG ?_
           refine okG ?_
           refine aA fun r6 h_17_3_0 h_17_3_1 h_17_3_2 h_17_3_3=>?_
           refine okG ?_
           exact fq ⟨k-1,by omega,au,au,au,au,au⟩
          ·exact dm ⟨au,au,au⟩
         ·obtain⟨e1_0,e1_1,e1_2⟩:=h_e1
          exact dm ⟨au,au,au⟩
        ·refine okG ?_
         refine okG ?_
         refine okG ?_
         refine aA fun r7 h_3_1_0 h_3_1_1 h_3_1_2 h_3_1_3=>?_
         exact dm ⟨au,au,au⟩
  ·obtain⟨e0_0,e0_1,e0_2⟩:=h_e0
   refine okG ?_
   refine okG ?_
   refine jf fun r8 h_18_2_0 h_18_2_1 h_18_2_2=>?_
   refine okC (fun c_10=>?_) (fun c_10=>?_)
   ·refine okG ?_
    refine okG ?_
    refine aA fun r9 h_19_1_0 h_19_1_1 h_19_1_2 h_19_1_3=>?_
    refine okD (fun c_11=>?_) (fun c_11=>?_)
    ·exact rz
    ·refine okD (fun c_12=>?_) (fun c_12=>?_)
     ·refine okG ?_
      exact rz
     ·refine okD (fun c_13=>?_) (fun c_13=>?_)
      ·refine okG ?_
       refine okG ?_
       refine aA fun r10 h_26_1_0 h_26_1_1 h_26_1_2 h_26_1_3=>?_
       exact rz
      ·refine okG ?_
       exact rz
   ·exact rz
theorem F.uF (b:(List Int)) (p:Int) (n:Int) (h_b:Sm (Ty.sl (Ty.int .u8)) b) (p0:M.aq b) (p1:0<=p) (p2:p<=998000000000000):F.ic b p n=some (M.eM b p n):=gV (F.nQ b p n h_b p0 p1 p2)
theorem M.zR (b:(List Int)) (p:Int) (n:Int) (h_b:Sm (Ty.sl (Ty.int .u8)) b) (p0:M.aq b) (p1:0<=p) (p2:p<=998000000000000):(M.eM b p n).1.2.2.1.size<=20/\p<=(M.eM b p n).2/\(M.eM b p n).2<=p+20:=gU (F.nQ b p n h_b p0 p1 p2)
theorem gj {α:Type} {K:α->Prop} {f:aa.D×Int->Option α} {b:(List Int)} {p:Int} {n:Int} (k:∀r,(r.1.2.2.1.size<=20)->(p<=r.2)->(r.2<=p+20)->ok (f r) K) (h_b:Sm (Ty.sl (Ty.int .u8)) b:=by exact au) (p0:M.aq b:=by exact au) (p1:0<=p:=by exact au) (p2:p<=998000000000000:=by exact au):ok (aK (M.eM b p n) f) K:=by
 have h:=M.zR b p n h_b p0 p1 p2
 obtain⟨h0,h1,h2⟩:=h
 exact k _ h0 h1 h2
theorem F.qc (b:(List Int)) (p:Int) (columns:LC) (n:Int) (h_b:Sm (Ty.sl (Ty.int .u8)) b) (h_columns:Sm (Ty.sl ag) columns) (p0:M.aq b) (p1:0<=p) (p2:p<=997000000000000):ok (F.jU b p columns n) (fun r=>r.1.length<=columns.length+3/\(∀v∈r.1,v.2.2.1.size<=20)/\p<=r.2/\r.2<=p+3 * columns.length+70/\(n<1->r.1.length=columns.length)):=by
  unfold F.jU
  have hl:=h_columns.1
  refine okT (A:=fun v0=>p<=v0.1/\v0.1<=p+3 * (columns.length:Int)/\v0.2.length=columns.length/\(∀v∈v0.2,v.2.2.1.size<=20)) (B:=fun _=>False) ?_ (fun v0 h_v0=>?_) (fun _ h=>h.elim)
  ·refine HR (fun(k:Nat) (v0:Int×LV)=>p<=v0.1/\v0.1<=p+3 * (k:Int)/\v0.2.length=k/\(∀v∈v0.2,v.2.2.1.size<=20)) ⟨au,au,au,au⟩ (fun z0 hz k v0 hk hI=>?_)
   obtain⟨i_0,i_1,i_2,i_3⟩:=hI
   unfold F.iS
   refine okG ?_
   refine okG ?_
   refine okG ?_
   refine nL fun r1 h_5_6_0 h_5_6_1 h_5_6_2=>?_
   refine okG ?_
   exact fq ⟨au,au,au,au⟩
  ·obtain⟨v0_0,v0_1,v0_2,v0_3⟩:=h_v0
   refine okG ?_
   refine okG ?_
   refine jf fun r2 h_6_2_0 h_6_2_1 h_6_2_2=>?_
   refine okC (fun c_0=>?_) (fun c_0=>?_)
   ·have n_a:¬n<1:=fun q=>by rw[h_6_2_0 q] at c_0;cases c_0
    refine okG ?_
    refine okG ?_
    refine aA fun r3 h_7_1_0 h_7_1_1 h_7_1_2 h_7_1_3=>?_
    refine okD (fun c_1=>?_) (fun c_1=>?_)
    ·refine okG ?_
     exact pN
    ·refine okD (fun c_2=>?_) (fun c_2=>?_)
     ·refine okD (fun c_3=>?_) (fun c_3=>?_)
      ·refine okG ?_
       refine okG ?_
       refine aA fun r4 h_13_4_0 h_13_4_1 h_13_4_2 h_13_4_3=>?_
       refine okG ?_
       refine okG ?_
       refine gj fun r5 h_13_6_0 h_13_6_1 h_13_6_2=>?_
       refine okG ?_
       refine okG ?_
       exact pN
      ·exact pN
     ·refine okG ?_
      refine okG ?_
      refine gj fun r6 h_8_2_0 h_8_2_1 h_8_2_2=>?_
      refine okG ?_
      refine okG ?_
      refine gj fun r7 h_8_4_0 h_8_4_1 h_8_4_2=>?_
      refine okG ?_
      refine okG ?_
      refine gj fun r8 h_8_6_0 h_8_6_1 h_8_6_2=>?_
      refine okG ?_
      exact pN
   ·exact pN
theorem F.yj (b:(List Int)) (p:Int) (columns:LC) (n:Int) (h_b:Sm (Ty.sl (Ty.int .u8)) b) (h_columns:Sm (Ty.sl ag) columns) (p0:M.aq b) (p1:0<=p) (p2:p<=997000000000000):F.jU b p columns n=some (M.jZ b p columns n):=gV (F.qc b p columns n h_b h_columns p0 p1 p2)
theorem M.BU (b:(List Int)) (p:Int) (columns:LC) (n:Int) (h_b:Sm (Ty.sl (Ty.int .u8)) b) (h_columns:Sm (Ty.sl ag) columns) (p0:M.aq b) (p1:0<=p) (p2:p<=997000000000000):(M.jZ b p columns n).1.length<=columns.length+3/\(∀v∈(M.jZ b p columns n).1,v.2.2.1.size<=20)/\p<=(M.jZ b p columns n).2/\(M.jZ b p columns n).2<=p+3 * columns.length+70/\(n<1->(M.jZ b p columns n).1.length=columns.length):=gU (F.qc b p columns n h_b h_columns p0 p1 p2)
theorem pG {α:Type} {K:α->Prop} {f:LV×Int->Option α} {b:(List Int)} {p:Int} {columns:LC} {n:Int} (k:∀r,(r.1.length<=columns.length+3)->(∀v∈r.1,v.2.2.1.size<=20)->(p<=r.2)->(r.2<=p+3 * columns.length+70)->(n<1->r.1.length=columns.length)->ok (f r) K) (h_b:Sm (Ty.sl (Ty.int .u8)) b:=by exact au) (h_columns:Sm (Ty.sl ag) columns:=by exact au) (p0:M.aq b:=by exact au) (p1:0<=p:=by exact au) (p2:p<=997000000000000:=by exact au):ok (aK (M.jZ b p columns n) f) K:=by
 have h:=M.BU b p columns n h_b h_columns p0 p1 p2
 obtain⟨h0,h1,h2,h3,h4⟩:=h
 exact k _ h0 h1 h2 h3 h4
theorem F.zC (row:LV) (h_row:Sm (Ty.sl aa) row):F.xG row=some row:=by
 rfl
theorem F.pV (b:(List Int)) (p:Int) (c:LC) (n:Int) (h_b:Sm (Ty.sl (Ty.int .u8)) b) (h_c:Sm (Ty.sl ag) c) (p0:M.aq b) (p1:0<=p) (p2:p<=996000000000000) (p3:c.length<=6) (p4:n=0):ok (F.jN b p c n) (fun r=>r.1.length<=6/\(∀w∈r.1,M.tr w)/\p<=r.2/\r.2<=p+1000/\(∀w∈r.1,w.length=c.length)):=by
  unfold F.jN
  have hl:=p3
  refine okG ?_
  refine aA fun r1 h_2_1_0 h_2_1_1 h_2_1_2 h_2_1_3=>?_
  refine okB (A:=fun e0=>p<=e0.1/\e0.1<=p+700/\e0.2.length<=6/\(∀w∈e0.2,M.tr w)/\(∀w∈e0.2,w.length=c.length)) ?_ (fun e0 h_e0=>?_)
  ·refine okW (fun(k:Nat) (v0:Int×Int×LLV)=>0<=v0.1/\v0.1<=(k:Int)/\(v0.2.2.length:Int)+v0.1<=6/\(∀w∈v0.2.2,M.tr w)/\p<=v0.2.1/\v0.2.1+100 * v0.1<=p+700/\(∀w∈v0.2.2,w.length=c.length)) (fun k v0 hI=>?_) (6:Nat) _ ⟨au,au,au,au,au,au,au⟩
   obtain⟨i_0,i_1,i_2,i_3,i_4,i_5,i_6⟩:=hI
   unfold F.iP
   refine okD (fun c_0=>?_) (fun c_0=>?_)
   ·refine EY (fun c_1=>?_) (fun c_1=>?_)
    ·refine okG ?_
     refine okG ?_
     refine okG ?_
     refine aA fun r2 h_5_5_0 h_5_5_1 h_5_5_2 h_5_5_3=>?_
     refine okD (fun c_2=>?_) (fun c_2=>?_)
     ·refine okG ?_
      refine okG ?_
      refine aA fun r3 h_6_5_0 h_6_5_1 h_6_5_2 h_6_5_3=>?_
      refine okG ?_
      refine okG ?_
      refine okG ?_
      refine okL fun r4 er4=>?_
      have w_a:M.tr r4:=er4▸M.xZ i_3 _
      have w_b:r4.length=c.length:=by rw[er4];exact i_6 _ (hU (t:=.sl aa) h_6_5_0 (h_6_5_1 (by omega)))
      refine okG ?_
      exact fq ⟨k-1,by omega,au,au,au,au,au,au,au⟩
     ·refine okG ?_
      refine okG ?_
      refine pG fun r5 h_7_4_0 h_7_4_1 h_7_4_2 h_7_4_3 h_7_4_4=>?_
      have w_c:r5.1.length=c.length:=h_7_4_4 (by omega)
      refine okG ?_
      exact fq ⟨k-1,by omega,au,au,au,au,au,au,au⟩
    ·refine okG ?_
     refine okG ?_
     refine okG ?_
     refine pG fun r5 h_7_4_0 h_7_4_1 h_7_4_2 h_7_4_3 h_7_4_4=>?_
     have w_c:r5.1.length=c.length:=h_7_4_4 (by omega)
     refine okG ?_
     exact fq ⟨k-1,by omega,au,au,au,au,au,au,au⟩
   ·exact dm ⟨au,au,au,au,au⟩
  ·obtain⟨e0_0,e0_1,e0_2,e0_3,e0_4⟩:=h_e0
   exact pN
theorem F.xE (b:(List Int)) (p:Int) (c:LC) (n:Int) (h_b:Sm (Ty.sl (Ty.int .u8)) b) (h_c:Sm (Ty.sl ag) c) (p0:M.aq b) (p1:0<=p) (p2:p<=996000000000000) (p3:c.length<=6) (p4:n=0):F.jN b p c n=some (M.mG b p c n):=gV (F.pV b p c n h_b h_c p0 p1 p2 p3 p4)
theorem M.Cv (b:(List Int)) (p:Int) (c:LC) (n:Int) (h_b:Sm (Ty.sl (Ty.int .u8)) b) (h_c:Sm (Ty.sl ag) c) (p0:M.aq b) (p1:0<=p) (p2:p<=996000000000000) (p3:c.length<=6) (p4:n=0):(M.mG b p c n).1.length<=6/\(∀w∈(M.mG b p c n).1,M.tr w)/\p<=(M.mG b p c n).2/\(M.mG b p c n).2<=p+1000/\(∀w∈(M.mG b p c n).1,w.length=c.length):=gU (F.pV b p c n h_b h_c p0 p1 p2 p3 p4)
theorem wQ {α:Type} {K:α->Prop} {f:LLV×Int->Option α} {b:(List Int)} {p:Int} {c:LC} {n:Int} (k:∀r,(r.1.length<=6)->(∀w∈r.1,M.tr w)->(p<=r.2)->(r.2<=p+1000)->(∀w∈r.1,w.length=c.length)->ok (f r) K) (h_b:Sm (Ty.sl (Ty.int .u8)) b:=by exact au) (h_c:Sm (Ty.sl ag) c:=by exact au) (p0:M.aq b:=by exact au) (p1:0<=p:=by exact au) (p2:p<=996000000000000:=by exact au) (p3:c.length<=6:=by exact au) (p4:n=0:=by exact au):ok (aK (M.mG b p c n) f) K:=by
 have h:=M.Cv b p c n h_b h_c p0 p1 p2 p3 p4
 obtain⟨h0,h1,h2,h3,h4⟩:=h
 exact k _ h0 h1 h2 h3 h4
theorem F.mz (b:(List Int)) (p:Int) (n:Int) (h_b:Sm (Ty.sl (Ty.int .u8)) b) (p0:M.aq b) (p1:0<=p) (p2:p<=995000000000000):ok (F.gC b p n) (fun r=>r.1.length<=6/\1<=r.1.length/\(∀t∈r.1,M.gX t)/\p<=r.2/\r.2<=p+10000/\(n<1->r.1.length<=3)/\(n<1->(∀t∈r.1,M.xb t))):=by
  unfold F.gC
  refine okG ?_
  refine aA fun r1 h_2_1_0 h_2_1_1 h_2_1_2 h_2_1_3=>?_
  refine okB (A:=fun e0=>p<=e0.1/\e0.1<=p+6100/\e0.2.length<=3/\1<=e0.2.length/\(∀t∈e0.2,M.gX t)/\(∀t∈e0.2,M.xb t)) ?_ (fun e0 h_e0=>?_)
  ·refine okW (fun(k:Nat) (v0:Int×Int×LTb)=>0<=v0.1/\v0.1<=(k:Int)/\(v0.2.2.length:Int)+v0.1<=3/\1<=(v0.2.2.length:Int)+v0.1/\(∀t∈v0.2.2,M.gX t)/\p<=v0.2.1/\v0.2.1+2000 * v0.1<=p+6100/\(∀t∈v0.2.2,M.xb t)) (fun k v0 hI=>?_) (3:Nat) _ ⟨au,au,au,au,au,au,au,au⟩
   obtain⟨i_0,i_1,i_2,i_3,i_4,i_5,i_6,i_7⟩:=hI
   unfold F.gk
   refine okD (fun c_0=>?_) (fun c_0=>?_)
   ·refine okG ?_
    refine okG ?_
    refine okG ?_
    refine rB fun r2 h_5_1_0 h_5_1_1 h_5_1_2 h_5_1_3=>?_
    refine okG ?_
    refine okG ?_
    refine aA fun r3 h_6_2_0 h_6_2_1 h_6_2_2 h_6_2_3=>?_
    refine okG ?_
    refine okG ?_
    refine okG ?_
    refine okG ?_
    refine okG ?_
    refine okG ?_
    refine okG ?_
    refine okG ?_
    refine wQ fun r4 h_7_3_0 h_7_3_1 h_7_3_2 h_7_3_3 h_7_3_4=>?_
    have q_a:=M.Ix h_6_2_0 (h_6_2_1 (by decide)) (n:=(r2.1.length:Int)) (by omega)
    have q_b:(aB r2.1 (some ((0:Int),wrap64 ((1:Int)+(r3.1.tmod (r2.1.length:Int)))))).length<=2:=M.HP q_a
    have q_c:M.xb ((aB r2.1 (some ((0:Int),wrap64 ((1:Int)+(r3.1.tmod (r2.1.length:Int)))))),(r4.1,())):=⟨Nat.le_trans q_b (by decide),by omega,fun w hw=>by rw[h_7_3_4 w hw];omega⟩
    refine okG ?_
    exact fq ⟨k-1,by omega,au,au,au,au,au,au,au,au⟩
   ·exact dm ⟨au,au,au,au,au,au⟩
  ·obtain⟨e0_0,e0_1,e0_2,e0_3,e0_4,e0_5⟩:=h_e0
   refine okG ?_
   refine okG ?_
   refine jf fun r5 h_9_2_0 h_9_2_1 h_9_2_2=>?_
   refine okC (fun c_1=>?_) (fun c_1=>?_)
   ·have n_a:¬n<1:=fun q=>by rw[h_9_2_0 q] at c_1;cases c_1
    obtain⟨t_1,t_2,_⟩:=M.yU e0_5 (0:Int)
    refine okG ?_
    refine okG ?_
    refine aA fun r6 h_10_1_0 h_10_1_1 h_10_1_2 h_10_1_3=>?_
    refine okD (fun c_2=>?_) (fun c_2=>?_)
    ·refine okG ?_
     exact Bv
    ·refine okD (fun c_3=>?_) (fun c_3=>?_)
     ·have t_a:=M.EX (i:=0) (k:=(0:Int).toNat) (w:=[[((9:Int),((0:Int),((⟨#[]⟩:ByteArray),())))]]) e0_4 e0_5 (by exact cl) (by decide)
      refine okG ?_
      refine okG ?_ (by simp only[List.length_cons,List.length_nil,List.length_append,lim];omega)
      refine okG ?_ (by rw[List.length_set];omega)
      refine okL fun y1 ey1=>?_
      subst ey1
      exact Bv
     ·have t_a:=M.EU (i:=0) (k:=(0:Int).toNat) (w:=[((1:Int),(false,()))]) e0_4 e0_5 (by decide)
      refine okG ?_
      refine okG ?_ (by simp only[List.length_cons,List.length_nil,List.length_append,lim];omega)
      refine okG ?_ (by rw[List.length_set];omega)
      refine okL fun y2 ey2=>?_
      subst ey2
      exact Bv
   ·have t_b:n<1->∀t∈e0.2,M.xb t:=fun _=>e0_5
    exact Bv
theorem F.uf (b:(List Int)) (p:Int) (n:Int) (h_b:Sm (Ty.sl (Ty.int .u8)) b) (p0:M.aq b) (p1:0<=p) (p2:p<=995000000000000):F.gC b p n=some (M.dK b p n):=gV (F.mz b p n h_b p0 p1 p2)
theorem M.yC (b:(List Int)) (p:Int) (n:Int) (h_b:Sm (Ty.sl (Ty.int .u8)) b) (p0:M.aq b) (p1:0<=p) (p2:p<=995000000000000):(M.dK b p n).1.length<=6/\1<=(M.dK b p n).1.length/\(∀t∈(M.dK b p n).1,M.gX t)/\p<=(M.dK b p n).2/\(M.dK b p n).2<=p+10000/\(n<1->(M.dK b p n).1.length<=3)/\(n<1->(∀t∈(M.dK b p n).1,M.xb t)):=gU (F.mz b p n h_b p0 p1 p2)
theorem lA {α:Type} {K:α->Prop} {f:LTb×Int->Option α} {b:(List Int)} {p:Int} {n:Int} (k:∀r,(r.1.length<=6)->(1<=r.1.length)->(∀t∈r.1,M.gX t)->(p<=r.2)->(r.2<=p+10000)->(n<1->r.1.length<=3)->(n<1->(∀t∈r.1,M.xb t))->ok (f r) K) (h_b:Sm (Ty.sl (Ty.int .u8)) b:=by exact au) (p0:M.aq b:=by exact au) (p1:0<=p:=by exact au) (p2:p<=995000000000000:=by exact au):ok (aK (M.dK b p n) f) K:=by
 have h:=M.yC b p n h_b p0 p1 p2
 obtain⟨h0,h1,h2,h3,h4,h5,h6⟩:=h
 exact k _ h0 h1 h2 h3 h4 h5 h6
theorem F.pH (b:(List Int)) (p:Int) (columns:LC) (kind:Int) (h_b:Sm (Ty.sl (Ty.int .u8)) b) (h_columns:Sm (Ty.sl ag) columns) (p0:M.aq b) (p1:0<=p) (p2:p<=997000000000000):ok (F.jb b p columns kind) (fun r=>r.1.2.2.1.2.2.1.size<=20/\p<=r.2/\r.2<=p+20):=by
  unfold F.jb
  have hl:=h_columns.1
  refine okT (A:=fun e0=>p<=e0/\e0<=p+8) (B:=fun q0=>p<=q0.1/\q0.1<=p+10) ?_ (fun e0 h_e0=>?_) (fun q0 h_q0=>?_)
  ·refine okW (fun(k:Nat) (v0:Int×Int)=>0<=v0.1/\v0.1<=4/\4<=v0.1+(k:Int)/\p<=v0.2/\v0.2<=p+2 * v0.1) (fun k v0 hI=>?_) (4:Nat) _ ⟨au,au,au,au,au⟩
   obtain⟨i_0,i_1,i_2,i_3,i_4⟩:=hI
   unfold F.iw
   refine EY (fun c_0=>?_) (fun c_0=>?_)
   ·refine okD (fun c_1=>?_) (fun c_1=>?_)
    ·refine okG ?_
     refine okG ?_
     refine okG ?_
     refine aA fun r1 h_4_3_0 h_4_3_1 h_4_3_2 h_4_3_3=>?_
     refine okG ?_
     refine okG ?_
     refine EY (fun c_2=>?_) (fun c_2=>?_)
     ·refine okG ?_
      refine okG ?_
      refine aA fun r2 h_5_9_0 h_5_9_1 h_5_9_2 h_5_9_3=>?_
      refine okD (fun c_3=>?_) (fun c_3=>?_)
      ·exact FZ ⟨au,au⟩
      ·exact fq ⟨k-1,by omega,au,au,au,au,au⟩
     ·exact fq ⟨k-1,by omega,au,au,au,au,au⟩
    ·exact CI ⟨au,au⟩
   ·exact CI ⟨au,au⟩
  ·obtain⟨e0_0,e0_1⟩:=h_e0
   refine okG ?_
   refine okG ?_
   refine nL fun r3 h_7_3_0 h_7_3_1 h_7_3_2=>?_
   exact rz
  ·obtain⟨q0_0,q0_1⟩:=h_q0
   exact rz
theorem F.wB (b:(List Int)) (p:Int) (columns:LC) (kind:Int) (h_b:Sm (Ty.sl (Ty.int .u8)) b) (h_columns:Sm (Ty.sl ag) columns) (p0:M.aq b) (p1:0<=p) (p2:p<=997000000000000):F.jb b p columns kind=some (M.dw b p columns kind):=gV (F.pH b p columns kind h_b h_columns p0 p1 p2)
theorem M.AN (b:(List Int)) (p:Int) (columns:LC) (kind:Int) (h_b:Sm (Ty.sl (Ty.int .u8)) b) (h_columns:Sm (Ty.sl ag) columns) (p0:M.aq b) (p1:0<=p) (p2:p<=997000000000000):(M.dw b p columns kind).1.2.2.1.2.2.1.size<=20/\p<=(M.dw b p columns kind).2/\(M.dw b p columns kind).2<=p+20:=gU (F.pH b p columns kind h_b h_columns p0 p1 p2)
theorem eW {α:Type} {K:α->Prop} {f:aC.D×Int->Option α} {b:(List Int)} {p:Int} {columns:LC} {kind:Int} (k:∀r,(r.1.2.2.1.2.2.1.size<=20)->(p<=r.2)->(r.2<=p+20)->ok (f r) K) (h_b:Sm (Ty.sl (Ty.int .u8)) b:=by exact au) (h_columns:Sm (Ty.sl ag) columns:=by exact au) (p0:M.aq b:=by exact au) (p1:0<=p:=by exact au) (p2:p<=997000000000000:=by exact au):ok (aK (M.dw b p columns kind) f) K:=by
 have h:=M.AN b p columns kind h_b h_columns p0 p1 p2
 obtain⟨h0,h1,h2⟩:=h
 exact k _ h0 h1 h2
theorem cZ {α:Type} {K:α->Prop} {f:LPt×Int->Option α} {n_:Nat} (ih:∀(b:(List Int)),∀(p:Int),∀(columns:LC),∀(kind:Int),∀(deep:Int),(Sm (Ty.sl (Ty.int .u8)) b)->(Sm (Ty.sl ag) columns)->(M.aq b)->(0<=p)->(p+40 * (M.eB deep:Int)<=996000000000000)->(deep<=3)->(deep.toNat<n_)->1<=(M.bB n_ b p columns kind deep).1.length/\(M.bB n_ b p columns kind deep).1.length<=M.eB deep/\(∀v∈(M.bB n_ b p columns kind deep).1,v.2.2.1.2.2.1.size<=20)/\p<=(M.bB n_ b p columns kind deep).2/\(M.bB n_ b p columns kind deep).2<=p+40 * M.eB deep) {b:(List Int)} {p:Int} {columns:LC} {kind:Int} {deep:Int} (k:∀r,(1<=r.1.length)->(r.1.length<=M.eB deep)->(∀v∈r.1,v.2.2.1.2.2.1.size<=20)->(p<=r.2)->(r.2<=p+40 * M.eB deep)->ok (f r) K) (h_b:Sm (Ty.sl (Ty.int .u8)) b:=by exact au) (h_columns:Sm (Ty.sl ag) columns:=by exact au) (p0:M.aq b:=by exact au) (p1:0<=p:=by exact au) (p2:p+40 * (M.eB deep:Int)<=996000000000000:=by exact au) (p3:deep<=3:=by exact au) (p4:deep.toNat<n_:=by exact au):ok (aK (M.bB n_ b p columns kind deep) f) K:=by
 have h:=ih b p columns kind deep h_b h_columns p0 p1 p2 p3 p4
 obtain⟨h0,h1,h2,h3,h4⟩:=h
 exact k _ h0 h1 h2 h3 h4
theorem F.pE (n_:Nat) (ih:∀(b:(List Int)),∀(p:Int),∀(columns:LC),∀(kind:Int),∀(deep:Int),(Sm (Ty.sl (Ty.int .u8)) b)->(Sm (Ty.sl ag) columns)->(M.aq b)->(0<=p)->(p+40 * (M.eB deep:Int)<=996000000000000)->(deep<=3)->(deep.toNat<n_)->1<=(M.bB n_ b p columns kind deep).1.length/\(M.bB n_ b p columns kind deep).1.length<=M.eB deep/\(∀v∈(M.bB n_ b p columns kind deep).1,v.2.2.1.2.2.1.size<=20)/\p<=(M.bB n_ b p columns kind deep).2/\(M.bB n_ b p columns kind deep).2<=p+40 * M.eB deep) (b:(List Int)) (p:Int) (columns:LC) (kind:Int) (deep:Int) (h_b:Sm (Ty.sl (Ty.int .u8)) b) (h_columns:Sm (Ty.sl ag) columns) (p0:M.aq b) (p1:0<=p) (p2:p+40 * (M.eB deep:Int)<=996000000000000) (p3:deep<=3) (p4:deep.toNat<(n_+1)):ok (F.kQ n_ b p columns kind deep) (fun r=>1<=r.1.length/\r.1.length<=M.eB deep/\(∀v∈r.1,v.2.2.1.2.2.1.size<=20)/\p<=r.2/\r.2<=p+40 * M.eB deep):=by
  unfold F.kQ
  have hE0:=M.DP (d:=deep)
  have hE1:=M.DP (d:=wrap64 (deep-(1:Int)))
  have hE2:=M.DP (d:=wrap64 (deep-(2:Int)))
  have hE3:=M.Ig (d:=deep) p3
  have hE4:=M.Ib (d:=deep) p3
  refine Ik (fun c_0=>?_) (fun c_0=>?_)
  ·refine okG ?_
   refine aA fun r1 h_1_4_0 h_1_4_1 h_1_4_2 h_1_4_3=>?_
   refine okD (fun c_1=>?_) (fun c_1=>?_)
   ·refine okG ?_
    refine okG ?_
    refine eW fun r2 h_2_3_0 h_2_3_1 h_2_3_2=>?_
    exact pN
   ·refine okD (fun c_2=>?_) (fun c_2=>?_)
    ·refine okG ?_
     refine okG ?_
     refine okG ?_
     refine okG ?_
     refine cZ ih fun r3 h_4_5_0 h_4_5_1 h_4_5_2 h_4_5_3 h_4_5_4=>?_
     refine okG ?_
     refine okG ?_
     refine eW fun r4 h_4_9_0 h_4_9_1 h_4_9_2=>?_
     refine okG ?_
     refine okG ?_
     exact pN
    ·refine okD (fun c_3=>?_) (fun c_3=>?_)
     ·refine okG ?_
      refine okG ?_
      refine eW fun r5 h_6_3_0 h_6_3_1 h_6_3_2=>?_
      exact pN
     ·refine okG ?_
      refine okG ?_
      refine aA fun r6 h_7_1_0 h_7_1_1 h_7_1_2 h_7_1_3=>?_
      refine okD (fun c_4=>?_) (fun c_4=>?_)
      ·refine okG ?_
       refine okG ?_
       refine okG ?_
       refine okG ?_
       refine cZ ih fun r7 h_9_4_0 h_9_4_1 h_9_4_2 h_9_4_3 h_9_4_4=>?_
       refine okG ?_
       refine okG ?_
       refine okG ?_
       refine okG ?_
       refine cZ ih fun r8 h_9_9_0 h_9_9_1 h_9_9_2 h_9_9_3 h_9_9_4=>?_
       refine okG ?_
       refine okG ?_
       refine okG ?_
       refine aA fun r9 h_9_12_0 h_9_12_1 h_9_12_2 h_9_12_3=>?_
       refine okG ?_
       exact pN
      ·refine okD (fun c_5=>?_) (fun c_5=>?_)
       ·refine okG ?_
        refine okG ?_
        refine okG ?_
        refine okG ?_
        refine cZ ih fun r10 h_11_4_0 h_11_4_1 h_11_4_2 h_11_4_3 h_11_4_4=>?_
        refine okG ?_
        exact pN
       ·refine okD (fun c_6=>?_) (fun c_6=>?_)
        ·refine okG ?_
         refine okG ?_
         refine aA fun r11 h_13_3_0 h_13_3_1 h_13_3_2 h_13_3_3=>?_
         refine okG ?_
         refine okG ?_
         refine okG ?_
         refine okG ?_
         refine cZ ih fun r12 h_13_7_0 h_13_7_1 h_13_7_2 h_13_7_3 h_13_7_4=>?_
         refine okG ?_
         exact pN
        ·refine okG ?_
         refine okG ?_
         refine aA fun r13 h_14_1_0 h_14_1_1 h_14_1_2 h_14_1_3=>?_
         refine okG ?_
         refine okG ?_
         refine okG ?_
         refine okG ?_
         refine cZ ih fun r14 h_15_5_0 h_15_5_1 h_15_5_2 h_15_5_3 h_15_5_4=>?_
         refine okG ?_
         refine okG ?_
         refine eW fun r15 h_15_9_0 h_15_9_1 h_15_9_2=>?_
         refine okG ?_
         refine okG ?_
         refine okG ?_
         refine aA fun r16 h_15_13_0 h_15_13_1 h_15_13_2 h_15_13_3=>?_
         refine okG ?_
         exact pN
  ·refine okG ?_
   refine eW fun r2 h_2_3_0 h_2_3_1 h_2_3_2=>?_
   exact pN
theorem M.oa:∀(n_:Nat),∀(b:(List Int)),∀(p:Int),∀(columns:LC),∀(kind:Int),∀(deep:Int),(Sm (Ty.sl (Ty.int .u8)) b)->(Sm (Ty.sl ag) columns)->(M.aq b)->(0<=p)->(p+40 * (M.eB deep:Int)<=996000000000000)->(deep<=3)->(deep.toNat<n_)->1<=(M.bB n_ b p columns kind deep).1.length/\(M.bB n_ b p columns kind deep).1.length<=M.eB deep/\(∀v∈(M.bB n_ b p columns kind deep).1,v.2.2.1.2.2.1.size<=20)/\p<=(M.bB n_ b p columns kind deep).2/\(M.bB n_ b p columns kind deep).2<=p+40 * M.eB deep
 | 0,b,p,columns,kind,deep,h_b,h_columns,p0,p1,p2,p3,p4=>absurd p4 (Nat.not_lt_zero _)
 | n_+1,b,p,columns,kind,deep,h_b,h_columns,p0,p1,p2,p3,p4=>gU (F.pE n_ (M.oa n_) b p columns kind deep h_b h_columns p0 p1 p2 p3 p4)
theorem F.wm (n_:Nat) (b:(List Int)) (p:Int) (columns:LC) (kind:Int) (deep:Int) (h_b:Sm (Ty.sl (Ty.int .u8)) b) (h_columns:Sm (Ty.sl ag) columns) (p0:M.aq b) (p1:0<=p) (p2:p+40 * (M.eB deep:Int)<=996000000000000) (p3:deep<=3) (p4:deep.toNat<(n_+1)):F.kQ n_ b p columns kind deep=some (M.bB (n_+1) b p columns kind deep):=gV (F.pE n_ (M.oa n_) b p columns kind deep h_b h_columns p0 p1 p2 p3 p4)
theorem dV {α:Type} {K:α->Prop} {f:LPt×Int->Option α} {n_:Nat} {b:(List Int)} {p:Int} {columns:LC} {kind:Int} {deep:Int} (k:∀r,(1<=r.1.length)->(r.1.length<=M.eB deep)->(∀v∈r.1,v.2.2.1.2.2.1.size<=20)->(p<=r.2)->(r.2<=p+40 * M.eB deep)->ok (f r) K) (h_b:Sm (Ty.sl (Ty.int .u8)) b:=by exact au) (h_columns:Sm (Ty.sl ag) columns:=by exact au) (p0:M.aq b:=by exact au) (p1:0<=p:=by exact au) (p2:p+40 * (M.eB deep:Int)<=996000000000000:=by exact au) (p3:deep<=3:=by exact au) (p4:deep.toNat<n_:=by exact au):ok (aK (M.bB n_ b p columns kind deep) f) K:=by
 have h:=M.oa n_ b p columns kind deep h_b h_columns p0 p1 p2 p3 p4
 obtain⟨h0,h1,h2,h3,h4⟩:=h
 exact k _ h0 h1 h2 h3 h4
theorem F.Bf (n:Int) (low:Int) (high:Int)  : F.uY n low high=some (M.inR n low high):=by
 unfold F.uY M.inR
 cases decide (low<=n)<;>rfl
theorem F.vf (s:aj.D) (h_s:Sm aj s):F.mL s=some (M.bR s):=by
 unfold F.mL M.bR M.two
 generalize decide (s.2.1=(0:Int))=a0
 generalize decide (s.2.2.1=(0:Int))=b0
 generalize decide (s.2.2.2.1=(0:Int))=n0
 generalize decide ((s.2.2.2.2.1.length:Int)=(0:Int))=e0
 generalize decide ((s.2.2.2.2.2.1.length:Int)=(0:Int))=l0
 by_cases h1:s.1=(1:Int)
 ·simp only[h1,Int.reduceEq,decide_true,decide_false]
  cases a0<;>cases b0<;>cases n0<;>cases e0<;>cases l0<;>rfl
 by_cases h2:s.1=(2:Int)
 ·simp only[h2,Int.reduceEq,decide_true,decide_false]
  cases a0<;>cases b0<;>cases n0<;>cases e0<;>cases l0<;>rfl
 by_cases h3:s.1=(3:Int)
 ·simp only[h3,Int.reduceEq,decide_true,decide_false]
  cases a0<;>cases b0<;>cases n0<;>cases e0<;>cases l0<;>rfl
 by_cases h4:s.1=(4:Int)
 ·simp only[h4,Int.reduceEq,decide_true,decide_false]
  cases a0<;>cases b0<;>cases n0<;>cases e0<;>cases l0<;>rfl
 by_cases h5:s.1=(5:Int)
 ·simp only[h5,Int.reduceEq,decide_true,decide_false]
  cases a0<;>cases b0<;>cases n0<;>cases e0<;>cases l0<;>rfl
 simp only[h1,h2,h3,h4,h5,decide_false]
 cases a0<;>cases b0<;>cases n0<;>cases e0<;>cases l0<;>rfl
theorem F.sV (columns:LC) (h_columns:Sm (Ty.sl ag) columns):F.lH columns=some (M.bA columns):=by
 unfold F.lH M.bA
 rw[iR M.dQ () (fun x _=>by simp only[F.fU,kZ,cn]<;>rfl),show decide ((columns.length:Int)<=4)=decide (columns.length<=4) from decide_eq_decide.2 (by omega)]
 cases columns.all M.dQ<;>simp
theorem F.yy (s:ByteArray) (h_s:Sm Ty.str s):F.qd s=some (M.text s):=by
 unfold F.qd M.text M.lower
 have key:∀c:Int,(cond ((decide (c<97))==false) (cond (decide (122<c)) (some (Sum.inr ())) (some (Sum.inl ()))) (some (Sum.inr ())):Option (Sum Unit Unit))=some (cond (M.inR c 97 122) (.inl ()) (.inr ())):=by
  intro c
  unfold M.inR
  by_cases h2:c<97
  ·simp[h2,show ¬ 97<=c by omega]
  ·by_cases h3:122<c
   ·simp[h2,h3,show 97<=c by omega,show ¬c<=122 by omega]
   ·simp[h2,h3,show 97<=c by omega,show c<=122 by omega]
 rw[iR (fun i=>M.inR (nth (t:=.int .u8) (bM s) i) 97 122) () (fun i hi=>by
  obtain⟨h0,h1⟩:=jn.1 hi
  simp only[F.iQ,AL h0 h1]
  exact key _)]
 rw[<-kg,ER (t:=.int .u8) (bM s) (fun n=>M.inR n 97 122),show decide (((bM s).length:Int)<=6)=decide ((bM s).length<=6) from decide_eq_decide.2 (by omega)]
 cases (bM s).all fun n=>M.inR n 97 122<;>simp
theorem F.wT (v:aa.D) (h_v:Sm aa v):F.pe v=some (M.aL v):=by
 unfold F.pe M.aL
 simp only[jx]
 simp only[cn]
theorem F.xB (columns:LC) (kinds:(List Int)) (p:aC.D) (h_columns:Sm (Ty.sl ag) columns) (h_kinds:Sm (Ty.sl (Ty.int .i64)) kinds) (h_p:Sm aC p) (p0:kinds.length<=1000):F.jY columns kinds p=some (M.uA columns kinds p):=by
 obtain⟨o,s,e,_⟩:=tS (columns:=columns) p p0 h_columns.1
 unfold M.uA
 rw[e]
 rfl
theorem F.uH (columns:LC) (e:LPt) (h_columns:Sm (Ty.sl ag) columns) (h_e:Sm (Ty.sl aC) e):F.mR columns e=some (M.cO columns e):=by
 unfold F.mR M.cO
 cases M.bA columns
 ·rfl
 by_cases hl:e.length<=12
 ·rw[decide_eq_false (show ¬(12:Int)<(e.length:Int) by omega),decide_eq_true hl]
  obtain⟨o,s,h1,h2⟩:=zu (columns:=columns) (E:=e) (by omega) h_columns.1 e.length 0 [] (by omega) (by omega) (by simp;omega)
  rw[show (0:Int)=((0:Nat):Int) from rfl,h1]
  rw[List.drop_zero] at h2
  unfold mQ at h2
  cases hk:M.jc columns e [] with
  | none=>
   rw[hk] at h2
   simp only at h2
   subst h2
   rfl
  | some s'=>
   rw[hk] at h2
   obtain⟨rfl,rfl⟩:=h2
   match s with
   | []=>rfl
   | [a]=>exact ah (by simp)
   | a::b::l=>
    have:¬((a::b::l).length:Int)=1:=by simp;omega
    simp only[Option.bind_some,this,decide_false]
    rfl
 ·rw[decide_eq_true (show (12:Int)<(e.length:Int) by omega),decide_eq_false hl]
  rfl
theorem F.uq (tables:LTb) (ahead:LLC) (s:aj.D) (h_tables:Sm (Ty.sl ax) tables) (h_ahead:Sm (Ty.sl (Ty.sl ag)) ahead) (h_s:Sm aj s):F.gA tables ahead s=some (M.eY tables ahead s):=by
 obtain⟨r,h1,_⟩:=yY h_tables h_ahead h_s
 unfold M.eY
 rw[h1]
 rfl
theorem F.ym (ahead:(List Int)) (s:aj.D) (h_ahead:Sm (Ty.sl (Ty.int .i64)) ahead) (h_s:Sm aj s) (p0:M.oo (ahead.length:Int) s):F.qa ahead s=some (M.bf ahead s):=by
 unfold F.qa M.bf
 by_cases h1:s.1=(1:Int)
 ·simp only[h1,decide_true,cond_true]
 obtain⟨⟨a0,a1⟩,⟨b0,b1⟩⟩:=p0 h1
 rw[decide_eq_false h1]
 repeat rw[ah a0]
 repeat rw[ah a1]
 repeat rw[ah b0]
 repeat rw[ah b1]
 cases decide (s.1=(4:Int))<;>cases decide (s.1=(5:Int))<;>rfl
theorem F.zl (tables:LTb) (plan:LS) (h_tables:Sm (Ty.sl ax) tables) (h_plan:Sm (Ty.sl aj) plan):F.rY tables plan=some (M.dg tables plan):=by
 unfold F.rY M.dg M.mh
 obtain⟨o,h1,h2⟩:=M.Aa (f:=F.ia tables plan) (M.bS tables) (fun t=>t) (fun n (st:gF)=>st.1.length=n/\st.2.length=n/\∀x∈st.1,x.length<=1048576) plan plan [] ([],[]) rfl ⟨rfl,rfl,fun x h=>by cases h⟩ (fun m st hm hI=>by
  obtain⟨l1,l2,hx⟩:=hI
  have hp:=h_plan.1
  have hc:Sm (.sl (.sl ag)) st.1:=⟨by omega,fun x h=>M.yO (hx x h)⟩
  have hstep:=aJ h_plan (m:Int)
  have hl6:=Ih h_tables hc hstep
  unfold F.ia M.bS
  rw[ah hc,aY,<-hl6]
  cases hb:(M.eY tables st.1 (nth (t:=aj) plan (m:Int))).2 with
  | false=>exact⟨.inr (),rfl,rfl⟩
  | true=>
   rw[hb,cond_true] at hl6
   have hin:=M.qC hl6.symm
   have hsm:=M.vH h_tables hx hl6.symm
   have e12:(st.1.length:Int)=(st.2.length:Int):=by omega
   rw[e12] at hin
   simp only[Bool.not_true,cond_false,cond_true]
   rw[ah (by unfold lim;simp;omega),ah (show Sm (.sl (.int .i64)) st.2 from⟨by omega,fun x _=>trivial⟩),ah hin,ah (by unfold lim;simp;omega),ah (by simp;omega)]
   have hn:nth (t:=.int .i64) (st.2++[M.bf st.2 (nth (t:=aj) plan (m:Int))]) (m:Int)=M.bf st.2 (nth (t:=aj) plan (m:Int)):=by
    unfold nth
    rw[List.getD_eq_getElem?_getD]
    simp[<-l2]
   rw[hn]
   cases hd:decide ((300:Int)<M.bf st.2 (nth (t:=aj) plan (m:Int))) with
   | true=>exact⟨.inr (),rfl,rfl⟩
   | false=>
    refine⟨_,rfl,rfl,by simp[l1],by simp[l2],fun x h=>?_⟩
    rcases List.mem_append.1 h with h | h
    ·exact hx x h
    ·cases List.mem_singleton.1 h
     exact hsm)
 rw[show (br (0:Int) (plan.length:Int))=br ((([]:List aj.D).length:Nat):Int) (plan.length:Int) from rfl,h1]
 match o with
 | .inl st=>
  simp only at h2
  rw[h2.1]
  rfl
 | .inr _=>
  simp only at h2
  rw[h2]
  rfl
theorem F.pK (b:(List Int)) (p:Int) (tables:LTb) (h_b:Sm (Ty.sl (Ty.int .u8)) b) (h_tables:Sm (Ty.sl ax) tables) (p0:M.aq b) (p1:0<=p) (p2:p<=995000000000000) (p3:(∀t∈tables,M.gX t)):ok (F.iY b p tables) (fun r=>r.1.length<=6/\1<=r.1.length/\(∀s∈r.1,M.eI s)/\p<=r.2/\r.2<=p+100000):=by
  unfold F.iY
  have hE:=M.DP (d:=(2:Int))
  have hE2:M.eB (2:Int)=27:=by decide
  refine okG ?_
  refine aA fun r1 h_1_3_0 h_1_3_1 h_1_3_2 h_1_3_3=>?_
  refine okG ?_
  refine okG ?_
  refine aA fun r2 h_2_1_0 h_2_1_1 h_2_1_2 h_2_1_3=>?_
  refine okT (A:=fun e0=>p<=e0.1/\e0.1<=p+16000/\e0.2.length<=6/\1<=e0.2.length/\(∀s∈e0.2,M.eI s)) (B:=fun q0=>p<=q0.1/\q0.1<=p+16000/\q0.2.length<=6/\1<=q0.2.length/\(∀s∈q0.2,M.eI s)) ?_ (fun e0 h_e0=>?_) (fun q0 h_q0=>?_)
  ·refine okW (fun(k:Nat) (v0:Int×Int×LS)=>0<=v0.1/\v0.1<=(k:Int)/\(v0.2.2.length:Int)+v0.1<=6/\1<=v0.2.2.length/\(∀s∈v0.2.2,M.eI s)/\p<=v0.2.1/\v0.2.1+3000 * v0.1<=p+16000) (fun k v0 hI=>?_) (6:Nat) _ ⟨au,au,au,au,au,au,au⟩
   obtain⟨i_0,i_1,i_2,i_3,i_4,i_5,i_6⟩:=hI
   unfold F.iy
   refine okD (fun c_11=>?_) (fun c_11=>?_)
   ·refine okG ?_ (M.pP (n:=1000) (by first | omega | (simp only[List.length_append,List.length_cons,List.length_nil];omega)) (by exact cl) (by decide))
    refine okL fun r3 er3=>?_
    have k_a:=M.AQ p3 er3
    refine okC (fun c_12=>?_) (fun c_12=>?_)
    ·exact FZ ⟨au,au,au,au,au⟩
    ·have l_a:=M.BA er3 c_12
     have l_b:r3.1.length<=6:=by omega
     refine okG ?_
     refine okG ?_
     refine okG ?_
     refine aA fun r4 h_9_3_0 h_9_3_1 h_9_3_2 h_9_3_3=>?_
     have t_a:=M.HK h_9_3_0 (h_9_3_1 (by decide)) (n:=(v0.2.2.length:Int)) (by omega) (by omega)
     refine okD (fun c_13=>?_) (fun c_13=>?_)
     ·refine okG ?_
      refine okG ?_
      refine aA fun r5 h_12_3_0 h_12_3_1 h_12_3_2 h_12_3_3=>?_
      refine okG ?_
      refine okG ?_
      refine aA fun r6 h_13_1_0 h_13_1_1 h_13_1_2 h_13_1_3=>?_
      refine okB (A:=fun e2=>v0.2.1<=e2.1/\e2.1<=v0.2.1+2000/\e2.2.2.2.2.2.1.length<=81/\(∀v∈e2.2.2.2.2.2.1,v.2.2.1.2.2.1.size<=20)/\e2.2.2.2.2.2.2.length<=3) ?_ (fun e2 h_e2=>?_)
      ·refine okW (fun(_:Nat) (_:Unit)=>True) (fun _ v2 _=>?_) 0 _ trivial
       unfold F.dN
       refine okD (fun c_3=>?_) (fun c_3=>?_)
       ·refine okG ?_
        refine okG ?_
        refine okG ?_ (M.kR rfl (M.kT k_a _) (by decide))
        refine okG ?_
        refine okG ?_
        refine okG ?_
        refine okG ?_
        refine okG ?_
        refine dV fun r7 h_15_6_0 h_15_6_1 h_15_6_2 h_15_6_3 h_15_6_4=>?_
        exact dm ⟨au,au,au,au,au⟩
       ·refine okD (fun c_4=>?_) (fun c_4=>?_)
        ·refine okG ?_
         refine okG ?_
         refine okG ?_
         refine aA fun r8 h_18_1_0 h_18_1_1 h_18_1_2 h_18_1_3=>?_
         refine okB (A:=fun e3=>v0.2.1<=e3.1/\e3.1<=v0.2.1+30/\e3.2.length<=3) ?_ (fun e3 h_e3=>?_)
         ·refine okW (fun(k:Nat) (v3:Int×Int×(List Int))=>0<=v3.1+1/\v3.1+1<=(k:Int)/\(v3.2.2.length:Int)+v3.1<=2/\v0.2.1<=v3.2.1/\v3.2.1+v3.1<=v0.2.1+20) (fun k v3 hI=>?_) (3:Nat) _ ⟨au,au,au,au,au⟩
          obtain⟨i_0,i_1,i_2,i_3,i_4⟩:=hI
          unfold F.fE
          refine EY (fun c_0=>?_) (fun c_0=>?_)
          ·refine okG ?_
           refine okG ?_
           refine okD (fun c_1=>?_) (fun c_1=>?_)
           ·refine okG ?_
            refine okG ?_
            refine okG ?_
            refine aA fun r9 h_21_8_0 h_21_8_1 h_21_8_2 h_21_8_3=>?_
            refine okG ?_ (by simp only[List.length_cons,List.length_nil,List.length_append,lim];omega)
            exact fq ⟨k-1,by omega,au,au,au,au,au⟩
           ·exact dm ⟨au,au,au⟩
          ·exact dm ⟨au,au,au⟩
         ·obtain⟨e3_0,e3_1,e3_2⟩:=h_e3
          exact dm ⟨au,au,au,au,au⟩
        ·refine okD (fun c_5=>?_) (fun c_5=>?_)
         ·refine okG ?_
          refine okG ?_
          refine okG ?_
          refine aA fun r10 h_24_2_0 h_24_2_1 h_24_2_2 h_24_2_3=>?_
          refine okG ?_
          refine okG ?_
          refine okG ?_
          refine okG ?_
          refine okG ?_ (M.jl1 k_a)
          refine okG ?_ (M.jl2 k_a)
          refine okD (fun c_6=>?_) (fun c_6=>?_)
          ·refine okG ?_ (M.jl3 k_a)
           refine okG ?_
           refine okG ?_
           refine okG ?_
           refine okG ?_
           refine dV fun r11 h_27_4_0 h_27_4_1 h_27_4_2 h_27_4_3 h_27_4_4=>?_
           exact dm ⟨au,au,au,au,au⟩
          ·exact dm ⟨au,au,au,au,au⟩
         ·refine okD (fun c_7=>?_) (fun c_7=>?_)
          ·refine okG ?_
           refine okG ?_
           refine okG ?_
           refine aA fun r10 h_24_2_0 h_24_2_1 h_24_2_2 h_24_2_3=>?_
           refine okG ?_
           refine okG ?_
           refine okG ?_
           refine okG ?_
           refine okG ?_ (M.jl1 k_a)
           refine okG ?_ (M.jl2 k_a)
           refine okD (fun c_8=>?_) (fun c_8=>?_)
           ·refine okG ?_ (M.jl3 k_a)
            refine okG ?_
            refine okG ?_
            refine okG ?_
            refine okG ?_
            refine dV fun r11 h_27_4_0 h_27_4_1 h_27_4_2 h_27_4_3 h_27_4_4=>?_
            exact dm ⟨au,au,au,au,au⟩
           ·exact dm ⟨au,au,au,au,au⟩
          ·refine okD (fun c_9=>?_) (fun c_9=>?_)
           ·refine okG ?_ (by unfold nO;omega)
            refine okT (A:=fun v5=>(0:Int)<=0/\(0:Int)<=0) (B:=fun _=>False) ?_ (fun v5 h_v5=>?_) (fun _ h=>h.elim)
            ·refine HR (fun(k:Nat) (v5:Int×Int×Int×Int)=>(0:Int)<=0/\(0:Int)<=0) ⟨au,au⟩ (fun z5 hz k v5 hk hI=>?_)
             obtain⟨i_0,i_1⟩:=hI
             unfold F.fJ
             refine okG ?_ (M.AO l_b k_a (by decide))
             refine okL fun r12 er12=>?_
             refine okC (fun c_2=>?_) (fun c_2=>?_)
             ·exact fq ⟨au,au⟩
             ·exact fq ⟨au,au⟩
            ·obtain⟨v5_0,v5_1⟩:=h_v5
             exact dm ⟨au,au,au,au,au⟩
           ·refine okD (fun c_10=>?_) (fun c_10=>?_)
            ·exact dm ⟨au,au,au,au,au⟩
            ·exact dm ⟨au,au,au,au,au⟩
      ·obtain⟨e2_0,e2_1,e2_2,e2_3,e2_4⟩:=h_e2
       refine okG ?_ (by simp only[List.length_cons,List.length_nil,List.length_append,lim];omega)
       refine okG ?_ (by simp only[List.length_cons,List.length_nil,List.length_append,lim];omega)
       refine okG ?_ (M.pP (n:=1000) (by first | omega | (simp only[List.length_append,List.length_cons,List.length_nil];omega)) (by exact cl) (by decide))
       refine okL fun r13 er13=>?_
       refine okC (fun c_14=>?_) (fun c_14=>?_)
       ·refine okG ?_ (by simp only[List.length_cons,List.length_nil,List.length_append,lim];omega)
        exact fq ⟨k-1,by omega,au,au,au,au,au,au,au⟩
       ·exact fq ⟨k-1,by omega,au,au,au,au,au,au,au⟩
     ·refine okG ?_
      refine okG ?_
      refine aA fun r5 h_12_3_0 h_12_3_1 h_12_3_2 h_12_3_3=>?_
      refine okG ?_
      refine okG ?_
      refine aA fun r6 h_13_1_0 h_13_1_1 h_13_1_2 h_13_1_3=>?_
      refine okB (A:=fun e2=>v0.2.1<=e2.1/\e2.1<=v0.2.1+2000/\e2.2.2.2.2.2.1.length<=81/\(∀v∈e2.2.2.2.2.2.1,v.2.2.1.2.2.1.size<=20)/\e2.2.2.2.2.2.2.length<=3) ?_ (fun e2 h_e2=>?_)
      ·refine okW (fun(_:Nat) (_:Unit)=>True) (fun _ v2 _=>?_) 0 _ trivial
       unfold F.dN
       refine okD (fun c_3=>?_) (fun c_3=>?_)
       ·refine okG ?_
        refine okG ?_
        refine okG ?_ (M.kR rfl (M.kT k_a _) (by decide))
        refine okG ?_
        refine okG ?_
        refine okG ?_
        refine okG ?_
        refine okG ?_
        refine dV fun r7 h_15_6_0 h_15_6_1 h_15_6_2 h_15_6_3 h_15_6_4=>?_
        exact dm ⟨au,au,au,au,au⟩
       ·refine okD (fun c_4=>?_) (fun c_4=>?_)
        ·refine okG ?_
         refine okG ?_
         refine okG ?_
         refine aA fun r8 h_18_1_0 h_18_1_1 h_18_1_2 h_18_1_3=>?_
         refine okB (A:=fun e3=>v0.2.1<=e3.1/\e3.1<=v0.2.1+30/\e3.2.length<=3) ?_ (fun e3 h_e3=>?_)
         ·refine okW (fun(k:Nat) (v3:Int×Int×(List Int))=>0<=v3.1+1/\v3.1+1<=(k:Int)/\(v3.2.2.length:Int)+v3.1<=2/\v0.2.1<=v3.2.1/\v3.2.1+v3.1<=v0.2.1+20) (fun k v3 hI=>?_) (3:Nat) _ ⟨au,au,au,au,au⟩
          obtain⟨i_0,i_1,i_2,i_3,i_4⟩:=hI
          unfold F.fE
          refine EY (fun c_0=>?_) (fun c_0=>?_)
          ·refine okG ?_
           refine okG ?_
           refine okD (fun c_1=>?_) (fun c_1=>?_)
           ·refine okG ?_
            refine okG ?_
            refine okG ?_
            refine aA fun r9 h_21_8_0 h_21_8_1 h_21_8_2 h_21_8_3=>?_
            refine okG ?_ (by simp only[List.length_cons,List.length_nil,List.length_append,lim];omega)
            exact fq ⟨k-1,by omega,au,au,au,au,au⟩
           ·exact dm ⟨au,au,au⟩
          ·exact dm ⟨au,au,au⟩
         ·obtain⟨e3_0,e3_1,e3_2⟩:=h_e3
          exact dm ⟨au,au,au,au,au⟩
        ·refine okD (fun c_5=>?_) (fun c_5=>?_)
         ·refine okG ?_
          refine okG ?_
          refine okG ?_
          refine aA fun r10 h_24_2_0 h_24_2_1 h_24_2_2 h_24_2_3=>?_
          refine okG ?_
          refine okG ?_
          refine okG ?_
          refine okG ?_
          refine okG ?_ (M.jl1 k_a)
          refine okG ?_ (M.jl2 k_a)
          refine okD (fun c_6=>?_) (fun c_6=>?_)
          ·refine okG ?_ (M.jl3 k_a)
           refine okG ?_
           refine okG ?_
           refine okG ?_
           refine okG ?_
           refine dV fun r11 h_27_4_0 h_27_4_1 h_27_4_2 h_27_4_3 h_27_4_4=>?_
           exact dm ⟨au,au,au,au,au⟩
          ·exact dm ⟨au,au,au,au,au⟩
         ·refine okD (fun c_7=>?_) (fun c_7=>?_)
          ·refine okG ?_
           refine okG ?_
           refine okG ?_
           refine aA fun r10 h_24_2_0 h_24_2_1 h_24_2_2 h_24_2_3=>?_
           refine okG ?_
           refine okG ?_
           refine okG ?_
           refine okG ?_
           refine okG ?_ (M.jl1 k_a)
           refine okG ?_ (M.jl2 k_a)
           refine okD (fun c_8=>?_) (fun c_8=>?_)
           ·refine okG ?_ (M.jl3 k_a)
            refine okG ?_
            refine okG ?_
            refine okG ?_
            refine okG ?_
            refine dV fun r11 h_27_4_0 h_27_4_1 h_27_4_2 h_27_4_3 h_27_4_4=>?_
            exact dm ⟨au,au,au,au,au⟩
           ·exact dm ⟨au,au,au,au,au⟩
          ·refine okD (fun c_9=>?_) (fun c_9=>?_)
           ·refine okG ?_ (by unfold nO;omega)
            refine okT (A:=fun v5=>(0:Int)<=0/\(0:Int)<=0) (B:=fun _=>False) ?_ (fun v5 h_v5=>?_) (fun _ h=>h.elim)
            ·refine HR (fun(k:Nat) (v5:Int×Int×Int×Int)=>(0:Int)<=0/\(0:Int)<=0) ⟨au,au⟩ (fun z5 hz k v5 hk hI=>?_)
             obtain⟨i_0,i_1⟩:=hI
             unfold F.fJ
             refine okG ?_ (M.AO l_b k_a (by decide))
             refine okL fun r12 er12=>?_
             refine okC (fun c_2=>?_) (fun c_2=>?_)
             ·exact fq ⟨au,au⟩
             ·exact fq ⟨au,au⟩
            ·obtain⟨v5_0,v5_1⟩:=h_v5
             exact dm ⟨au,au,au,au,au⟩
           ·refine okD (fun c_10=>?_) (fun c_10=>?_)
            ·exact dm ⟨au,au,au,au,au⟩
            ·exact dm ⟨au,au,au,au,au⟩
      ·obtain⟨e2_0,e2_1,e2_2,e2_3,e2_4⟩:=h_e2
       refine okG ?_ (by simp only[List.length_cons,List.length_nil,List.length_append,lim];omega)
       refine okG ?_ (by simp only[List.length_cons,List.length_nil,List.length_append,lim];omega)
       refine okG ?_ (M.pP (n:=1000) (by first | omega | (simp only[List.length_append,List.length_cons,List.length_nil];omega)) (by exact cl) (by decide))
       refine okL fun r13 er13=>?_
       refine okC (fun c_15=>?_) (fun c_15=>?_)
       ·refine okG ?_ (by simp only[List.length_cons,List.length_nil,List.length_append,lim];omega)
        exact fq ⟨k-1,by omega,au,au,au,au,au,au,au⟩
       ·exact fq ⟨k-1,by omega,au,au,au,au,au,au,au⟩
   ·exact CI ⟨au,au,au,au,au⟩
  ·obtain⟨e0_0,e0_1,e0_2,e0_3,e0_4⟩:=h_e0
   exact pN
  ·obtain⟨q0_0,q0_1,q0_2,q0_3,q0_4⟩:=h_q0
   exact pN
theorem F.wC (b:(List Int)) (p:Int) (tables:LTb) (h_b:Sm (Ty.sl (Ty.int .u8)) b) (h_tables:Sm (Ty.sl ax) tables) (p0:M.aq b) (p1:0<=p) (p2:p<=995000000000000) (p3:(∀t∈tables,M.gX t)):F.iY b p tables=some (M.jH b p tables):=gV (F.pK b p tables h_b h_tables p0 p1 p2 p3)
theorem M.Bb (b:(List Int)) (p:Int) (tables:LTb) (h_b:Sm (Ty.sl (Ty.int .u8)) b) (h_tables:Sm (Ty.sl ax) tables) (p0:M.aq b) (p1:0<=p) (p2:p<=995000000000000) (p3:(∀t∈tables,M.gX t)):(M.jH b p tables).1.length<=6/\1<=(M.jH b p tables).1.length/\(∀s∈(M.jH b p tables).1,M.eI s)/\p<=(M.jH b p tables).2/\(M.jH b p tables).2<=p+100000:=gU (F.pK b p tables h_b h_tables p0 p1 p2 p3)
theorem uG {α:Type} {K:α->Prop} {f:LS×Int->Option α} {b:(List Int)} {p:Int} {tables:LTb} (k:∀r,(r.1.length<=6)->(1<=r.1.length)->(∀s∈r.1,M.eI s)->(p<=r.2)->(r.2<=p+100000)->ok (f r) K) (h_b:Sm (Ty.sl (Ty.int .u8)) b:=by exact au) (h_tables:Sm (Ty.sl ax) tables:=by exact au) (p0:M.aq b:=by exact au) (p1:0<=p:=by exact au) (p2:p<=995000000000000:=by exact au) (p3:(∀t∈tables,M.gX t):=by exact au):ok (aK (M.jH b p tables) f) K:=by
 have h:=M.Bb b p tables h_b h_tables p0 p1 p2 p3
 obtain⟨h0,h1,h2,h3,h4⟩:=h
 exact k _ h0 h1 h2 h3 h4
theorem F.pq (b:(List Int)) (p:Int) (n:Int) (h_b:Sm (Ty.sl (Ty.int .u8)) b) (p0:M.aq b) (p1:0<=p) (p2:p<=994000000000000):ok (F.jg b p n) (fun r=>r.1.length<=6/\1<=r.1.length/\(∀t∈r.1,M.gX t)/\r.2.1.length<=6/\(∀s∈r.2.1,M.eI s)/\p<=r.2.2/\r.2.2<=p+200000):=by
  unfold F.jg
  refine okG ?_
  refine lA fun r1 h_1_1_0 h_1_1_1 h_1_1_2 h_1_1_3 h_1_1_4 h_1_1_5 h_1_1_6=>?_
  have q_a:=h_1_1_5 (by decide)
  have q_b:=h_1_1_6 (by decide)
  refine okG ?_
  refine okG ?_
  refine okG ?_
  refine okG ?_
  refine uG fun r2 h_2_2_0 h_2_2_1 h_2_2_2 h_2_2_3 h_2_2_4=>?_
  refine okG ?_
  refine okG ?_
  refine jf fun r3 h_3_2_0 h_3_2_1 h_3_2_2=>?_
  refine okC (fun c_0=>?_) (fun c_0=>?_)
  ·refine okG ?_
   refine okG ?_
   refine aA fun r4 h_4_1_0 h_4_1_1 h_4_1_2 h_4_1_3=>?_
   refine okD (fun c_1=>?_) (fun c_1=>?_)
   ·exact Bv
   ·refine okD (fun c_2=>?_) (fun c_2=>?_)
    ·refine okG ?_
     refine okG ?_
     refine aA fun r5 h_9_4_0 h_9_4_1 h_9_4_2 h_9_4_3=>?_
     refine okG ?_
     refine okG ?_
     refine aA fun r6 h_9_6_0 h_9_6_1 h_9_6_2 h_9_6_3=>?_
     have s_a:=M.Ie (k:=r5.1.toNat) (i:=r5.1) (v:=wrap64 (r6.1-(1:Int))) h_2_2_2
     refine okG ?_
     refine okG ?_
     refine okL fun y1 ey1=>?_
     subst ey1
     exact Bv
    ·refine okD (fun c_3=>?_) (fun c_3=>?_)
     ·refine okG ?_
      refine okG ?_
      refine aA fun r7 h_11_4_0 h_11_4_1 h_11_4_2 h_11_4_3=>?_
      refine okG ?_
      refine okG ?_
      refine aA fun r8 h_11_6_0 h_11_6_1 h_11_6_2 h_11_6_3=>?_
      have s_b:=M.Im (k:=r7.1.toNat) (i:=r7.1) (v:=r8.1) h_2_2_2
      refine okG ?_
      refine okG ?_
      exact Bv
     ·refine okG ?_
      refine okG ?_
      refine lA fun r9 h_5_1_0 h_5_1_1 h_5_1_2 h_5_1_3 h_5_1_4 h_5_1_5 h_5_1_6=>?_
      exact Bv
  ·exact Bv
theorem F.xd (b:(List Int)) (p:Int) (n:Int) (h_b:Sm (Ty.sl (Ty.int .u8)) b) (p0:M.aq b) (p1:0<=p) (p2:p<=994000000000000):F.jg b p n=some (M.fX b p n):=gV (F.pq b p n h_b p0 p1 p2)
theorem M.Bh (b:(List Int)) (p:Int) (n:Int) (h_b:Sm (Ty.sl (Ty.int .u8)) b) (p0:M.aq b) (p1:0<=p) (p2:p<=994000000000000):(M.fX b p n).1.length<=6/\1<=(M.fX b p n).1.length/\(∀t∈(M.fX b p n).1,M.gX t)/\(M.fX b p n).2.1.length<=6/\(∀s∈(M.fX b p n).2.1,M.eI s)/\p<=(M.fX b p n).2.2/\(M.fX b p n).2.2<=p+200000:=gU (F.pq b p n h_b p0 p1 p2)
theorem nK {α:Type} {K:α->Prop} {f:LTb×LS×Int->Option α} {b:(List Int)} {p:Int} {n:Int} (k:∀r,(r.1.length<=6)->(1<=r.1.length)->(∀t∈r.1,M.gX t)->(r.2.1.length<=6)->(∀s∈r.2.1,M.eI s)->(p<=r.2.2)->(r.2.2<=p+200000)->ok (f r) K) (h_b:Sm (Ty.sl (Ty.int .u8)) b:=by exact au) (p0:M.aq b:=by exact au) (p1:0<=p:=by exact au) (p2:p<=994000000000000:=by exact au):ok (aK (M.fX b p n) f) K:=by
 have h:=M.Bh b p n h_b p0 p1 p2
 obtain⟨h0,h1,h2,h3,h4,h5,h6⟩:=h
 exact k _ h0 h1 h2 h3 h4 h5 h6
theorem F.jW (code:(List Int)) (h_code:Sm (Ty.sl (Ty.int .u8)) code) (p0:M.aq code):ok (F.eH code) (fun r=>r.1.length<=6/\1<=r.1.length/\(∀t∈r.1,M.gX t)/\r.2.length<=6/\(∀s∈r.2,M.eI s)):=by
  unfold F.eH
  refine okD (fun c_0=>?_) (fun c_0=>?_)
  ·refine okG ?_
   refine okG ?_
   refine okG ?_
   refine okG ?_
   refine okG ?_
   refine nK fun r1 h_1_2_0 h_1_2_1 h_1_2_2 h_1_2_3 h_1_2_4 h_1_2_5 h_1_2_6=>?_
   exact pN
  ·refine okG ?_
   refine okG ?_
   refine nK fun r1 h_1_2_0 h_1_2_1 h_1_2_2 h_1_2_3 h_1_2_4 h_1_2_5 h_1_2_6=>?_
   exact pN
theorem F.qA (code:(List Int)) (h_code:Sm (Ty.sl (Ty.int .u8)) code) (p0:M.aq code):F.eH code=some (M.cV code):=gV (F.jW code h_code p0)
theorem M.lY (code:(List Int)) (h_code:Sm (Ty.sl (Ty.int .u8)) code) (p0:M.aq code):(M.cV code).1.length<=6/\1<=(M.cV code).1.length/\(∀t∈(M.cV code).1,M.gX t)/\(M.cV code).2.length<=6/\(∀s∈(M.cV code).2,M.eI s):=gU (F.jW code h_code p0)
theorem Bx {α:Type} {K:α->Prop} {f:LTb×LS->Option α} {code:(List Int)} (k:∀r,(r.1.length<=6)->(1<=r.1.length)->(∀t∈r.1,M.gX t)->(r.2.length<=6)->(∀s∈r.2,M.eI s)->ok (f r) K) (h_code:Sm (Ty.sl (Ty.int .u8)) code:=by exact au) (p0:M.aq code:=by exact au):ok (aK (M.cV code) f) K:=by
 have h:=M.lY code h_code p0
 obtain⟨h0,h1,h2,h3,h4⟩:=h
 exact k _ h0 h1 h2 h3 h4
theorem F.zn (row:LV) (h_row:Sm (Ty.sl aa) row):F.sx row=some (M.nE row):=by
 unfold F.sx M.nE
 rw[iR M.aL () (fun x _=>by simp only[F.jF,kZ,cn]<;>rfl),show decide ((row.length:Int)<=4)=decide (row.length<=4) from decide_eq_decide.2 (by omega)]
 cases row.all M.aL<;>simp
theorem F.wv (columns:LC) (row:LV) (h_columns:Sm (Ty.sl ag) columns) (h_row:Sm (Ty.sl aa) row):F.ov columns row=some (M.cr columns row):=by
 unfold F.ov M.cr
 cases M.bA columns
 ·rfl
 cases M.nE row
 ·rfl
 by_cases hl:row.length=columns.length
 ·rw[iR (M.sy columns row) () (fun i hi=>by
   obtain⟨h0,h1⟩:=jn.1 hi
   have h2:i<(columns.length:Int):=by omega
   simp only[F.iz,ah h2]
   unfold M.sy
   cases decide ((nth (t:=aa) row i).1=(nth (t:=ag) columns i).1)<;>cases decide ((nth (t:=aa) row i).1=(0:Int))<;>cases (nth (t:=ag) columns i).2.1<;>rfl)]
  simp only[hl,Bool.not_true,decide_true,Bool.true_and,cond_true,cond_false]
  cases (br 0 (columns.length:Int)).all (M.sy columns row)<;>rfl
 ·have h3:¬(row.length:Int)=(columns.length:Int):=by omega
  simp[hl,h3]
theorem F.yV (columns:LC) (rows:LLV) (h_columns:Sm (Ty.sl ag) columns) (h_rows:Sm (Ty.sl (Ty.sl aa)) rows):F.qL columns rows=some (M.gG columns rows):=by
 unfold F.qL M.gG
 rw[iR (M.cr columns) () (fun x _=>by simp only[F.iZ,kZ,cn])]
 cases rows.all (M.cr columns)<;>simp
theorem F.uR (tables:LTb) (h_tables:Sm (Ty.sl ax) tables):F.nc tables=some (M.cA tables):=by
 unfold F.nc M.cA
 rw[iR M.de () (fun x _=>by
  simp only[F.gS]
  unfold M.de
  by_cases h:x.2.1.length<=6
  ·have h2:¬(6:Int)<(x.2.1.length:Int):=by omega
   simp only[h2,h,decide_true,decide_false,Bool.true_and]
   cases M.gG x.1 x.2.1<;>rfl
  ·have h2:(6:Int)<(x.2.1.length:Int):=by omega
   simp[h2,h]),show decide ((tables.length:Int)<=3)=decide (tables.length<=3) from decide_eq_decide.2 (by omega)]
 cases tables.all M.de<;>simp
theorem F.yb (tables:LTb) (plan:LS) (h_tables:Sm (Ty.sl ax) tables) (h_plan:Sm (Ty.sl aj) plan):F.qs tables plan=some (M.bL tables plan):=by
 unfold F.qs M.bL
 rw[aY]
 cases (M.dg tables plan).2<;>cases M.cA tables<;>rfl
theorem F.wY (truth:Int)  : F.nZ truth=some (M.valueOf truth):=by
 unfold F.nZ M.valueOf M.inR
 by_cases h0:truth=0
 ·subst h0;rfl
 ·by_cases h1:truth=1
  ·subst h1;rfl
  ·have h2:¬(0<=truth/\truth<=1):=by omega
   simp only[h0,h1,decide_false]
   by_cases h3:0<=truth
   ·have h4:¬truth<=1:=by omega
    simp[h3,h4]
   ·simp[h3]
theorem F.zp (a:aa.D) (b:aa.D) (h_a:Sm aa a) (h_b:Sm aa b):F.rP a b=some (M.sum a b):=by
 unfold F.rP M.sum
 have e:(0:Int)-9999=-9999:=rfl
 cases decide (a.1=(0:Int))<;>cases decide (b.1=(0:Int))<;>cases M.inR (wrap64 (a.2.1+b.2.1)) (-9999) 9999<;>rfl
theorem F.yu (b:Bool)  : F.pS b=some (M.bool b):=by
 unfold F.pS M.bool
 rw[cn]
theorem F.yd (a:Int) (b:Int)  : F.qj a b=some (M.less a b):=by
 unfold F.qj M.less
 rw[cn]
theorem F.zm (a:ByteArray) (b:ByteArray) (h_a:Sm Ty.str a) (h_b:Sm Ty.str b):F.rZ a b=some (M.sX a b):=by
 unfold F.rZ M.sX
 simp only[cn]
theorem F.sj (a:aa.D) (b:aa.D) (h_a:Sm aa a) (h_b:Sm aa b):F.kB a b=some (M.dO a b):=by
 unfold F.kB M.dO
 cases M.aL a
 ·rfl
 cases M.aL b
 ·rfl
 unfold M.order M.less M.tG
 by_cases h1:a.1=b.1
 ·by_cases h2:a.2.1=b.2.1
  ·simp[h1,h2,M.orI]
   generalize M.sX a.2.2.1 b.2.2.1=c
   by_cases hc:c=0<;>simp[hc]
  ·rcases Int.lt_or_gt_of_ne h2 with h | h
   ·have h3:¬b.2.1<a.2.1:=Int.lt_asymm h
    simp[h1,h2,h,h3,M.orI]
    rfl
   ·have h3:¬a.2.1<b.2.1:=Int.lt_asymm h
    simp[h1,h2,h,h3,M.orI]
    rfl
 ·rcases Int.lt_or_gt_of_ne h1 with h | h
  ·have h3:¬b.1<a.1:=Int.lt_asymm h
   simp[h1,h,h3,M.orI]
   rfl
  ·have h3:¬a.1<b.1:=Int.lt_asymm h
   simp[h1,h,h3,M.orI]
   rfl
theorem F.wk (kind:Int) (a:aa.D) (b:aa.D) (h_a:Sm aa a) (h_b:Sm aa b):F.nW kind a b=some (M.compare kind a b):=by
 unfold F.nW M.compare M.dO M.yH
 cases M.inR kind 1 4
 ·rfl
 cases M.aL a
 ·rfl
 cases M.aL b
 ·rfl
 cases decide (a.1=(0:Int))<;>cases decide (b.1=(0:Int))<;>cases decide (a.1=b.1)<;>cases decide (kind=1)<;>cases decide (kind=2)<;>cases decide (kind=3)<;>rfl
theorem F.xe (n:Int)  : F.tU n=some (M.inR n 0 2):=by
 rfl
theorem F.zf (n:Int) (p0:M.inR n 0 2=true):F.qn n=some (M.sure n):=by
 have h3:n=0\/n=1\/n=2:=by
  unfold M.inR at p0
  simp at p0
  omega
 rcases h3 with rfl | rfl | rfl<;>(unfold F.qn;(repeat rw[ah (by decide)]);rfl)
theorem F.zG (a:Int) (b:Int)  : F.sI a b=some (M.qx a b):=by
 unfold F.sI M.qx M.fold
 cases ha:M.inR a 0 2
 ·rfl
 cases hb:M.inR b 0 2
 ·rfl
 have h3:∀n,M.inR n 0 2=true->n=0\/n=1\/n=2:=by
  intro n hn
  unfold M.inR at hn
  simp at hn
  omega
 rcases h3 a ha with rfl | rfl | rfl<;>rcases h3 b hb with rfl | rfl | rfl<;>(repeat rw[ah (by rfl)])<;>rfl
theorem F.wN (v:aa.D) (h_v:Sm aa v):F.oK v=some (M.bW v):=by
 unfold F.oK M.bW
 cases hv:M.aL v
 ·rfl
 simp only[Bool.not_true,cond_true,cond_false]
 unfold M.aL at hv
 by_cases h0:v.1=(0:Int)
 ·simp[h0]
 ·by_cases h1:v.1=(1:Int)
  ·simp[h1]
  ·by_cases h2:v.1=(2:Int)
   ·simp[h2]
   ·by_cases h3:v.1=(3:Int)
    ·simp[h3]
    ·simp[h0,h1,h2,h3] at hv
theorem F.AX (a:Int) (b:Int)  : F.uU a b=some (M.xY a b):=by
 unfold F.uU M.xY M.fold
 cases ha:M.inR a 0 2
 ·rfl
 cases hb:M.inR b 0 2
 ·rfl
 have h3:∀n,M.inR n 0 2=true->n=0\/n=1\/n=2:=by
  intro n hn
  unfold M.inR at hn
  simp at hn
  omega
 rcases h3 a ha with rfl | rfl | rfl<;>rcases h3 b hb with rfl | rfl | rfl<;>(repeat rw[ah (by rfl)])<;>rfl
theorem F.zK (a:Int)  : F.rU a=some (M.qu a):=by
 unfold F.rU M.qu
 cases ha:M.inR a 0 2
 ·unfold M.inR at ha
  simp at ha
  have h0:¬a=0:=by omega
  have h1:¬a=1:=by omega
  have h2:¬a=2:=by omega
  simp[h0,h1,h2]
 ·have h3:a=0\/a=1\/a=2:=by
   unfold M.inR at ha
   simp at ha
   omega
  rcases h3 with rfl | rfl | rfl<;>(repeat rw[ah (by rfl)])<;>rfl
theorem F.Bw (row:LV) (values:LV) (p:aC.D) (h_row:Sm (Ty.sl aa) row) (h_values:Sm (Ty.sl aa) values) (h_p:Sm aC p) (p0:values.length<=1000) (p1:M.takes p<=(values.length:Int)) (p2:1<=p.1/\p.1<=8) (p3:M.lZ p row.length):F.qT row values p=some (M.eL row values p):=by
 exact CN p values (show Sm aC p from h_p) h_values p0 p1 p2 p3
theorem F.wo (row:LV) (e:LPt) (h_row:Sm (Ty.sl aa) row) (h_e:Sm (Ty.sl aC) e) (p0:M.cG row.length e):F.oT row e=some (M.fo row e):=by
 unfold F.oT M.fo
 obtain⟨h1,h2⟩:=yK (f:=F.ez row e) h_row (fun p st hp hs hl h1 hk hc=>zT p st hs hl h1 hk hc) e [] h_e.2 (iB aa) (by simp;have:=p0.1;omega) p0.2
 rw[h1,bp,ah (by omega)]
theorem F.wu (row:LV) (e:LPt) (h_row:Sm (Ty.sl aa) row) (h_e:Sm (Ty.sl aC) e) (p0:M.cG row.length e):F.tJ row e=some (M.holds row e):=by
 rfl
theorem F.wS (row:LV) (list:(List Int)) (h_row:Sm (Ty.sl aa) row) (h_list:Sm (Ty.sl (Ty.int .i64)) list) (p0:M.rH row list):F.oB row list=some (M.taken row list):=by
 unfold F.oB
 rw[zh (fun i=>nth (t:=aa) row i) (fun x hx s hs=>by
  have hl:=h_list.1
  obtain⟨h0,h1⟩:=p0 x hx
  simp only[F.iu]
  rw[ah h0,ah h1,ah (by unfold lim;simp;omega)])]
 rfl
theorem F.uP (a:LV) (b:LV) (h_a:Sm (Ty.sl aa) a) (h_b:Sm (Ty.sl aa) b):F.mO a b=some (a++b):=by
 unfold F.mO
 have h1:=h_a.1
 have h2:=h_b.1
 rw[aY,ah (by unfold lim;omega)]
theorem F.yg (a:LV) (b:LV) (h_a:Sm (Ty.sl aa) a) (h_b:Sm (Ty.sl aa) b):F.vD a b=some (decide (a=b)):=by
 exact BS (t:=aa) (fun i h0 h1 h2=>by simp only[F.iW,ah h2,kZ,cn,DB (t:=aa) rfl])
theorem F.wZ (rows:LLV) (row:LV) (h_rows:Sm (Ty.sl (Ty.sl aa)) rows) (h_row:Sm (Ty.sl aa) row):F.oc rows row=some (M.dx rows row:Int):=by
 unfold F.oc M.dx
 have hl:=h_rows.1
 have key:∀(l:List (List aa.D)) (v:Int),0<=v->v+(l.length:Int)<=1048576->aN (F.fF rows row) l v=some (.inl (v+(l.countP (fun r=>decide (r=row)):Int))):=by
  intro l
  induction l with
  | nil=>intro v _ _;show some (Sum.inl v)=some (Sum.inl (v+0));rw[Int.add_zero]
  | cons x l ih=>
   intro v h0 hb
   simp only[List.length_cons] at hb
   rw[bN,List.countP_cons,show F.fF rows row x v=cond (decide (x=row)) (some (.inl (wrap64 (v+(1:Int))))) (some (.inl v)) from rfl]
   cases decide (x=row) with
   | true=>
    rw[cond_true,aI (n:=v+(1:Int)) (by omega) (by omega),bp,ih _ (by omega) (by omega)]
    congr 2
    simp
    omega
   | false=>
    rw[cond_false,bp,ih _ h0 (by omega)]
    congr 2
 rw[key rows 0 (by omega) (by omega),bp,Int.zero_add]
theorem F.uD (rows:LLV) (h_rows:Sm (Ty.sl (Ty.sl aa)) rows):F.ng rows=some (M.cB rows):=by
 unfold F.ng M.cB
 have hfold:=rM (f:=F.eU rows) rows h_rows (fun z v hz hv=>by
  unfold F.eU M.dZ
  have hl:=h_rows.1
  rw[ah hv.1]
  cases decide ((M.dx v z:Int)=(0:Int)) with
  | false=>rfl
  | true=>
   simp only[cond_true,aY]
   rw[ah (by have:=hv.2;unfold lim;simp;omega)])
 rw[hfold.1]
 rfl
theorem F.ye (tables:LTb) (ahead:(List LLV)) (s:aj.D) (h_tables:Sm (Ty.sl ax) tables) (h_ahead:Sm (Ty.sl (Ty.sl (Ty.sl aa))) ahead) (h_s:Sm aj s) (p0:M.jC tables ahead s):F.qo tables ahead s=some (M.ck tables ahead s):=by
 obtain⟨r1,rin,rfew,r2,r3,r4⟩:=p0
 unfold F.qo M.ck
 by_cases h1:s.1=(1:Int)
 ·obtain⟨n0,n1⟩:=r1 h1
  have hsm:=(aJ h_tables s.2.2.2.1).2.1
  have hl:=hsm.1
  simp only[h1,decide_true,cond_true]
  rw[iE (t:=.sl aa) (u:=.sl aa) (fun x=>[x]) (nth (t:=ax) tables s.2.2.2.1).2.1 1 (fun x _=>by first | exact Nat.le_refl _ | (cases M.holds x s.2.2.2.2.1<;>simp)) [] (fun i v i0 i1 hv=>by
   unfold F.gu
   simp only
   rw[ah n0,ah n1,decide_eq_true i1,cond_true]
   rw[ah i0,ah i1,aY,ah (by simp at hv;unfold lim;simp;omega),aI (n:=i+1) (by omega) (by omega)]) (fun i v i0 i1=>by
   unfold F.gu
   simp only
   rw[ah n0,ah n1,decide_eq_false (Int.not_lt.2 i1),cond_false])]
  rw[qZ]
  rfl
 obtain⟨⟨a0,a1⟩,⟨b0,b1⟩⟩:=rin h1
 obtain⟨fa,fb⟩:=rfew h1
 have ha:=fa.1
 have hb:=fb.1
 have sa:Sm (.sl (.sl aa)) (nth (t:=.sl (.sl aa)) ahead s.2.1):=aJ h_ahead _
 have sb:Sm (.sl (.sl aa)) (nth (t:=.sl (.sl aa)) ahead s.2.2.1):=aJ h_ahead _
 by_cases h2:s.1=(2:Int)
 ·simp only[h2,decide_true,cond_true,Int.reduceEq,decide_false,cond_false]
  rw[iE (t:=.sl aa) (u:=.sl aa) (fun x=>cond (M.holds x s.2.2.2.2.1) [x] []) (nth (t:=.sl (.sl aa)) ahead s.2.1) 1 (fun x _=>by first | exact Nat.le_refl _ | (cases M.holds x s.2.2.2.2.1<;>simp)) [] (fun i v i0 i1 hv=>by
   unfold F.gz
   simp only
   rw[ah a0,ah a1,decide_eq_true i1,cond_true]
   rw[ah i0,ah i1,ah (r2 h2 _ (hU (t:=.sl aa) i0 i1))]
   cases M.holds (nth (t:=.sl aa) (nth (t:=.sl (.sl aa)) ahead s.2.1) i) s.2.2.2.2.1
   ·rw[cond_false,cond_false,List.append_nil,aI (n:=i+1) (by omega) (by omega)]
   ·rw[cond_true,cond_true,aY,ah (by simp at hv;unfold lim;simp;omega),aI (n:=i+1) (by omega) (by omega)]) (fun i v i0 i1=>by
   unfold F.gz
   simp only
   rw[ah a0,ah a1,decide_eq_false (Int.not_lt.2 i1),cond_false])]
  rw[qg]
  rfl
 by_cases h3:s.1=(3:Int)
 ·simp only[h3,decide_true,cond_true,Int.reduceEq,decide_false,cond_false]
  rw[iE (t:=.sl aa) (u:=.sl aa) (fun x=>[M.taken x s.2.2.2.2.2.1]) (nth (t:=.sl (.sl aa)) ahead s.2.1) 1 (fun x _=>by first | exact Nat.le_refl _ | (cases M.holds x s.2.2.2.2.1<;>simp)) [] (fun i v i0 i1 hv=>by
   unfold F.gr
   simp only
   rw[ah a0,ah a1,decide_eq_true i1,cond_true]
   rw[ah i0,ah i1,ah (r3 h3 _ (hU (t:=.sl aa) i0 i1)),aY,ah (by simp at hv;unfold lim;simp;omega),aI (n:=i+1) (by omega) (by omega)]) (fun i v i0 i1=>by
   unfold F.gr
   simp only
   rw[ah a0,ah a1,decide_eq_false (Int.not_lt.2 i1),cond_false])]
  rw[xU]
  rfl
 by_cases h4:s.1=(4:Int)
 ·simp only[h4,decide_true,cond_true,Int.reduceEq,decide_false,cond_false]
  rw[iE (t:=.sl aa) (u:=.sl aa) (fun r=>M.joined s.2.2.2.2.1 r (nth (t:=.sl (.sl aa)) ahead s.2.2.1)) (nth (t:=.sl (.sl aa)) ahead s.2.1) ((nth (t:=.sl (.sl aa)) ahead s.2.2.1):List (List aa.D)).length (fun r _=>M.sL _ _ _) [] (fun i v i0 i1 hv=>by
   have hv9:v.length<=300 * 300:=Nat.le_trans (by simpa using hv) (Nat.mul_le_mul ha hb)
   have hrm:=hU (t:=.sl aa) i0 i1
   unfold F.gp
   simp only
   rw[ah a0,ah a1,decide_eq_true i1,cond_true,iE (t:=.sl aa) (u:=.sl aa) (fun q=>cond (M.holds (nth (t:=.sl aa) (nth (t:=.sl (.sl aa)) ahead s.2.1) i++q:List aa.D) s.2.2.2.2.1) [(nth (t:=.sl aa) (nth (t:=.sl (.sl aa)) ahead s.2.1) i++q:List aa.D)] []) (nth (t:=.sl (.sl aa)) ahead s.2.2.1) 1 (fun q _=>by cases M.holds (nth (t:=.sl aa) (nth (t:=.sl (.sl aa)) ahead s.2.1) i++q:List aa.D) s.2.2.2.2.1<;>simp) v (fun j w j0 j1 hw=>by
    have hqm:=hU (t:=.sl aa) j0 j1
    have l1:=fa.2 _ hrm
    have l2:=fb.2 _ hqm
    unfold F.gq
    simp only
    rw[ah b0,ah b1,decide_eq_true j1,cond_true,ah a0,ah a1,ah i0,ah i1,ah j0,ah j1,aY,ah (show Sm (.sl aa) (nth (t:=.sl aa) (nth (t:=.sl (.sl aa)) ahead s.2.1) i++(nth (t:=.sl aa) (nth (t:=.sl (.sl aa)) ahead s.2.2.1) j)) from⟨by rw[List.length_append];omega,fun x hx=>(List.mem_append.1 hx).elim ((sa.2 _ hrm).2 x) ((sb.2 _ hqm).2 x)⟩),ah (r4 h4 _ hrm _ hqm)]
    cases M.holds (nth (t:=.sl aa) (nth (t:=.sl (.sl aa)) ahead s.2.1) i++nth (t:=.sl aa) (nth (t:=.sl (.sl aa)) ahead s.2.2.1) j:List aa.D) s.2.2.2.2.1
    ·rw[cond_false,cond_false,List.append_nil,aI (n:=j+1) (by omega) (by omega)]
    ·rw[cond_true,cond_true,ah (by simp at hw;unfold lim;simp;omega),aI (n:=j+1) (by omega) (by omega)]) (fun j w j0 j1=>by
    unfold F.gq
    simp only
    rw[ah b0,ah b1,decide_eq_false (Int.not_lt.2 j1),cond_false]),qI]
   show some (Sum.inl (wrap64 (i+1),_))=_
   rw[aI (n:=i+1) (by omega) (by omega)]) (fun i v i0 i1=>by
   unfold F.gp
   simp only
   rw[ah a0,ah a1,decide_eq_false (Int.not_lt.2 i1),cond_false])]
  rfl
 by_cases h5:s.1=(5:Int)
 ·simp only[h5,decide_true,cond_true,Int.reduceEq,decide_false,cond_false]
  rw[iE (t:=.sl aa) (u:=.sl aa) (fun x=>[x]) (nth (t:=.sl (.sl aa)) ahead s.2.1) 1 (fun x _=>by first | exact Nat.le_refl _ | (cases M.holds x s.2.2.2.2.1<;>simp)) [] (fun i v i0 i1 hv=>by
   unfold F.fI
   simp only
   rw[ah a0,ah a1,decide_eq_true i1,cond_true]
   rw[ah i0,ah i1,aY,ah (by simp at hv;unfold lim;simp;omega),aI (n:=i+1) (by omega) (by omega)]) (fun i v i0 i1=>by
   unfold F.fI
   simp only
   rw[ah a0,ah a1,decide_eq_false (Int.not_lt.2 i1),cond_false])]
  rw[qZ]
  show Option.bind (bV _ ((0:Int),[]++_)) _=_
  rw[List.nil_append]
  rw[iE (t:=.sl aa) (u:=.sl aa) (fun x=>[x]) (nth (t:=.sl (.sl aa)) ahead s.2.2.1) 1 (fun x _=>by first | exact Nat.le_refl _ | (cases M.holds x s.2.2.2.2.1<;>simp)) (nth (t:=.sl (.sl aa)) ahead s.2.1) (fun i v i0 i1 hv=>by
   unfold F.fN
   simp only
   rw[ah b0,ah b1,decide_eq_true i1,cond_true]
   rw[ah i0,ah i1,aY,ah (by simp at hv;unfold lim;simp;omega),aI (n:=i+1) (by omega) (by omega)]) (fun i v i0 i1=>by
   unfold F.fN
   simp only
   rw[ah b0,ah b1,decide_eq_false (Int.not_lt.2 i1),cond_false])]
  rw[qZ]
  rfl
 by_cases h6:s.1=(6:Int)
 ·simp only[h6,decide_true,cond_true,Int.reduceEq,decide_false,cond_false]
  rw[ah a0,ah a1,aY]
 simp only[h1,h2,h3,h4,h5,h6,decide_false,cond_false]
theorem F.wE (tables:LTb) (plan:LS) (h_tables:Sm (Ty.sl ax) tables) (h_plan:Sm (Ty.sl aj) plan) (p0:M.bL tables plan=true):F.oz tables plan=some (M.cT tables plan):=by
 unfold F.oz M.cT
 obtain⟨st,_,h1⟩:=tv h_tables h_plan p0
 rw[(Au (f:=F.fK tables plan) h_tables h_plan p0 (fun z v h1 h2 h3=>by
  unfold F.fK M.eg
  rw[ah h1,ah h2,aY,ah (by unfold lim;simp;omega)])).1]
 rfl
theorem F.vp (tables:LTb) (plan:LS) (h_tables:Sm (Ty.sl ax) tables) (h_plan:Sm (Ty.sl aj) plan):F.mE tables plan=some (M.bE tables plan):=by
 unfold F.mE M.bE
 cases hp:M.bL tables plan
 ·rfl
 have hl:=h_plan.1
 have hpos:=(M.vI hp).1
 have h2:(M.cT tables plan).length=plan.length:=BZ tables plan
 simp only[Bool.not_true,cond_false,cond_true,aY]
 rw[h2,fP _ hl,ah (by omega),ah (by omega)]
theorem F.yZ (a:LLV) (b:LLV) (h_a:Sm (Ty.sl (Ty.sl aa)) a) (h_b:Sm (Ty.sl (Ty.sl aa)) b):F.qw a b=some (a++b):=by
 unfold F.qw
 rw[List.nil_append]
 have:=h_a.1
 have:=h_b.1
 rw[ah (by simp only[lim];omega)]
theorem F.sn (code:(List Int)) (h_code:Ln (Ty.sl (Ty.int .u8)) code) (p0:M.aq code):F.kz code=some true:=by
 unfold F.kz
 by_cases hc:(1048576:Int)<(code.length:Int)
 ·rw[decide_eq_true hc]
  rfl
 rw[decide_eq_false hc,cond_false]
 have hs:Sm (.sl (.int .u8)) code:=⟨by omega,fun _ _=>trivial⟩
 rw[ah hs,aY]
 obtain⟨d0,d1,d2,d3,d4⟩:=M.lY code hs p0
 generalize M.cV code=r at *
 obtain⟨ts,plan⟩:=r
 simp only at d0 d1 d2 d3 d4 ⊢
 have st:Sm (.sl ax) ts:=M.Ee d0 d2 (by decide)
 have sp:Sm (.sl aj) plan:=M.pP d3 d4 (by decide)
 simp only[aY,M.oO]
 rw[ah st,ah sp]
 have sr:Sm (.sl (.sl aa)) (M.bE ts plan):=vJ st sp
 rw[ah sr,ah sr,M.vL]
 cases h:M.bL ts plan with
 | false=>rfl
 | true=>
  simp only[Bool.not_true,show ((false:Bool)==false)=true from rfl,cond_true,cond_false]
  by_cases h6:(plan.length:Int)=(6:Int)
  ·rw[decide_eq_true h6]
   rfl
  rw[decide_eq_false h6,cond_false]
  have hl:plan.length<=6:=(M.Dj h).2
  have hw:wrap64 ((plan.length:Int)-(1:Int))=(plan.length:Int)-1:=aI (by omega) (by omega)
  have e1:(([]++plan)++[((6:Int),(wrap64 ((plan.length:Int)-(1:Int)),((0:Int),((0:Int),([],([],()))))))]:List aj.D)=plan++[M.uk plan.length]:=by rw[hw];rfl
  have e2:(([]++plan)++[((5:Int),(wrap64 ((plan.length:Int)-(1:Int)),(wrap64 ((plan.length:Int)-(1:Int)),((0:Int),([],([],()))))))]:List aj.D)=plan++[M.xN plan.length]:=by rw[hw];rfl
  have s1:Sm (.sl aj) (plan++[M.uk plan.length]):=M.Ed hl sp (M.FH _)
  have s2:Sm (.sl aj) (plan++[M.xN plan.length]):=M.Ed hl sp (M.FU _)
  rw[e1,e2,M.Er st sp h h6]
  rw[ah (by simp only[List.length_nil,lim];omega),ah (by simp only[List.length_append,List.length_cons,List.length_nil,lim];omega),ah (by simp only[List.length_append,List.length_cons,List.length_nil,lim];omega),ah s1]
  have so:Sm (.sl (.sl aa)) (M.cB (M.bE ts plan)):=M.GQ sr
  rw[ah so,ah so,ah rfl,ah s2]
  cases h2:M.bL ts (plan++[M.xN plan.length]) with
  | false=>rfl
  | true=>
   have sb:Sm (.sl (.sl aa)) (M.bE ts (plan++[M.xN plan.length])):=vJ st s2
   simp only[Bool.not_true,show ((false:Bool)==false)=true from rfl,cond_true,cond_false]
   rw[ah sb]
   rw[M.ET h h2] at sb ⊢
   rw[ah sb,ah rfl]
end Go.AE
