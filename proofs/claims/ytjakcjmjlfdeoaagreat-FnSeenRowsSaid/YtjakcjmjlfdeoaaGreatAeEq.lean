/- What the functions compute is what is said. -/
import Derived.Test.YtjakcjmjlfdeoaaGreatAeF
import Derived.Test.YtjakcjmjlfdeoaaGreatAeInl
import Derived.Test.YtjakcjmjlfdeoaaGreatAeEqI
import Derived.Test.YtjakcjmjlfdeoaaGreatAeEqR
import Derived.Test.YtjakcjmjlfdeoaaGreatAeRG
import Derived.Test.YtjakcjmjlfdeoaaGreatAeEqR
import Derived.Test.YtjakcjmjlfdeoaaGreatAeEqR
import Derived.Test.YtjakcjmjlfdeoaaGreatAeEqI
namespace Go.AE
open Go Go.RowKit
set_option linter.unusedVariables false
set_option linter.unusedSimpArgs false
set_option maxHeartbeats 2000000
theorem F.yq (n:Int) (low:Int) (high:Int)  : F.qg n low high=some (M.inR n low high):=by
 unfold F.qg M.inR
 cases decide (low<=n)<;>rfl
theorem F.ym (s:ByteArray) (h_s:Sm Ty.str s):F.qa s=some (M.lower (bY s)):=by
 unfold F.qa M.lower
 rw[hY (fun n=>M.inR n 97 122) () (fun x hx=>by
  obtain⟨h0,h1⟩:=HP hx
  simp only[F.ja,mm,cr,aJ (n:=x) (by omega) (by omega)])]
 cases (bY s).all fun n=>M.inR n 97 122<;>rfl
theorem F.xl (v:aa.D) (h_v:Sm aa v):F.oz v=some (M.aM v):=by
 unfold F.oz M.aM M.text
 simp only[kg]
 rw[show decide ((v.2.2.1.size:Int)<=6)=decide (v.2.2.1.size<=6) from decide_eq_decide.2 (by omega)]
 simp only[Ty.beq]
 cases h0:decide (v.1=(0:Int))
 ·generalize decide (v.1=(1:Int))=b1
  generalize decide (v.1=(2:Int))=b2
  generalize decide (v.1=(3:Int))=b3
  generalize decide (v.2.1=(0:Int))=c0
  generalize decide (v.2.2.1.size<=6)=c6
  generalize M.inR v.2.1 (-9999) 9999=c1
  generalize M.inR v.2.1 0 1=c3
  generalize decide (v.2.2.1=M.none_)=e0
  cases b1<;>cases b2<;>cases b3<;>cases c0<;>cases c6<;>cases c1<;>cases c3<;>cases e0<;>rfl
 ·simp only[cond_true,Bool.true_and,Bool.and_true]
theorem F.xX (v:aa.D) (h_v:Sm aa v):F.uz v=some (M.aM v):=by
 rfl
theorem F.AP   : F.ua  = some true:=by
 unfold F.ua
 rw[show M.aM ((1:Int),((3:Int),((⟨#[]⟩:ByteArray),())))=true from rfl,show M.aM ((9:Int),((0:Int),((⟨#[]⟩:ByteArray),())))=false from rfl]
 rfl
theorem F.xZ (a:LV) (b:LV) (h_a:Sm (Ty.sl aa) a) (h_b:Sm (Ty.sl aa) b) (p0:a=b):F.ql a b=some true:=by
 subst p0
 unfold F.ql
 exact M.eq_eq (fun i h0 h1=>by
  unfold F.jb
  rw[ai h1,(beq_iff (t:=aa) rfl _ _).2 rfl]
  rfl)
theorem F.vQ (a:LLV) (b:LLV) (h_a:Sm (Ty.sl (Ty.sl aa)) a) (h_b:Sm (Ty.sl (Ty.sl aa)) b) (p0:a=b):F.oA a b=some true:=by
 subst p0
 unfold F.oA
 exact M.eq_eq (fun i h0 h1=>by
  unfold F.iH
  rw[ai h1]
  simp only[decide_true,Bool.not_true,show ((false:Bool)==false)=true from rfl,cond_true,cond_false,eq_self,M.qY])
theorem F.sQ (c:ag.D)  : F.oW c=some (!M.ep c):=by
 rfl
theorem F.kS (xs:LC) (h_xs:Sm (Ty.sl ag) xs):F.gV xs=some (M.idx (t:=ag) (fun e=>!M.ep e) xs):=by
 exact iF (t:=ag) (p:=(fun e=>!M.ep e)) (fun i h0 h1=>by simp only[F.cN,cr])
theorem F.jL (xs:LC) (h_xs:Sm (Ty.sl ag) xs):F.dO xs=some (List.any xs (fun e=>!M.ep e)):=by
 unfold F.dO
 exact gp (t:=ag)
theorem F.uY (columns:LC) (h_columns:Sm (Ty.sl ag) columns):F.mN columns=some (M.bJ columns):=by
 unfold F.mN M.bJ
 rw[kg,show decide ((columns.length:Int)<=4)=decide (columns.length<=4) from decide_eq_decide.2 (by omega)]
 rw[List.all_eq_not_any_not]
theorem F.yd (v:aa.D) (h_v:Sm aa v):F.vb v=some (!M.aM v):=by
 rfl
theorem F.mY (xs:LV) (h_xs:Sm (Ty.sl aa) xs):F.jI xs=some (M.idx (t:=aa) (fun e=>!M.aM e) xs):=by
 exact iF (t:=aa) (p:=(fun e=>!M.aM e)) (fun i h0 h1=>by simp only[F.dw,cr])
theorem F.lN (xs:LV) (h_xs:Sm (Ty.sl aa) xs):F.eX xs=some (List.any xs (fun e=>!M.aM e)):=by
 unfold F.eX
 exact gp (t:=aa)
theorem F.Bh (row:LV) (h_row:Sm (Ty.sl aa) row):F.tq row=some (M.oP row):=by
 unfold F.tq M.oP
 rw[kg,show decide ((row.length:Int)<=4)=decide (row.length<=4) from decide_eq_decide.2 (by omega)]
 rw[List.all_eq_not_any_not]
theorem F.yD (columns:LC) (row:LV) (h_columns:Sm (Ty.sl ag) columns) (h_row:Sm (Ty.sl aa) row):F.qh columns row=some (M.cF columns row):=by
 unfold F.qh M.cF
 cases M.bJ columns
 ·rfl
 cases M.oP row
 ·rfl
 by_cases hl:row.length=columns.length
 ·rw[hY (M.tw columns row) () (fun i hi=>by
   obtain⟨h0,h1⟩:=fz.1 hi
   have h2:i<(columns.length:Int):=by omega
   simp only[F.ji,ai h2]
   unfold M.tw
   cases decide ((nth (t:=aa) row i).1=(nth (t:=ag) columns i).1)<;>cases decide ((nth (t:=aa) row i).1=(0:Int))<;>cases (nth (t:=ag) columns i).2.1<;>rfl)]
  simp only[hl,Bool.not_true,decide_true,Bool.true_and,cond_true,cond_false]
  cases (aV 0 (columns.length:Int)).all (M.tw columns row)<;>rfl
 ·have h3:¬(row.length:Int)=(columns.length:Int):=by omega
  simp[hl,h3]
theorem F.wJ (r:LV) (columns:LC) (h_r:Sm (Ty.sl aa) r) (h_columns:Sm (Ty.sl ag) columns):F.tg r columns=some (!M.cF columns r):=by
 rfl
theorem F.mK (xs:LLV) (k0:LC) (h_xs:Sm (Ty.sl (Ty.sl aa)) xs) (h_k0:Sm (Ty.sl ag) k0):F.jt xs k0=some (M.idx (t:=(Ty.sl aa)) (fun e=>!M.cF k0 e) xs):=by
 exact iF (t:=(Ty.sl aa)) (p:=(fun e=>!M.cF k0 e)) (fun i h0 h1=>by simp only[F.de,cr])
theorem F.ld (xs:LLV) (k0:LC) (h_xs:Sm (Ty.sl (Ty.sl aa)) xs) (h_k0:Sm (Ty.sl ag) k0):F.eH xs k0=some (List.any xs (fun e=>!M.cF k0 e)):=by
 unfold F.eH
 exact gp (t:=(Ty.sl aa))
theorem F.zH (columns:LC) (rows:LLV) (h_columns:Sm (Ty.sl ag) columns) (h_rows:Sm (Ty.sl (Ty.sl aa)) rows):F.qT columns rows=some (M.gA columns rows):=by
 unfold F.qT M.gA
 rw[kg,List.all_eq_not_any_not]
theorem F.tZ (t:aq.D) (h_t:Sm aq t):F.lO t=some (!M.cZ t):=by
 unfold F.lO M.cZ
 cases hc:M.bJ t.1
 ·have:M.gA t.1 t.2.1=false:=by unfold M.gA;rw[hc];rfl
  rw[this]
  simp
 by_cases h:t.2.1.length<=6
 ·have h2:¬(6:Int)<(t.2.1.length:Int):=by omega
  simp[h2,h]
 ·have h2:(6:Int)<(t.2.1.length:Int):=by omega
  simp[h2,h]
theorem F.lu (xs:LTb) (h_xs:Sm (Ty.sl aq) xs):F.iN xs=some (M.idx (t:=aq) (fun e=>!M.cZ e) xs):=by
 exact iF (t:=aq) (p:=(fun e=>!M.cZ e)) (fun i h0 h1=>by simp only[F.cS,cr])
theorem F.jP (xs:LTb) (h_xs:Sm (Ty.sl aq) xs):F.ee xs=some (List.any xs (fun e=>!M.cZ e)):=by
 unfold F.ee
 exact gp (t:=aq)
theorem F.wk (tables:LTb) (h_tables:Sm (Ty.sl aq) tables):F.ov tables=some (M.bT tables):=by
 unfold F.ov M.bT
 rw[kg,show decide ((tables.length:Int)<=3)=decide (tables.length<=3) from decide_eq_decide.2 (by omega)]
 rw[List.all_eq_not_any_not]
theorem F.ue (p:aC.D) (h_p:Sm aC p):F.lE p=some (M.takes p):=by
 unfold F.lE M.takes
 generalize decide (p.1=(3:Int))=c3
 generalize decide (p.1=(4:Int))=c4
 generalize decide (p.1=(5:Int))=c5
 generalize decide (p.1=(6:Int))=c6
 generalize decide (p.1=(7:Int))=c7
 generalize decide (p.1=(8:Int))=c8
 cases c3<;>cases c4<;>cases c5<;>cases c6<;>cases c7<;>cases c8<;>rfl
theorem F.uq (p:aC.D) (columns:LC) (h_p:Sm aC p) (h_columns:Sm (Ty.sl ag) columns):F.lq p columns=some (M.lQ p columns):=by
 unfold F.lq M.lQ M.noV
 rw[fc _ h_columns.1]
 simp only[kg,show Ty.beq aa p.2.2.1 ((0:Int),(0:Int),(⟨#[]⟩:ByteArray),())=Ty.beq aa p.2.2.1 M.zeroV from rfl]
 generalize Ty.beq aa p.2.2.1 M.zeroV=nv
 by_cases e1:p.1=(1:Int)
 ·simp only[e1,decide_true,cond_true]
 by_cases e2:p.1=(2:Int)
 ·simp only[e2,decide_true,cond_true,Int.reduceEq,decide_false,cond_false]
 by_cases e4:p.1=(4:Int)
 ·simp only[e4,decide_true,cond_true,Int.reduceEq,decide_false,cond_false]
 by_cases e3:p.1=(3:Int)
 ·simp only[e3,decide_true,cond_true,Int.reduceEq,decide_false,cond_false]
  rfl
 by_cases e5:p.1=(5:Int)
 ·simp only[e5,decide_true,cond_true,Int.reduceEq,decide_false,cond_false]
  rfl
 by_cases e6:p.1=(6:Int)
 ·simp only[e6,decide_true,cond_true,Int.reduceEq,decide_false,cond_false]
  rfl
 by_cases e7:p.1=(7:Int)
 ·simp only[e7,decide_true,cond_true,Int.reduceEq,decide_false,cond_false]
  rfl
 by_cases e8:p.1=(8:Int)
 ·simp only[e8,decide_true,cond_true,Int.reduceEq,decide_false,cond_false]
  rfl
 simp only[e1,e2,e3,e4,e5,e6,e7,e8,decide_false,cond_false,FZ e3 e4 e5 e6 e7 e8]
theorem F.qL (k:Int) (kind:Int)  : F.mG k kind=some (!decide (k=kind)):=by
 rfl
theorem F.jO (xs:(List Int)) (k0:Int) (h_xs:Sm (Ty.sl (Ty.int .i64)) xs):F.gv xs k0=some (M.idx (t:=(Ty.int .i64)) (fun e=>!decide (e=k0)) xs):=by
 exact iF (t:=(Ty.int .i64)) (p:=(fun e=>!decide (e=k0))) (fun i h0 h1=>by simp only[F.cG,cr])
theorem F.jm (xs:(List Int)) (k0:Int) (h_xs:Sm (Ty.sl (Ty.int .i64)) xs):F.dn xs k0=some (List.any xs (fun e=>!decide (e=k0))):=by
 unfold F.dn
 exact gp (t:=(Ty.int .i64))
theorem F.sL (kind:Int) (ins:(List Int)) (h_ins:Sm (Ty.sl (Ty.int .i64)) ins):F.kf kind ins=some (List.all ins (fun k=>decide (k=kind))):=by
 unfold F.kf
 rw[List.all_eq_not_any_not]
theorem F.vD (p:aC.D) (columns:LC) (inp:(List Int)) (h_p:Sm aC p) (h_columns:Sm (Ty.sl ag) columns) (h_inp:Sm (Ty.sl (Ty.int .i64)) inp) (p0:M.lQ p columns=true) (p1:(inp.length:Int)=M.takes p):F.mX p columns inp=some (M.cP p columns inp):=by
 unfold F.mX M.cP
 obtain⟨_,hc⟩:=AM p0
 by_cases e1:p.1=(1:Int)
 ·simp only[e1,decide_true,cond_true]
 by_cases e2:p.1=(2:Int)
 ·obtain⟨c0,c1⟩:=hc e2
  simp only[e2,decide_true,cond_true,Int.reduceEq,decide_false,cond_false]
  rw[ai c0,ai c1]
 by_cases e4:p.1=(4:Int)
 ·rw[fK (.inr (.inl e4))] at p1
  simp only[e4,decide_true,cond_true,Int.reduceEq,decide_false,cond_false]
  repeat rw[ai (by omega)]
 cases decide (p.1=(3:Int))<;>cases decide (p.1=(8:Int))<;>simp[e1,e2,e4]
theorem F.vZ (columns:LC) (e:LPt) (h_columns:Sm (Ty.sl ag) columns) (h_e:Sm (Ty.sl aC) e):F.nL columns e=some (M.bZ columns e):=by
 unfold F.nL M.bZ
 cases M.bJ columns
 ·rfl
 by_cases hl:e.length<=12
 ·rw[decide_eq_false (show ¬(12:Int)<(e.length:Int) by omega),decide_eq_true hl]
  rw[tf e [] (by simp;omega)]
  cases M.jM columns e [] with
  | none=>rfl
  | some s=>
   match s with
   | []=>rfl
   | [a]=>exact ai (by simp)
   | a::b::l=>
    have:¬((a::b::l).length:Int)=1:=by simp;omega
    simp only[this,decide_false]
    rfl
 ·rw[decide_eq_true (show (12:Int)<(e.length:Int) by omega),decide_eq_false hl]
  rfl
theorem F.uf (s:ah.D) (h_s:Sm ah s):F.lK s=some (M.bM s):=by
 unfold F.lK M.bM M.two
 generalize decide (s.2.1=(0:Int))=a0
 generalize decide (s.2.2.1=(0:Int))=b0
 generalize decide (s.2.2.2.1=(0:Int))=n0
 generalize decide ((s.2.2.2.2.1.length:Int)=(0:Int))=e0
 generalize decide ((s.2.2.2.2.2.1.length:Int)=(0:Int))=l0
 by_cases h1:s.1=(1:Int)
 ·simp only[h1,Int.reduceEq,decide_true,decide_false]
  cases a0<;>cases b0<;>cases n0<;>cases e0<;>cases l0<;>rfl
 by_cases h2:s.1=(2:Int)
 ·simp only[h2,Int.reduceEq,decide_true,decide_false]
  cases a0<;>cases b0<;>cases n0<;>cases e0<;>cases l0<;>rfl
 by_cases h3:s.1=(3:Int)
 ·simp only[h3,Int.reduceEq,decide_true,decide_false]
  cases a0<;>cases b0<;>cases n0<;>cases e0<;>cases l0<;>rfl
 by_cases h4:s.1=(4:Int)
 ·simp only[h4,Int.reduceEq,decide_true,decide_false]
  cases a0<;>cases b0<;>cases n0<;>cases e0<;>cases l0<;>rfl
 by_cases h5:s.1=(5:Int)
 ·simp only[h5,Int.reduceEq,decide_true,decide_false]
  cases a0<;>cases b0<;>cases n0<;>cases e0<;>cases l0<;>rfl
 simp only[h1,h2,h3,h4,h5,decide_false]
 cases a0<;>cases b0<;>cases n0<;>cases e0<;>cases l0<;>rfl
theorem F.yA (n:Int) (p0:0<=n) (p1:n<=1099511627776):F.pG n=some ([]:List ag.D):=by
 unfold F.pG
 have e:wrap64 (n-wrap64 ((0:Int)-(0:Int)))=n:=by
  rw[show wrap64 ((0:Int)-(0:Int))=0 by decide,Int.sub_zero]
  exact aJ (by omega) (by omega)
 rw[decide_eq_false (by omega),e]
 by_cases h:0<n
 ·rw[decide_eq_true h]
  simp only[cond_true,cond_false]
  rw[ai p0,ai (by unfold lim;omega)]
  rfl
 ·rw[decide_eq_false h]
  rfl
theorem F.uC (xss:LLC) (h_xss:Sm (Ty.sl (Ty.sl ag)) xss):F.mC xss=some (List.flatten xss):=by
 unfold F.mC
 exact M.tK (t:=ag) h_xss (fun z v h0 h1=>by
  unfold F.gN
  rw[aJ (n:=v+(z.length:Int)) (by omega) (by omega),decide_eq_false (by omega)]
  rfl) (fun z v h1=>by
  unfold F.gP
  rw[ai (by unfold lim;omega)])
theorem F.wQ (xs:LC) (h_xs:Sm (Ty.sl ag) xs):F.sV xs=some xs:=by
 exact M.sA (t:=ag)
theorem F.vE (s:ah.D) (tables:LTb) (ahead:(List aI.D)) (h_s:Sm ah s) (h_tables:Sm (Ty.sl aq) tables) (h_ahead:Sm (Ty.sl aI) ahead):F.gR s tables ahead=some (M.make s tables ahead):=by
 obtain⟨r,h1,_⟩:=vt h_s h_tables h_ahead
 unfold M.make
 rw[h1]
 rfl
theorem F.Bs (tables:LTb) (plan:LS) (h_tables:Sm (Ty.sl aq) tables) (h_plan:Sm (Ty.sl ah) plan):F.mF tables plan=some (M.makes tables plan):=by
 obtain⟨r,h1,_⟩:=th h_tables h_plan
 unfold M.makes
 rw[h1]
 rfl
theorem F.zp (tables:LTb) (plan:LS) (h_tables:Sm (Ty.sl aq) tables) (h_plan:Sm (Ty.sl ah) plan):F.rz tables plan=some (M.bK tables plan):=by
 unfold F.rz
 rw[aW]
 exact congrArg some (Hx h_tables h_plan)
theorem F.yE (xs:LV) (h_xs:Sm (Ty.sl aa) xs):F.vM xs=some xs:=by
 exact M.sA (t:=aa)
theorem F.wm (rows:LLV) (h_rows:Sm (Ty.sl (Ty.sl aa)) rows):F.nO rows=some rows:=by
 unfold F.nO
 rw[oM (fun r=>r) (fun x hx s hs=>by
  have hl:=h_rows.1
  simp only[F.iL,aW,M.iI]
  rw[ai (by unfold lim;simp;omega)]),M.vq,bp,M.fh]
theorem F.yB (xs:LV) (ys:LV) (h_xs:Sm (Ty.sl aa) xs) (h_ys:Sm (Ty.sl aa) ys):F.uw xs ys=some (decide (xs=ys)):=by
 exact Dk (t:=aa) (fun i h0 h1 h2=>by simp only[F.jd,ai h2,mm,cr,FY (t:=aa) rfl])
theorem F.yL (rows:LLV) (row:LV) (h_rows:Sm (Ty.sl (Ty.sl aa)) rows) (h_row:Sm (Ty.sl aa) row):F.qx rows row=some (M.dH rows row:Int):=by
 unfold F.qx M.dH
 have hl:=h_rows.1
 have key:∀(l:List (List aa.D)) (v:Int),0<=v->v+(l.length:Int)<=1048576->aP (F.gf rows row) l v=some (.inl (v+(l.countP (fun r=>decide (r=row)):Int))):=by
  intro l
  induction l with
  | nil=>intro v _ _;show some (Sum.inl v)=some (Sum.inl (v+0));rw[Int.add_zero]
  | cons x l ih=>
   intro v h0 hb
   simp only[List.length_cons] at hb
   rw[bQ,List.countP_cons,show F.gf rows row x v=cond (decide (x=row)) (some (.inl (wrap64 (v+(1:Int))))) (some (.inl v)) from rfl]
   cases decide (x=row) with
   | true=>
    rw[cond_true,aJ (n:=v+(1:Int)) (by omega) (by omega),bp,ih _ (by omega) (by omega)]
    congr 2
    simp
    omega
   | false=>
    rw[cond_false,bp,ih _ h0 (by omega)]
    congr 2
 rw[key rows 0 (by omega) (by omega),bp,Int.zero_add]
theorem F.ye (rows:LLV) (row:LV) (h_rows:Sm (Ty.sl (Ty.sl aa)) rows) (h_row:Sm (Ty.sl aa) row):F.vz rows row=some (decide (0<(M.dH rows row:Int))):=by
 rfl
theorem F.wv (rows:LLV) (h_rows:Sm (Ty.sl (Ty.sl aa)) rows):F.oa rows=some (M.eO rows):=by
 unfold F.oa M.eO
 have hfold:=tc (f:=F.fJ rows) rows h_rows (fun z v hz hv=>by
  unfold F.fJ M.eR
  have hl:=h_rows.1
  rw[ai hv.1]
  rw[show (!decide ((0:Int)<(M.dH v z:Int)))=decide ((M.dH v z:Int)=(0:Int)) by
   generalize M.dH v z=n
   by_cases h:n=0
   ·rw[decide_eq_false (by omega),decide_eq_true (by omega)];rfl
   ·rw[decide_eq_true (by omega),decide_eq_false (by omega)];rfl]
  cases decide ((M.dH v z:Int)=(0:Int)) with
  | false=>rfl
  | true=>
   simp only[cond_true]
   rw[ai (by have:=hv.2;unfold lim;simp;omega)])
 rw[hfold.1,bp,ai hfold.2,aW,M.fh]
theorem F.yG (n:Int) (p0:0<=n) (p1:n<=1099511627776):F.qu n=some ([]:List (Ty.sl aa).D):=by
 unfold F.qu
 have e:wrap64 (n-wrap64 ((0:Int)-(0:Int)))=n:=by
  rw[show wrap64 ((0:Int)-(0:Int))=0 by decide,Int.sub_zero]
  exact aJ (by omega) (by omega)
 rw[decide_eq_false (by omega),e]
 by_cases h:0<n
 ·rw[decide_eq_true h]
  simp only[cond_true,cond_false]
  rw[ai p0,ai (by unfold lim;omega)]
  rfl
 ·rw[decide_eq_false h]
  rfl
theorem F.vl (xss:(List LLV)) (h_xss:Sm (Ty.sl (Ty.sl (Ty.sl aa))) xss):F.mA xss=some (List.flatten xss):=by
 unfold F.mA
 exact M.tK (t:=(Ty.sl aa)) h_xss (fun z v h0 h1=>by
  unfold F.gF
  rw[aJ (n:=v+(z.length:Int)) (by omega) (by omega),decide_eq_false (by omega)]
  rfl) (fun z v h1=>by
  unfold F.gJ
  rw[ai (by unfold lim;omega)])
theorem F.zi (n:Int) (p0:0<=n) (p1:n<=1099511627776):F.ru n=some ([]:List aa.D):=by
 unfold F.ru
 have e:wrap64 (n-wrap64 ((0:Int)-(0:Int)))=n:=by
  rw[show wrap64 ((0:Int)-(0:Int))=0 by decide,Int.sub_zero]
  exact aJ (by omega) (by omega)
 rw[decide_eq_false (by omega),e]
 by_cases h:0<n
 ·rw[decide_eq_true h]
  simp only[cond_true,cond_false]
  rw[ai p0,ai (by unfold lim;omega)]
  rfl
 ·rw[decide_eq_false h]
  rfl
theorem F.wB (xss:LLV) (h_xss:Sm (Ty.sl (Ty.sl aa)) xss):F.oc xss=some (List.flatten xss):=by
 unfold F.oc
 exact M.tK (t:=aa) h_xss (fun z v h0 h1=>by
  unfold F.iy
  rw[aJ (n:=v+(z.length:Int)) (by omega) (by omega),decide_eq_false (by omega)]
  rfl) (fun z v h1=>by
  unfold F.iu
  rw[ai (by unfold lim;omega)])
theorem F.zd (a:LV) (b:LV) (h_a:Sm (Ty.sl aa) a) (h_b:Sm (Ty.sl aa) b) (p0:a.length+b.length<=1048576):F.rM a b=some (a++b):=by
 unfold F.rM
 have h1:=h_a.1
 have h2:=h_b.1
 have hs:Sm (.sl aa) (a++b):=⟨by rw[List.length_append];omega,fun x hx=>by
  rcases List.mem_append.1 hx with h | h
  ·exact h_a.2 x h
  ·exact h_b.2 x h⟩
 rw[ai (show Sm (.sl (.sl aa)) [a,b] from⟨by simp,fun x hx=>by
  rcases List.mem_cons.1 hx with rfl | hx
  ·exact h_a
  ·cases List.mem_singleton.1 hx
   exact h_b⟩),aW,List.flatten_cons,List.flatten_cons,List.flatten_nil,List.append_nil,ai hs,aW,M.fh]
theorem F.yQ (truth:Int)  : F.pN truth=some (M.valueOf truth):=by
 unfold F.pN M.valueOf
 cases M.inR truth 0 1<;>rfl
theorem F.AN (vals:(List Int)) (h_vals:Sm (Ty.sl (Ty.int .i64)) vals):F.tB vals=some (M.orI vals):=by
 unfold F.tB
 suffices h:∀(A B:List Int),bz (aP (F.iT A) B ()) (fun v0:Unit=>some (0:Int)) (fun q0:Int=>some q0)=some (M.orI B) from h vals vals
 intro A B
 induction B with
 | nil=>rfl
 | cons x l ih=>
  rw[bQ]
  simp only[F.iT,M.orI]
  by_cases hx:x=0
  ·simp only[hx,decide_true,Bool.not_true,cond_false,cond_true,bp]
   exact ih
  ·simp[hx]
theorem F.wY (x:Int)  : F.ow x=some false:=by
 unfold F.ow
 simp
theorem F.uo (x:Int) (y:Int)  : F.lP x y=some (M.uJ x y):=by
 unfold F.lP M.uJ
 simp only[cond_false,cr]
theorem F.sP (x:ByteArray) (h_x:Sm Ty.str x):F.jV x=some false:=by
 unfold F.jV
 simp
theorem F.qK (x:ByteArray) (y:ByteArray) (h_x:Sm Ty.str x) (h_y:Sm Ty.str y):F.jj x y=some (M.uB x y):=by
 unfold F.jj M.uB
 simp only[cond_false,cr]
theorem F.sJ (v:aa.D) (w:aa.D) (h_v:Sm aa v) (h_w:Sm aa w):F.kj v w=some (M.order v w):=by
 unfold F.kj
 rw[ai ⟨by simp,fun _ _=>trivial⟩]
 rfl
theorem F.yH (b:Bool)  : F.qb b=some (M.bool b):=by
 unfold F.qb M.bool
 rw[cr]
theorem F.yC (kind:Int) (a:aa.D) (b:aa.D) (h_a:Sm aa a) (h_b:Sm aa b):F.qy kind a b=some (M.compare kind a b):=by
 unfold F.qy M.compare M.zz
 cases hk:M.inR kind 1 4
 ·rfl
 cases M.aM a
 ·rfl
 cases M.aM b
 ·rfl
 have h4:decide (kind=1)=false->decide (kind=2)=false->decide (kind=3)=false->decide (kind=4)=true:=by
  unfold M.inR at hk
  simp at hk ⊢
  omega
 cases decide (a.1=(0:Int))<;>cases decide (b.1=(0:Int))<;>cases decide (a.1=b.1)<;>cases h1:decide (kind=1)<;>cases h2:decide (kind=2)<;>cases h3:decide (kind=3)<;>(try rw[h4 h1 h2 h3])<;>cases decide (M.order a b=0)<;>cases decide (M.order a b<0)<;>rfl
theorem F.yo (n:Int)  : F.uG n=some (M.inR n 0 2):=by
 rfl
theorem F.Cp (a:Int) (b:Int) (alone:Int) (p0:0<=alone/\alone<=1):F.wT a b alone=some (M.fold a b alone):=by
 unfold F.wT M.fold
 rw[aJ (n:=1-alone) (by omega) (by omega)]
 cases M.inR a 0 2
 ·rfl
 cases M.inR b 0 2
 ·rfl
 cases decide (a=alone)<;>cases decide (b=alone)<;>cases decide (a=2)<;>cases decide (b=2)<;>rfl
theorem F.Bb (a:Int) (b:Int)  : F.tE a b=some (M.rQ a b):=by
 unfold F.tE M.rQ
 rw[ai (by decide)]
theorem F.yO (v:aa.D) (h_v:Sm aa v):F.pY v=some (M.cv v):=by
 unfold F.pY M.cv
 cases M.aM v<;>simp only[Bool.not_true,Bool.not_false,cond_true,cond_false,cr]
theorem F.Ct (a:Int) (b:Int)  : F.vS a b=some (M.zV a b):=by
 unfold F.vS M.zV
 rw[ai (by decide)]
theorem F.Bd (a:Int)  : F.tD a=some (M.qU a):=by
 unfold F.tD M.qU
 simp only[cr]
theorem F.tN (p:aC.D) (row:LV) (inp:LV) (h_p:Sm aC p) (h_row:Sm (Ty.sl aa) row) (h_inp:Sm (Ty.sl aa) inp) (p0:(inp.length:Int)=M.takes p) (p1:M.nr p row.length) (p2:1<=p.1/\p.1<=8):F.lD p row inp=some (M.iB p row inp):=by
 unfold F.lD M.iB
 have hz:(((0:Int),(0:Int),(⟨#[]⟩:ByteArray),()):aa.D)=M.zeroV:=rfl
 by_cases e1:p.1=(1:Int)
 ·simp only[e1,decide_true,cond_true]
 by_cases e2:p.1=(2:Int)
 ·obtain⟨c0,c1⟩:=p1 e2
  simp only[e2,decide_true,cond_true,Int.reduceEq,decide_false,cond_false]
  rw[ai c0,ai c1]
 by_cases e3:p.1=(3:Int)
 ·rw[fK (.inl e3)] at p0
  simp only[e3,decide_true,cond_true,Int.reduceEq,decide_false,cond_false]
  repeat rw[ai (by omega)]
  generalize nth (t:=aa) inp 0=a
  generalize nth (t:=aa) inp 1=b
  unfold M.sum
  have hv:M.aM ((1:Int),wrap64 (a.2.1+b.2.1),(⟨#[]⟩:ByteArray),())=M.inR (wrap64 (a.2.1+b.2.1)) (-9999) 9999:=by unfold M.aM;simp
  rw[hv]
  cases decide (a.1=(0:Int))<;>cases decide (b.1=(0:Int))<;>cases M.inR (wrap64 (a.2.1+b.2.1)) (-9999) 9999<;>rfl
 by_cases e4:p.1=(4:Int)
 ·rw[fK (.inr (.inl e4))] at p0
  simp only[e4,decide_true,cond_true,Int.reduceEq,decide_false,cond_false,aW]
  repeat rw[ai (by omega)]
 by_cases e5:p.1=(5:Int)
 ·rw[fK (.inr (.inr (.inl e5)))] at p0
  simp only[e5,decide_true,cond_true,Int.reduceEq,decide_false,cond_false,aW]
  repeat rw[ai (by omega)]
 by_cases e6:p.1=(6:Int)
 ·rw[fK (.inr (.inr (.inr e6)))] at p0
  simp only[e6,decide_true,cond_true,Int.reduceEq,decide_false,cond_false,aW]
  repeat rw[ai (by omega)]
 by_cases e7:p.1=(7:Int)
 ·rw[mg (.inl e7)] at p0
  simp only[e7,decide_true,cond_true,Int.reduceEq,decide_false,cond_false,aW]
  repeat rw[ai (by omega)]
 ·simp only[e1,e2,e3,e4,e5,e6,e7,decide_false,cond_false,aW]
  have e8:p.1=(8:Int):=by
   rcases Fy p2 with h | h | h | h | h | h | h | h<;>first | exact h | exact absurd h (by assumption)
  rw[mg (.inr e8)] at p0
  rw[ai (by omega)]
theorem F.uZ (row:LV) (e:LPt) (h_row:Sm (Ty.sl aa) row) (h_e:Sm (Ty.sl aC) e) (p0:M.bX row.length e):F.mL row e=some (M.fF row e):=by
 unfold F.mL M.fF
 obtain⟨h1,h2⟩:=zm (f:=F.dR row e) h_row (fun p st hp hs hl h1 hk hc=>Bg p st hp hs hl h1 hk hc) e [] h_e.2 (fY aa) (by simp;have:=p0.1;omega) p0.2
 rw[h1,bp,ai (by omega)]
theorem F.vi (row:LV) (e:LPt) (h_row:Sm (Ty.sl aa) row) (h_e:Sm (Ty.sl aC) e) (p0:M.bX row.length e):F.rN row e=some (M.holds row e):=by
 rfl
theorem F.Bt (row:LV) (list:(List Int)) (h_row:Sm (Ty.sl aa) row) (h_list:Sm (Ty.sl (Ty.int .i64)) list) (p0:M.sY row list):F.tC row list=some (M.taken row list):=by
 unfold F.tC
 rw[oM (fun i=>nth (t:=aa) row i) (fun x hx s hs=>by
  have hl:=h_list.1
  obtain⟨h0,h1⟩:=p0 x hx
  simp only[F.kz]
  rw[ai h0,ai h1,ai (by unfold lim;simp;omega)])]
 show af (Sm (.sl aa) (M.taken row list)) (aK (M.taken row list) fun r:List aa.D=>some (aj r (some ((0:Int),(r.length:Int)))))=_
 rw[ai (M.HB h_row h_list)]
 simp only[aW,M.iI]
theorem F.uN (s:ah.D) (tables:LTb) (ahead:(List LLV)) (h_s:Sm ah s) (h_tables:Sm (Ty.sl aq) tables) (h_ahead:Sm (Ty.sl (Ty.sl (Ty.sl aa))) ahead) (p0:M.kA tables ahead s):F.mU s tables ahead=some (M.bP tables ahead s):=by
 obtain⟨r1,rin,rfew,r2,r3,r4⟩:=p0
 unfold F.mU M.bP
 by_cases h1:s.1=(1:Int)
 ·obtain⟨n0,n1⟩:=r1 h1
  have hsm:=(aH h_tables s.2.2.2.1).2.1
  have hl:=hsm.1
  simp only[h1,decide_true,cond_true]
  rw[ai n0,ai n1]
 obtain⟨⟨a0,a1⟩,⟨b0,b1⟩⟩:=rin h1
 obtain⟨fa,fb⟩:=rfew h1
 have ha:=fa.1
 have hb:=fb.1
 have sa:Sm (.sl (.sl aa)) (nth (t:=.sl (.sl aa)) ahead s.2.1):=aH h_ahead _
 have sb:Sm (.sl (.sl aa)) (nth (t:=.sl (.sl aa)) ahead s.2.2.1):=aH h_ahead _
 by_cases h2:s.1=(2:Int)
 ·simp only[h2,decide_true,cond_true,Int.reduceEq,decide_false,cond_false]
  rw[ai a0,ai a1,wq (fun x:List aa.D=>cond (M.holds x s.2.2.2.2.1) [x] []) (nth (t:=.sl (.sl aa)) ahead s.2.1) 1 (fun x _=>by cases M.holds x s.2.2.2.2.1<;>simp) [] (fun x hx v hv=>by
   unfold F.gQ
   rw[ai (r2 h2 _ hx)]
   cases M.holds x s.2.2.2.2.1
   ·rw[cond_false,cond_false,List.append_nil]
   ·rw[cond_true,cond_true,ai (by simp at hv;unfold lim;simp;omega)]),qW]
  rfl
 by_cases h3:s.1=(3:Int)
 ·simp only[h3,decide_true,cond_true,Int.reduceEq,decide_false,cond_false]
  rw[ai a0,ai a1,wq (fun x:List aa.D=>[M.taken x s.2.2.2.2.2.1]) (nth (t:=.sl (.sl aa)) ahead s.2.1) 1 (fun x _=>Nat.le_refl _) [] (fun x hx v hv=>by
   unfold F.gH
   rw[ai (r3 h3 _ hx),aW,ai (by simp at hv;unfold lim;simp;omega)]),Aj]
  rfl
 by_cases h4:s.1=(4:Int)
 ·simp only[h4,decide_true,cond_true,Int.reduceEq,decide_false,cond_false]
  rw[ai a0,ai a1,EM (t:=.sl aa) (fun r=>M.joined s.2.2.2.2.1 r (nth (t:=.sl (.sl aa)) ahead s.2.2.1)) (nth (t:=.sl (.sl aa)) ahead s.2.1) ((nth (t:=.sl (.sl aa)) ahead s.2.2.1):List (List aa.D)).length (fun r _=>M.tM _ _ _) [] (fun i v i0 i1 hv=>by
   have hv9:v.length<=300 * 300:=Nat.le_trans (by simpa using hv) (Nat.mul_le_mul ha hb)
   have hrm:=iQ (t:=.sl aa) i0 i1
   unfold F.gL
   rw[ai b0,ai b1,wq (fun q:List aa.D=>cond (M.holds (nth (t:=.sl aa) (nth (t:=.sl (.sl aa)) ahead s.2.1) i++q:List aa.D) s.2.2.2.2.1) [(nth (t:=.sl aa) (nth (t:=.sl (.sl aa)) ahead s.2.1) i++q:List aa.D)] []) (nth (t:=.sl (.sl aa)) ahead s.2.2.1) 1 (fun q _=>by cases M.holds (nth (t:=.sl aa) (nth (t:=.sl (.sl aa)) ahead s.2.1) i++q:List aa.D) s.2.2.2.2.1<;>simp) v (fun q hqm w hw=>by
    have l1:=fa.2 _ hrm
    have l2:=fb.2 _ hqm
    unfold F.gG
    rw[ai (show (nth (t:=.sl aa) (nth (t:=.sl (.sl aa)) ahead s.2.1) i:List aa.D).length+q.length<=1048576 by omega),aW]
    simp only[M.iI]
    rw[ai (show Sm (.sl aa) (nth (t:=.sl aa) (nth (t:=.sl (.sl aa)) ahead s.2.1) i++q) from⟨by rw[List.length_append];omega,fun x hx=>(List.mem_append.1 hx).elim ((sa.2 _ hrm).2 x) ((sb.2 _ hqm).2 x)⟩),ai (r4 h4 _ hrm _ hqm)]
    cases M.holds (nth (t:=.sl aa) (nth (t:=.sl (.sl aa)) ahead s.2.1) i++q:List aa.D) s.2.2.2.2.1
    ·rw[cond_false,cond_false,List.append_nil]
    ·rw[cond_true,cond_true,ai (by simp at hw;unfold lim;simp;omega)]),rS]
   rfl)]
  rfl
 by_cases h5:s.1=(5:Int)
 ·simp only[h5,decide_true,cond_true,Int.reduceEq,decide_false,cond_false]
  rw[ai a0,ai a1,ai b0,ai b1,ai (show Sm (.sl (.sl (.sl aa))) [(nth (t:=.sl (.sl aa)) ahead s.2.1),(nth (t:=.sl (.sl aa)) ahead s.2.2.1)] from⟨by simp,fun x hx=>by
   rcases List.mem_cons.1 hx with rfl | hx
   ·exact sa
   ·cases List.mem_singleton.1 hx
    exact sb⟩)]
  simp only[aW,List.flatten_cons,List.flatten_nil,List.append_nil,M.iI,M.fh]
 by_cases h6:s.1=(6:Int)
 ·simp only[h6,decide_true,cond_true,Int.reduceEq,decide_false,cond_false]
  rw[ai a0,ai a1]
  simp only[aW,M.iI,M.fh]
 simp only[h1,h2,h3,h4,h5,h6,decide_false,cond_false]
theorem F.vV (tables:LTb) (plan:LS) (h_tables:Sm (Ty.sl aq) tables) (h_plan:Sm (Ty.sl ah) plan) (p0:M.bK tables plan=true):F.nW tables plan=some (M.cO tables plan):=by
 unfold F.nW M.cO
 rw[p0,cond_true]
 have hl:=h_plan.1
 have hpos:=(M.ju p0).1
 obtain⟨h1,h2⟩:=BM (f:=F.fG tables plan) h_tables h_plan p0 (fun z v h1 h2 h3=>by
  unfold F.fG M.eU
  rw[ai h1,ai h2,aW,ai (by unfold lim;simp;omega)])
 obtain⟨st,_,hR⟩:=AD h_tables h_plan p0
 have hsm:=Cl hR (by show (plan.foldl (M.eU tables) []).length<=1048576;rw[h2];exact hl)
 rw[h1,bp,h2,fc _ hl,ai (by omega),ai (by omega),show plan.foldl (M.eU tables) []=M.cn tables plan from rfl,ai (aH hsm _),aW,M.fh]
theorem F.wX (tables:LTb) (plan:LS) (h_tables:Sm (Ty.sl aq) tables) (h_plan:Sm (Ty.sl ah) plan):F.oD tables plan=some (M.cO tables plan):=by
 unfold F.oD
 cases hp:M.bK tables plan
 ·unfold M.cO
  rw[hp]
  rfl
 ·simp only[Bool.not_true,cond_false,aW,M.fh]
theorem F.xh (tables:LTb) (guards:LG) (h_tables:Sm (Ty.sl aq) tables) (h_guards:Sm (Ty.sl aB) guards):F.oJ tables guards=some (M.bB tables guards):=by
 unfold F.oJ M.bB
 rw[hY (M.kH tables guards) () (fun i hi=>by
  obtain⟨i0,i1⟩:=fz.1 hi
  have hl:=h_guards.1
  have hw:wrap64 (i-(1:Int))=i-1:=aJ (by omega) (by omega)
  simp only[F.iA,hw,fc _ h_tables.1]
  unfold M.kH
  generalize M.inR (nth (t:=aB) guards i).1 0 ((tables.length:Int)-1)=c1
  generalize decide (M.bZ (nth (t:=aq) tables (nth (t:=aB) guards i).1).1 (nth (t:=aB) guards i).2.1=3)=c2
  generalize decide ((nth (t:=aB) guards i).1<=(nth (t:=aB) guards (i-1)).1)=c3
  by_cases h0:0<i
  ·have g1:0<=i-1:=by omega
   have g2:i-1<(guards.length:Int):=by omega
   rw[decide_eq_true h0]
   repeat rw[ai g1]
   repeat rw[ai g2]
   cases c1<;>cases c2<;>cases c3<;>rfl
  ·rw[decide_eq_false h0]
   cases c1<;>cases c2<;>cases c3<;>rfl)]
 cases M.bT tables<;>cases (aV 0 (guards.length:Int)).all (M.kH tables guards)<;>rfl
theorem F.zZ (xs:LPt) (h_xs:Sm (Ty.sl aC) xs):F.xO xs=some xs:=by
 exact M.sA (t:=aC)
theorem F.yh (xs:(List Int)) (h_xs:Sm (Ty.sl (Ty.int .i64)) xs):F.uR xs=some xs:=by
 exact M.sA (t:=(Ty.int .i64))
theorem F.AB (kind:Int)  : F.rT kind=some (M.two kind):=by
 unfold F.rT M.two
 cases decide (kind=(4:Int))<;>rfl
theorem F.yw (guards:LG) (n:Int) (h_guards:Sm (Ty.sl aB) guards):F.qz guards n=some (M.guardOf guards n):=by
 unfold F.qz M.guardOf
 have key:∀l:List aB.D,aP (F.gj guards n) l ()=some (match l.find? (fun g:aB.D=>decide (g.1=n)) with | some g=>.inr g.2.1 | none=>.inl ()):=by
  intro l
  induction l with
  | nil=>rfl
  | cons x l ih=>
   rw[bQ,List.find?_cons]
   unfold F.gj
   cases decide (x.1=n) with
   | true=>rfl
   | false=>exact ih
 rw[key]
 cases guards.find? (fun g:aB.D=>decide (g.1=n))<;>rfl
theorem F.vW (plan:LS) (h_plan:Sm (Ty.sl ah) plan):F.oh plan=some plan:=by
 unfold F.oh
 rw[oM (fun r=>r) (fun x hx s hs=>by
  have hl:=h_plan.1
  simp only[F.iJ,aW,M.iI]
  rw[ai (by unfold lim;simp;omega)]),M.vq,bp,M.fh]
theorem F.sS (tables:LTb) (guards:LG) (plan:LS) (h_tables:Sm (Ty.sl aq) tables) (h_guards:Sm (Ty.sl aB) guards) (h_plan:Sm (Ty.sl ah) plan):F.jX tables guards plan=some (M.bn tables guards plan):=by
 unfold F.jX M.bn
 cases hg:M.bB tables guards
 ·rfl
 cases hp:M.bK tables plan
 ·rfl
 have p0:=M.ju hp
 have hl:=h_plan.1
 have e1:(plan.length:Int).toNat=plan.length:=by simp
 simp only[Bool.not_true,cond_true,cond_false,aW,Bool.and_self,show ((false:Bool)==false)=true from rfl]
 rw[e1]
 have hfold:=M.qO (f:=F.ez tables guards plan) (M.bR guards plan) (fun k v=>v.2.length=plan.length/\(v.1.length:Int)<=2 * k/\∀s∈v.1,Sm ah s) plan.length (s:=([],List.replicate plan.length (0:Int))) ⟨by simp,by simp,fun s h=>by cases h⟩ (fun k v k0 k1 hI=>by
   have hnext:(M.bR guards plan v k).2.length=plan.length/\((M.bR guards plan v k).1.length:Int)<=2 * (k+1)/\∀s∈(M.bR guards plan v k).1,Sm ah s:=by
    have:=M.DV (guards:=guards) (plan:=plan) (v:=v) (k:=k)
    refine⟨this.2.trans hI.1,?_,M.Cx h_guards h_plan hI.2.2⟩
    have h1:=this.1
    have h2:=hI.2.1
    omega
   refine⟨?_,hnext⟩
   clear hnext
   have hl:=h_plan.1
   obtain⟨hI1,hI2,hI3⟩:=hI
   have hin:=p0.2 k k0 k1
   have hs1:k<(v.2.length:Int):=by rw[hI1];exact k1
   have hv6:v.1.length<=4000000:=by omega
   have hlim:∀s:ah.D,(v.1.length+[s].length) * 80<=lim:=fun s=>by unfold lim;simp;omega
   have hlim2:∀s s':ah.D,((v.1++[s]).length+[s'].length) * 80<=lim:=fun s s'=>by unfold lim;simp;omega
   have hw1:∀s:ah.D,wrap64 (((v.1++[s]).length:Int)-1)=((v.1++[s]).length:Int)-1:=fun s=>aJ (by simp<;>omega) (by simp<;>omega)
   have hw2:∀s s':ah.D,wrap64 (((v.1++[s]++[s']).length:Int)-1)=((v.1++[s]++[s']).length:Int)-1:=fun s s'=>aJ (by simp<;>omega) (by simp<;>omega)
   unfold F.ez M.bR M.kR M.dS M.ren
   simp only[aW,M.iI]
   by_cases h1:(nth (t:=ah) plan k).1=(1:Int)
   ·have ht:M.two (nth (t:=ah) plan k).1=false:=by rw[h1];rfl
    rw[ht]
    simp only[h1,decide_true,Bool.not_true,Bool.true_and,cond_true,cond_false]
    rw[ai (hlim _)]
    cases (M.guardOf guards (nth (t:=ah) plan k).2.2.2.1).2
    ·simp only[cond_false,show ((false:Bool)==true)=false from rfl]
     rw[ai hs1,hw1]
    ·simp only[cond_true,show ((true:Bool)==true)=true from rfl]
     rw[ai (hlim2 _ _),ai hs1,hw1,hw2]
   ·obtain⟨⟨a0,a1⟩,⟨b0,b1⟩⟩:=hin h1
    have a2:(nth (t:=ah) plan k).2.1<(v.2.length:Int):=by rw[hI1];exact Int.lt_trans a1 k1
    have b2:(nth (t:=ah) plan k).2.2.1<(v.2.length:Int):=by rw[hI1];exact Int.lt_trans b1 k1
    rw[decide_eq_false h1]
    simp only[Bool.not_false,Bool.false_and,cond_true,cond_false]
    rw[ai a0,ai a2]
    cases M.two (nth (t:=ah) plan k).1
    ·simp only[cond_false]
     rw[ai (hlim _)]
     cases (M.guardOf guards (nth (t:=ah) plan k).2.2.2.1).2<;>simp only[cond_true,cond_false,show ((false:Bool)==true)=false from rfl,show ((true:Bool)==true)=true from rfl]<;>rw[ai hs1,hw1]
    ·simp only[cond_true]
     rw[ai b0,ai b2,ai (hlim _)]
     cases (M.guardOf guards (nth (t:=ah) plan k).2.2.2.1).2<;>simp only[cond_true,cond_false,show ((false:Bool)==true)=false from rfl,show ((true:Bool)==true)=true from rfl]<;>rw[ai hs1,hw1])
 rw[hfold.1,bp]
 show cond (decide (6<((M.grown guards plan).1.length:Int))) _ (af (Sm (.sl ah) (M.grown guards plan).1) (some ((M.grown guards plan).1.take ((M.grown guards plan).1.length:Int).toNat,true)))=_
 rw[ai ⟨by have:=hfold.2.2.1;have h6:=M.Dc hp;show (M.grown guards plan).1.length<=1048576;have e:(M.grown guards plan).1=((aV 0 (plan.length:Int)).foldl (M.bR guards plan) ([],List.replicate plan.length (0:Int))).1:=rfl;rw[e];omega,hfold.2.2.2⟩,M.fh,cr]
theorem F.wO (tables:LTb) (guards:LG) (plan:LS) (h_tables:Sm (Ty.sl aq) tables) (h_guards:Sm (Ty.sl aB) guards) (h_plan:Sm (Ty.sl ah) plan):F.ot tables guards plan=some (M.cX tables guards plan):=by
 unfold F.ot M.cX
 have hq:Sm (.sl ah) (M.bn tables guards plan).1:=M.tU h_guards h_plan
 simp only[aW,M.iI,M.fh]
 cases h:(M.bn tables guards plan).2 with
 | false=>rfl
 | true=>
  simp only[Bool.not_true,cond_false,cond_true]
  rw[ai hq]
theorem F.uK (b:(List Int)) (p:Int) (n:Int) (h_b:Sm (Ty.sl (Ty.int .u8)) b) (p0:M.ay b) (p1:0<=p) (p2:p<=1000000000000000):ok (F.pe b p n) (fun r=>0<=r.1/\(1<=n->r.1<n)/\(n<1->r.1=0)/\r.2=p+1):=by
 unfold F.pe
 have hw:wrap64 (p+1)=p+1:=aJ (by omega) (by omega)
 have hw2:wrap64 (p+1-1)=p:=by rw[show p+1-1=p by omega];exact aJ (by omega) (by omega)
 simp only[hw,hw2]
 refine JN (fun c0=>?_) (fun c0=>?_)
 ·refine okD (fun c1=>?_) (fun c1=>?_)
  ·exact okS ⟨by dsimp only;omega,fun h=>by dsimp only;omega,fun h=>rfl,rfl⟩
  ·have hl:1<=(b.length:Int):=by omega
   refine okD (fun c2=>?_) (fun c2=>?_)
   ·refine okG (okG (okG (okS ?_)))
    have:=M.Gk (M.xk p0 p) (n:=n) (by omega)
    exact⟨this.1,fun _=>this.2,fun h=>by omega,rfl⟩
   ·obtain⟨t0,t1⟩:=M.vL p1 hl
    have h7:wrap64 (wrap64 (p * 7)+3)=p * 7+3:=by rw[aJ (n:=p * 7) (by omega) (by omega),aJ (by omega) (by omega)]
    obtain⟨t2,t3⟩:=M.vL (a:=p * 7+3) (by omega) hl
    rw[h7]
    refine okG (okG (okG (okG (okG (okG (okS ?_))))))
    have:=M.HX (M.xk p0 (p.tmod (b.length:Int))) (M.xk p0 ((p * 7+3).tmod (b.length:Int))) p1 p2 (M.FG p1 hl) (n:=n) (by omega)
    exact⟨this.1,fun _=>this.2,fun h=>by omega,rfl⟩
 ·exact okS ⟨by dsimp only;omega,fun h=>by omega,fun h=>rfl,rfl⟩
theorem F.CN (b:(List Int)) (p:Int) (n:Int) (h_b:Sm (Ty.sl (Ty.int .u8)) b) (p0:M.ay b) (p1:0<=p) (p2:p<=1000000000000000):F.pe b p n=some (M.pick b p n):=gE (F.uK b p n h_b p0 p1 p2)
theorem M.Gn (b:(List Int)) (p:Int) (n:Int) (h_b:Sm (Ty.sl (Ty.int .u8)) b) (p0:M.ay b) (p1:0<=p) (p2:p<=1000000000000000):0<=(M.pick b p n).1/\(1<=n->(M.pick b p n).1<n)/\(n<1->(M.pick b p n).1=0)/\(M.pick b p n).2=p+1:=gB (F.uK b p n h_b p0 p1 p2)
theorem aD {α:Type} {K:α->Prop} {f:Int×Int->Option α} {b:(List Int)} {p:Int} {n:Int} (k:∀r,(0<=r.1)->(1<=n->r.1<n)->(n<1->r.1=0)->(r.2=p+1)->ok (f r) K) (h_b:Sm (Ty.sl (Ty.int .u8)) b:=by exact au) (p0:M.ay b:=by exact au) (p1:0<=p:=by exact au) (p2:p<=1000000000000000:=by exact au):ok (aK (M.pick b p n) f) K:=by
 have h:=M.Gn b p n h_b p0 p1 p2
 obtain⟨h0,h1,h2,h3⟩:=h
 exact k _ h0 h1 h2 h3
theorem F.xK (b:(List Int)) (p:Int) (n:Int) (h_b:Sm (Ty.sl (Ty.int .u8)) b) (p0:M.ay b) (p1:0<=p) (p2:p<=999000000000000):ok (F.rq b p n) (fun r=>(n<1->r.1=false)/\p<=r.2/\r.2<=p+1):=by
  unfold F.rq
  refine EC (fun c_0=>?_) (fun c_0=>?_)
  ·refine okG ?_
   refine aD fun r1 h_1_5_0 h_1_5_1 h_1_5_2 h_1_5_3=>?_
   exact sN
  ·exact sN
theorem F.DO (b:(List Int)) (p:Int) (n:Int) (h_b:Sm (Ty.sl (Ty.int .u8)) b) (p0:M.ay b) (p1:0<=p) (p2:p<=999000000000000):F.rq b p n=some (M.odd b p n):=gE (F.xK b p n h_b p0 p1 p2)
theorem M.HZ (b:(List Int)) (p:Int) (n:Int) (h_b:Sm (Ty.sl (Ty.int .u8)) b) (p0:M.ay b) (p1:0<=p) (p2:p<=999000000000000):(n<1->(M.odd b p n).1=false)/\p<=(M.odd b p n).2/\(M.odd b p n).2<=p+1:=gB (F.xK b p n h_b p0 p1 p2)
theorem jE {α:Type} {K:α->Prop} {f:Bool×Int->Option α} {b:(List Int)} {p:Int} {n:Int} (k:∀r,(n<1->r.1=false)->(p<=r.2)->(r.2<=p+1)->ok (f r) K) (h_b:Sm (Ty.sl (Ty.int .u8)) b:=by exact au) (p0:M.ay b:=by exact au) (p1:0<=p:=by exact au) (p2:p<=999000000000000:=by exact au):ok (aK (M.odd b p n) f) K:=by
 have h:=M.HZ b p n h_b p0 p1 p2
 obtain⟨h0,h1,h2⟩:=h
 exact k _ h0 h1 h2
theorem F.mR (b:(List Int)) (p:Int) (n:Int) (h_b:Sm (Ty.sl (Ty.int .u8)) b) (p0:M.ay b) (p1:0<=p) (p2:p<=998000000000000):ok (F.gk b p n) (fun r=>1<=r.1.length/\r.1.length<=6/\p<=r.2/\r.2<=p+20):=by
  unfold F.gk
  refine okG ?_
  refine aD fun r1 h_2_1_0 h_2_1_1 h_2_1_2 h_2_1_3=>?_
  refine okB (A:=fun e0=>p<=e0.1/\e0.1<=p+10/\1<=e0.2.length/\e0.2.length<=3) ?_ (fun e0 h_e0=>?_)
  ·refine okW (fun(k:Nat) (v0:Int×Int×LC)=>0<=v0.1/\v0.1<=(k:Int)/\(v0.2.2.length:Int)+v0.1<=3/\1<=(v0.2.2.length:Int)+v0.1/\p<=v0.2.1/\v0.2.1+2 * v0.1<=p+10) (fun k v0 hI=>?_) (3:Nat) _ ⟨au,au,au,au,au,au⟩
   obtain⟨i_0,i_1,i_2,i_3,i_4,i_5⟩:=hI
   unfold F.fZ
   refine okD (fun c_0=>?_) (fun c_0=>?_)
   ·refine okG ?_
    refine okG ?_
    refine okG ?_
    refine aD fun r2 h_5_3_0 h_5_3_1 h_5_3_2 h_5_3_3=>?_
    refine okG ?_
    refine okG ?_
    refine okG ?_
    refine okG ?_
    refine aD fun r3 h_5_7_0 h_5_7_1 h_5_7_2 h_5_7_3=>?_
    refine okG ?_
    exact eY ⟨k-1,by omega,au,au,au,au,au,au⟩
   ·exact dx ⟨au,au,au,au⟩
  ·obtain⟨e0_0,e0_1,e0_2,e0_3⟩:=h_e0
   refine okG ?_
   refine okG ?_
   refine jE fun r4 h_6_2_0 h_6_2_1 h_6_2_2=>?_
   refine okC (fun c_1=>?_) (fun c_1=>?_)
   ·refine okG ?_
    refine okG ?_
    refine aD fun r5 h_7_2_0 h_7_2_1 h_7_2_2 h_7_2_3=>?_
    refine okG ?_
    exact wz
   ·exact wz
theorem F.tA (b:(List Int)) (p:Int) (n:Int) (h_b:Sm (Ty.sl (Ty.int .u8)) b) (p0:M.ay b) (p1:0<=p) (p2:p<=998000000000000):F.gk b p n=some (M.gb b p n):=gE (F.mR b p n h_b p0 p1 p2)
theorem M.yI (b:(List Int)) (p:Int) (n:Int) (h_b:Sm (Ty.sl (Ty.int .u8)) b) (p0:M.ay b) (p1:0<=p) (p2:p<=998000000000000):1<=(M.gb b p n).1.length/\(M.gb b p n).1.length<=6/\p<=(M.gb b p n).2/\(M.gb b p n).2<=p+20:=gB (F.mR b p n h_b p0 p1 p2)
theorem sM {α:Type} {K:α->Prop} {f:LC×Int->Option α} {b:(List Int)} {p:Int} {n:Int} (k:∀r,(1<=r.1.length)->(r.1.length<=6)->(p<=r.2)->(r.2<=p+20)->ok (f r) K) (h_b:Sm (Ty.sl (Ty.int .u8)) b:=by exact au) (p0:M.ay b:=by exact au) (p1:0<=p:=by exact au) (p2:p<=998000000000000:=by exact au):ok (aK (M.gb b p n) f) K:=by
 have h:=M.yI b p n h_b p0 p1 p2
 obtain⟨h0,h1,h2,h3⟩:=h
 exact k _ h0 h1 h2 h3
theorem F.qI (b:(List Int)) (p:Int) (c:ag.D) (h_b:Sm (Ty.sl (Ty.int .u8)) b) (p0:M.ay b) (p1:0<=p) (p2:p<=998000000000000):ok (F.jz b p c) (fun r=>r.1.2.2.1.size<=20/\p<=r.2/\r.2<=p+3):=by
  unfold F.jz
  refine okC (fun c_0=>?_) (fun c_0=>?_)
  ·refine okG ?_
   refine aD fun r1 h_1_4_0 h_1_4_1 h_1_4_2 h_1_4_3=>?_
   refine okD (fun c_1=>?_) (fun c_1=>?_)
   ·exact sN
   ·refine okD (fun c_2=>?_) (fun c_2=>?_)
    ·refine okG ?_
     refine okG ?_
     refine aD fun r2 h_5_1_0 h_5_1_1 h_5_1_2 h_5_1_3=>?_
     exact sN
    ·refine okD (fun c_3=>?_) (fun c_3=>?_)
     ·refine okG ?_
      refine okG ?_
      refine aD fun r3 h_7_2_0 h_7_2_1 h_7_2_2 h_7_2_3=>?_
      refine okG ?_
      refine okG ?_
      exact sN
     ·refine okG ?_
      refine okG ?_
      refine aD fun r4 h_8_1_0 h_8_1_1 h_8_1_2 h_8_1_3=>?_
      exact sN
  ·refine okD (fun c_4=>?_) (fun c_4=>?_)
   ·refine okG ?_
    refine aD fun r2 h_5_1_0 h_5_1_1 h_5_1_2 h_5_1_3=>?_
    exact sN
   ·refine okD (fun c_5=>?_) (fun c_5=>?_)
    ·refine okG ?_
     refine aD fun r3 h_7_2_0 h_7_2_1 h_7_2_2 h_7_2_3=>?_
     refine okG ?_
     refine okG ?_
     exact sN
    ·refine okG ?_
     refine aD fun r4 h_8_1_0 h_8_1_1 h_8_1_2 h_8_1_3=>?_
     exact sN
theorem F.yM (b:(List Int)) (p:Int) (c:ag.D) (h_b:Sm (Ty.sl (Ty.int .u8)) b) (p0:M.ay b) (p1:0<=p) (p2:p<=998000000000000):F.jz b p c=some (M.kq b p c):=gE (F.qI b p c h_b p0 p1 p2)
theorem M.Co (b:(List Int)) (p:Int) (c:ag.D) (h_b:Sm (Ty.sl (Ty.int .u8)) b) (p0:M.ay b) (p1:0<=p) (p2:p<=998000000000000):(M.kq b p c).1.2.2.1.size<=20/\p<=(M.kq b p c).2/\(M.kq b p c).2<=p+3:=gB (F.qI b p c h_b p0 p1 p2)
theorem oO {α:Type} {K:α->Prop} {f:aa.D×Int->Option α} {b:(List Int)} {p:Int} {c:ag.D} (k:∀r,(r.1.2.2.1.size<=20)->(p<=r.2)->(r.2<=p+3)->ok (f r) K) (h_b:Sm (Ty.sl (Ty.int .u8)) b:=by exact au) (p0:M.ay b:=by exact au) (p1:0<=p:=by exact au) (p2:p<=998000000000000:=by exact au):ok (aK (M.kq b p c) f) K:=by
 have h:=M.Co b p c h_b p0 p1 p2
 obtain⟨h0,h1,h2⟩:=h
 exact k _ h0 h1 h2
theorem F.pq (b:(List Int)) (p:Int) (n:Int) (h_b:Sm (Ty.sl (Ty.int .u8)) b) (p0:M.ay b) (p1:0<=p) (p2:p<=998000000000000):ok (F.iR b p n) (fun r=>r.1.2.2.1.size<=20/\p<=r.2/\r.2<=p+20):=by
  unfold F.iR
  refine okG ?_
  refine aD fun r1 h_2_1_0 h_2_1_1 h_2_1_2 h_2_1_3=>?_
  refine okB (A:=fun e0=>p<=e0.1/\e0.1<=p+12/\e0.2.2.2.size<=3) ?_ (fun e0 h_e0=>?_)
  ·refine okW (fun(_:Nat) (_:Unit)=>True) (fun _ v0 _=>?_) 0 _ trivial
   unfold F.iG
   refine okD (fun c_1=>?_) (fun c_1=>?_)
   ·exact dx ⟨au,au,au⟩
   ·refine okD (fun c_2=>?_) (fun c_2=>?_)
    ·refine okG ?_
     refine okG ?_
     refine okG ?_
     refine aD fun r2 h_8_1_0 h_8_1_1 h_8_1_2 h_8_1_3=>?_
     refine okG ?_
     refine okG ?_
     refine aD fun r3 h_9_1_0 h_9_1_1 h_9_1_2 h_9_1_3=>?_
     refine okD (fun c_3=>?_) (fun c_3=>?_)
     ·refine okG ?_
      refine okG ?_
      refine aD fun r4 h_10_2_0 h_10_2_1 h_10_2_2 h_10_2_3=>?_
      refine okG ?_
      refine okG ?_
      exact dx ⟨au,au,au⟩
     ·exact dx ⟨au,au,au⟩
    ·refine okD (fun c_4=>?_) (fun c_4=>?_)
     ·refine okG ?_
      refine okG ?_
      refine okG ?_
      refine aD fun r2 h_8_1_0 h_8_1_1 h_8_1_2 h_8_1_3=>?_
      refine okG ?_
      refine okG ?_
      refine aD fun r3 h_9_1_0 h_9_1_1 h_9_1_2 h_9_1_3=>?_
      refine okD (fun c_5=>?_) (fun c_5=>?_)
      ·refine okG ?_
       refine okG ?_
       refine aD fun r4 h_10_2_0 h_10_2_1 h_10_2_2 h_10_2_3=>?_
       refine okG ?_
       refine okG ?_
       exact dx ⟨au,au,au⟩
      ·exact dx ⟨au,au,au⟩
     ·refine okD (fun c_6=>?_) (fun c_6=>?_)
      ·refine okG ?_
       refine okG ?_
       refine okG ?_
       refine aD fun r2 h_8_1_0 h_8_1_1 h_8_1_2 h_8_1_3=>?_
       refine okG ?_
       refine okG ?_
       refine aD fun r3 h_9_1_0 h_9_1_1 h_9_1_2 h_9_1_3=>?_
       refine okD (fun c_7=>?_) (fun c_7=>?_)
       ·refine okG ?_
        refine okG ?_
        refine aD fun r4 h_10_2_0 h_10_2_1 h_10_2_2 h_10_2_3=>?_
        refine okG ?_
        refine okG ?_
        exact dx ⟨au,au,au⟩
       ·exact dx ⟨au,au,au⟩
      ·refine okD (fun c_8=>?_) (fun c_8=>?_)
       ·refine okG ?_
        refine okG ?_
        refine okG ?_
        refine aD fun r5 h_14_1_0 h_14_1_1 h_14_1_2 h_14_1_3=>?_
        refine okB (A:=fun e1=>p<=e1.1/\e1.1<=p+8/\e1.2.size<=3) ?_ (fun e1 h_e1=>?_)
        ·refine okW (fun(k:Nat) (v1:Int×Int×ByteArray)=>0<=v1.1/\v1.1<=(k:Int)/\(v1.2.2.size:Int)+v1.1<=3/\p<=v1.2.1/\v1.2.1+v1.1<=p+8) (fun k v1 hI=>?_) (3:Nat) _ ⟨au,au,au,au,au⟩
         obtain⟨i_0,i_1,i_2,i_3,i_4⟩:=hI
         unfold F.eF
         refine okD (fun c_0=>?_) (fun c_0=>?_)
         ·refine okG ?_
          refine okG ?_
          refine okG ?_
          refine aD fun r6 h_17_3_0 h_17_3_1 h_17_3_2 h_17_3_3=>?_
          refine okG ?_
          exact eY ⟨k-1,by omega,au,au,au,au,au⟩
         ·exact dx ⟨au,au,au⟩
        ·obtain⟨e1_0,e1_1,e1_2⟩:=h_e1
         exact dx ⟨au,au,au⟩
       ·refine okD (fun c_9=>?_) (fun c_9=>?_)
        ·refine okG ?_
         refine okG ?_
         refine okG ?_
         refine aD fun r5 h_14_1_0 h_14_1_1 h_14_1_2 h_14_1_3=>?_
         refine okB (A:=fun e1=>p<=e1.1/\e1.1<=p+8/\e1.2.size<=3) ?_ (fun e1 h_e1=>?_)
         ·refine okW (fun(k:Nat) (v1:Int×Int×ByteArray)=>0<=v1.1/\v1.1<=(k:Int)/\(v1.2.2.size:Int)+v1.1<=3/\p<=v1.2.1/\v1.2.1+v1.1<=p+8) (fun k v1 hI=>?_) (3:Nat) _ ⟨au,au,au,au,au⟩
          obtain⟨i_0,i_1,i_2,i_3,i_4⟩:=hI
          unfold F.eF
          refine okD (fun c_0=>?_) (fun c_0=>?_)
          ·refine okG ?_
           refine okG ?_
           refine okG ?_
           refine aD fun r6 h_17_3_0 h_17_3_1 h_17_3_2 h_17_3_3=>?_
           refine okG ?_
           exact eY ⟨k-1,by omega,au,au,au,au,au⟩
          ·exact dx ⟨au,au,au⟩
         ·obtain⟨e1_0,e1_1,e1_2⟩:=h_e1
          exact dx ⟨au,au,au⟩
        ·refine okG ?_
         refine okG ?_
         refine okG ?_
         refine aD fun r7 h_3_1_0 h_3_1_1 h_3_1_2 h_3_1_3=>?_
         exact dx ⟨au,au,au⟩
  ·obtain⟨e0_0,e0_1,e0_2⟩:=h_e0
   refine okG ?_
   refine okG ?_
   refine jE fun r8 h_18_2_0 h_18_2_1 h_18_2_2=>?_
   refine okC (fun c_10=>?_) (fun c_10=>?_)
   ·refine okG ?_
    refine okG ?_
    refine aD fun r9 h_19_1_0 h_19_1_1 h_19_1_2 h_19_1_3=>?_
    refine okD (fun c_11=>?_) (fun c_11=>?_)
    ·exact sN
    ·refine okD (fun c_12=>?_) (fun c_12=>?_)
     ·refine okG ?_
      exact sN
     ·refine okD (fun c_13=>?_) (fun c_13=>?_)
      ·refine okG ?_
       refine okG ?_
       refine aD fun r10 h_26_1_0 h_26_1_1 h_26_1_2 h_26_1_3=>?_
       exact sN
      ·refine okG ?_
       exact sN
   ·exact sN
theorem F.wC (b:(List Int)) (p:Int) (n:Int) (h_b:Sm (Ty.sl (Ty.int .u8)) b) (p0:M.ay b) (p1:0<=p) (p2:p<=998000000000000):F.iR b p n=some (M.fo b p n):=gE (F.pq b p n h_b p0 p1 p2)
theorem M.Bp (b:(List Int)) (p:Int) (n:Int) (h_b:Sm (Ty.sl (Ty.int .u8)) b) (p0:M.ay b) (p1:0<=p) (p2:p<=998000000000000):(M.fo b p n).1.2.2.1.size<=20/\p<=(M.fo b p n).2/\(M.fo b p n).2<=p+20:=gB (F.pq b p n h_b p0 p1 p2)
theorem gC {α:Type} {K:α->Prop} {f:aa.D×Int->Option α} {b:(List Int)} {p:Int} {n:Int} (k:∀r,(r.1.2.2.1.size<=20)->(p<=r.2)->(r.2<=p+20)->ok (f r) K) (h_b:Sm (Ty.sl (Ty.int .u8)) b:=by exact au) (p0:M.ay b:=by exact au) (p1:0<=p:=by exact au) (p2:p<=998000000000000:=by exact au):ok (aK (M.fo b p n) f) K:=by
 have h:=M.Bp b p n h_b p0 p1 p2
 obtain⟨h0,h1,h2⟩:=h
 exact k _ h0 h1 h2
theorem F.rB (b:(List Int)) (p:Int) (columns:LC) (n:Int) (h_b:Sm (Ty.sl (Ty.int .u8)) b) (h_columns:Sm (Ty.sl ag) columns) (p0:M.ay b) (p1:0<=p) (p2:p<=997000000000000):ok (F.kX b p columns n) (fun r=>r.1.length<=columns.length+3/\(∀v∈r.1,v.2.2.1.size<=20)/\p<=r.2/\r.2<=p+3 * columns.length+70):=by
  unfold F.kX
  have hl:=h_columns.1
  refine okT (A:=fun v0=>p<=v0.1/\v0.1<=p+3 * (columns.length:Int)/\v0.2.length=columns.length/\(∀v∈v0.2,v.2.2.1.size<=20)) (B:=fun _=>False) ?_ (fun v0 h_v0=>?_) (fun _ h=>h.elim)
  ·refine IE (fun(k:Nat) (v0:Int×LV)=>p<=v0.1/\v0.1<=p+3 * (k:Int)/\v0.2.length=k/\(∀v∈v0.2,v.2.2.1.size<=20)) ⟨au,au,au,au⟩ (fun z0 hz k v0 hk hI=>?_)
   obtain⟨i_0,i_1,i_2,i_3⟩:=hI
   unfold F.jy
   refine okG ?_
   refine okG ?_
   refine okG ?_
   refine oO fun r1 h_5_6_0 h_5_6_1 h_5_6_2=>?_
   refine okG ?_
   exact eY ⟨au,au,au,au⟩
  ·obtain⟨v0_0,v0_1,v0_2,v0_3⟩:=h_v0
   refine okG ?_
   refine okG ?_
   refine jE fun r2 h_6_2_0 h_6_2_1 h_6_2_2=>?_
   refine okC (fun c_0=>?_) (fun c_0=>?_)
   ·refine okG ?_
    refine okG ?_
    refine aD fun r3 h_7_1_0 h_7_1_1 h_7_1_2 h_7_1_3=>?_
    refine okD (fun c_1=>?_) (fun c_1=>?_)
    ·refine okG ?_
     exact wz
    ·refine okD (fun c_2=>?_) (fun c_2=>?_)
     ·refine okD (fun c_3=>?_) (fun c_3=>?_)
      ·refine okG ?_
       refine okG ?_
       refine aD fun r4 h_13_4_0 h_13_4_1 h_13_4_2 h_13_4_3=>?_
       refine okG ?_
       refine okG ?_
       refine gC fun r5 h_13_6_0 h_13_6_1 h_13_6_2=>?_
       refine okG ?_
       refine okG ?_
       exact wz
      ·exact wz
     ·refine okG ?_
      refine okG ?_
      refine gC fun r6 h_8_2_0 h_8_2_1 h_8_2_2=>?_
      refine okG ?_
      refine okG ?_
      refine gC fun r7 h_8_4_0 h_8_4_1 h_8_4_2=>?_
      refine okG ?_
      refine okG ?_
      refine gC fun r8 h_8_6_0 h_8_6_1 h_8_6_2=>?_
      refine okG ?_
      exact wz
   ·exact wz
theorem F.zw (b:(List Int)) (p:Int) (columns:LC) (n:Int) (h_b:Sm (Ty.sl (Ty.int .u8)) b) (h_columns:Sm (Ty.sl ag) columns) (p0:M.ay b) (p1:0<=p) (p2:p<=997000000000000):F.kX b p columns n=some (M.mD b p columns n):=gE (F.rB b p columns n h_b h_columns p0 p1 p2)
theorem M.DQ (b:(List Int)) (p:Int) (columns:LC) (n:Int) (h_b:Sm (Ty.sl (Ty.int .u8)) b) (h_columns:Sm (Ty.sl ag) columns) (p0:M.ay b) (p1:0<=p) (p2:p<=997000000000000):(M.mD b p columns n).1.length<=columns.length+3/\(∀v∈(M.mD b p columns n).1,v.2.2.1.size<=20)/\p<=(M.mD b p columns n).2/\(M.mD b p columns n).2<=p+3 * columns.length+70:=gB (F.rB b p columns n h_b h_columns p0 p1 p2)
theorem qG {α:Type} {K:α->Prop} {f:LV×Int->Option α} {b:(List Int)} {p:Int} {columns:LC} {n:Int} (k:∀r,(r.1.length<=columns.length+3)->(∀v∈r.1,v.2.2.1.size<=20)->(p<=r.2)->(r.2<=p+3 * columns.length+70)->ok (f r) K) (h_b:Sm (Ty.sl (Ty.int .u8)) b:=by exact au) (h_columns:Sm (Ty.sl ag) columns:=by exact au) (p0:M.ay b:=by exact au) (p1:0<=p:=by exact au) (p2:p<=997000000000000:=by exact au):ok (aK (M.mD b p columns n) f) K:=by
 have h:=M.DQ b p columns n h_b h_columns p0 p1 p2
 obtain⟨h0,h1,h2,h3⟩:=h
 exact k _ h0 h1 h2 h3
theorem F.Bo (row:LV) (h_row:Sm (Ty.sl aa) row):F.AH row=some row:=by
 rfl
theorem F.rA (b:(List Int)) (p:Int) (c:LC) (n:Int) (h_b:Sm (Ty.sl (Ty.int .u8)) b) (h_c:Sm (Ty.sl ag) c) (p0:M.ay b) (p1:0<=p) (p2:p<=996000000000000) (p3:c.length<=6):ok (F.lg b p c n) (fun r=>r.1.length<=6/\(∀w∈r.1,M.wI w)/\p<=r.2/\r.2<=p+1000):=by
  unfold F.lg
  have hl:=p3
  refine okG ?_
  refine aD fun r1 h_2_1_0 h_2_1_1 h_2_1_2 h_2_1_3=>?_
  refine okB (A:=fun e0=>p<=e0.1/\e0.1<=p+700/\e0.2.length<=6/\(∀w∈e0.2,M.wI w)) ?_ (fun e0 h_e0=>?_)
  ·refine okW (fun(k:Nat) (v0:Int×Int×LLV)=>0<=v0.1/\v0.1<=(k:Int)/\(v0.2.2.length:Int)+v0.1<=6/\(∀w∈v0.2.2,M.wI w)/\p<=v0.2.1/\v0.2.1+100 * v0.1<=p+700) (fun k v0 hI=>?_) (6:Nat) _ ⟨au,au,au,au,au,au⟩
   obtain⟨i_0,i_1,i_2,i_3,i_4,i_5⟩:=hI
   unfold F.jD
   refine okD (fun c_0=>?_) (fun c_0=>?_)
   ·refine EC (fun c_1=>?_) (fun c_1=>?_)
    ·refine okG ?_
     refine okG ?_
     refine okG ?_
     refine aD fun r2 h_5_5_0 h_5_5_1 h_5_5_2 h_5_5_3=>?_
     refine okD (fun c_2=>?_) (fun c_2=>?_)
     ·refine okG ?_
      refine okG ?_
      refine aD fun r3 h_6_5_0 h_6_5_1 h_6_5_2 h_6_5_3=>?_
      refine okG ?_
      refine okG ?_
      refine okG ?_
      refine okL fun r4 er4=>?_
      have w_a:M.wI r4:=er4▸M.Ah i_3 _
      refine okG ?_
      exact eY ⟨k-1,by omega,au,au,au,au,au,au⟩
     ·refine okG ?_
      refine okG ?_
      refine qG fun r5 h_7_4_0 h_7_4_1 h_7_4_2 h_7_4_3=>?_
      refine okG ?_
      exact eY ⟨k-1,by omega,au,au,au,au,au,au⟩
    ·refine okG ?_
     refine okG ?_
     refine okG ?_
     refine qG fun r5 h_7_4_0 h_7_4_1 h_7_4_2 h_7_4_3=>?_
     refine okG ?_
     exact eY ⟨k-1,by omega,au,au,au,au,au,au⟩
   ·exact dx ⟨au,au,au,au⟩
  ·obtain⟨e0_0,e0_1,e0_2,e0_3⟩:=h_e0
   exact wz
theorem F.Az (b:(List Int)) (p:Int) (c:LC) (n:Int) (h_b:Sm (Ty.sl (Ty.int .u8)) b) (h_c:Sm (Ty.sl ag) c) (p0:M.ay b) (p1:0<=p) (p2:p<=996000000000000) (p3:c.length<=6):F.lg b p c n=some (M.qv b p c n):=gE (F.rA b p c n h_b h_c p0 p1 p2 p3)
theorem M.Dp (b:(List Int)) (p:Int) (c:LC) (n:Int) (h_b:Sm (Ty.sl (Ty.int .u8)) b) (h_c:Sm (Ty.sl ag) c) (p0:M.ay b) (p1:0<=p) (p2:p<=996000000000000) (p3:c.length<=6):(M.qv b p c n).1.length<=6/\(∀w∈(M.qv b p c n).1,M.wI w)/\p<=(M.qv b p c n).2/\(M.qv b p c n).2<=p+1000:=gB (F.rA b p c n h_b h_c p0 p1 p2 p3)
theorem ya {α:Type} {K:α->Prop} {f:LLV×Int->Option α} {b:(List Int)} {p:Int} {c:LC} {n:Int} (k:∀r,(r.1.length<=6)->(∀w∈r.1,M.wI w)->(p<=r.2)->(r.2<=p+1000)->ok (f r) K) (h_b:Sm (Ty.sl (Ty.int .u8)) b:=by exact au) (h_c:Sm (Ty.sl ag) c:=by exact au) (p0:M.ay b:=by exact au) (p1:0<=p:=by exact au) (p2:p<=996000000000000:=by exact au) (p3:c.length<=6:=by exact au):ok (aK (M.qv b p c n) f) K:=by
 have h:=M.Dp b p c n h_b h_c p0 p1 p2 p3
 obtain⟨h0,h1,h2,h3⟩:=h
 exact k _ h0 h1 h2 h3
theorem F.nB (b:(List Int)) (p:Int) (n:Int) (h_b:Sm (Ty.sl (Ty.int .u8)) b) (p0:M.ay b) (p1:0<=p) (p2:p<=995000000000000) (p3:n=0):ok (F.gT b p n) (fun r=>r.1.length<=3/\1<=r.1.length/\(∀t∈r.1,M.mc t)/\p<=r.2/\r.2<=p+10000):=by
  unfold F.gT
  refine okG ?_
  refine aD fun r1 h_2_1_0 h_2_1_1 h_2_1_2 h_2_1_3=>?_
  refine okB (A:=fun e0=>p<=e0.1/\e0.1<=p+6100/\e0.2.length<=3/\1<=e0.2.length/\(∀t∈e0.2,M.mc t)) ?_ (fun e0 h_e0=>?_)
  ·refine okW (fun(k:Nat) (v0:Int×Int×LTb)=>0<=v0.1/\v0.1<=(k:Int)/\(v0.2.2.length:Int)+v0.1<=3/\1<=(v0.2.2.length:Int)+v0.1/\(∀t∈v0.2.2,M.mc t)/\p<=v0.2.1/\v0.2.1+2000 * v0.1<=p+6100) (fun k v0 hI=>?_) (3:Nat) _ ⟨au,au,au,au,au,au,au⟩
   obtain⟨i_0,i_1,i_2,i_3,i_4,i_5,i_6⟩:=hI
   unfold F.gI
   refine okD (fun c_0=>?_) (fun c_0=>?_)
   ·refine okG ?_
    refine okG ?_
    refine okG ?_
    refine sM fun r2 h_5_1_0 h_5_1_1 h_5_1_2 h_5_1_3=>?_
    refine okG ?_
    refine okG ?_
    refine aD fun r3 h_6_2_0 h_6_2_1 h_6_2_2 h_6_2_3=>?_
    refine okG ?_
    refine okG ?_
    refine okG ?_
    refine okG ?_
    refine okG ?_
    refine okG ?_
    refine okG ?_
    refine ya fun r4 h_7_3_0 h_7_3_1 h_7_3_2 h_7_3_3=>?_
    refine okG ?_
    exact eY ⟨k-1,by omega,au,au,au,au,au,au,au⟩
   ·exact dx ⟨au,au,au,au,au⟩
  ·obtain⟨e0_0,e0_1,e0_2,e0_3,e0_4⟩:=h_e0
   refine okG ?_
   refine okG ?_
   refine jE fun r5 h_9_2_0 h_9_2_1 h_9_2_2=>?_
   refine okC (fun c_1=>?_) (fun c_1=>?_)
   ·exact okN
   ·exact zX
theorem F.uO (b:(List Int)) (p:Int) (n:Int) (h_b:Sm (Ty.sl (Ty.int .u8)) b) (p0:M.ay b) (p1:0<=p) (p2:p<=995000000000000) (p3:n=0):F.gT b p n=some (M.gy b p n):=gE (F.nB b p n h_b p0 p1 p2 p3)
theorem M.Ak (b:(List Int)) (p:Int) (n:Int) (h_b:Sm (Ty.sl (Ty.int .u8)) b) (p0:M.ay b) (p1:0<=p) (p2:p<=995000000000000) (p3:n=0):(M.gy b p n).1.length<=3/\1<=(M.gy b p n).1.length/\(∀t∈(M.gy b p n).1,M.mc t)/\p<=(M.gy b p n).2/\(M.gy b p n).2<=p+10000:=gB (F.nB b p n h_b p0 p1 p2 p3)
theorem tn {α:Type} {K:α->Prop} {f:LTb×Int->Option α} {b:(List Int)} {p:Int} {n:Int} (k:∀r,(r.1.length<=3)->(1<=r.1.length)->(∀t∈r.1,M.mc t)->(p<=r.2)->(r.2<=p+10000)->ok (f r) K) (h_b:Sm (Ty.sl (Ty.int .u8)) b:=by exact au) (p0:M.ay b:=by exact au) (p1:0<=p:=by exact au) (p2:p<=995000000000000:=by exact au) (p3:n=0:=by exact au):ok (aK (M.gy b p n) f) K:=by
 have h:=M.Ak b p n h_b p0 p1 p2 p3
 obtain⟨h0,h1,h2,h3,h4⟩:=h
 exact k _ h0 h1 h2 h3 h4
theorem F.qJ (b:(List Int)) (p:Int) (columns:LC) (kind:Int) (h_b:Sm (Ty.sl (Ty.int .u8)) b) (h_columns:Sm (Ty.sl ag) columns) (p0:M.ay b) (p1:0<=p) (p2:p<=997000000000000):ok (F.jx b p columns kind) (fun r=>r.1.2.2.1.2.2.1.size<=20/\p<=r.2/\r.2<=p+20):=by
  unfold F.jx
  have hl:=h_columns.1
  refine okT (A:=fun e0=>p<=e0/\e0<=p+8) (B:=fun q0=>p<=q0.1/\q0.1<=p+10) ?_ (fun e0 h_e0=>?_) (fun q0 h_q0=>?_)
  ·refine okW (fun(k:Nat) (v0:Int×Int)=>0<=v0.1/\v0.1<=4/\4<=v0.1+(k:Int)/\p<=v0.2/\v0.2<=p+2 * v0.1) (fun k v0 hI=>?_) (4:Nat) _ ⟨au,au,au,au,au⟩
   obtain⟨i_0,i_1,i_2,i_3,i_4⟩:=hI
   unfold F.jg
   refine EC (fun c_0=>?_) (fun c_0=>?_)
   ·refine okD (fun c_1=>?_) (fun c_1=>?_)
    ·refine okG ?_
     refine okG ?_
     refine okG ?_
     refine aD fun r1 h_4_3_0 h_4_3_1 h_4_3_2 h_4_3_3=>?_
     refine okG ?_
     refine okG ?_
     refine EC (fun c_2=>?_) (fun c_2=>?_)
     ·refine okG ?_
      refine okG ?_
      refine aD fun r2 h_5_9_0 h_5_9_1 h_5_9_2 h_5_9_3=>?_
      refine okD (fun c_3=>?_) (fun c_3=>?_)
      ·exact HR ⟨au,au⟩
      ·exact eY ⟨k-1,by omega,au,au,au,au,au⟩
     ·exact eY ⟨k-1,by omega,au,au,au,au,au⟩
    ·exact EP ⟨au,au⟩
   ·exact EP ⟨au,au⟩
  ·obtain⟨e0_0,e0_1⟩:=h_e0
   refine okG ?_
   refine okG ?_
   refine oO fun r3 h_7_3_0 h_7_3_1 h_7_3_2=>?_
   exact sN
  ·obtain⟨q0_0,q0_1⟩:=h_q0
   exact sN
theorem F.yK (b:(List Int)) (p:Int) (columns:LC) (kind:Int) (h_b:Sm (Ty.sl (Ty.int .u8)) b) (h_columns:Sm (Ty.sl ag) columns) (p0:M.ay b) (p1:0<=p) (p2:p<=997000000000000):F.jx b p columns kind=some (M.dL b p columns kind):=gE (F.qJ b p columns kind h_b h_columns p0 p1 p2)
theorem M.CU (b:(List Int)) (p:Int) (columns:LC) (kind:Int) (h_b:Sm (Ty.sl (Ty.int .u8)) b) (h_columns:Sm (Ty.sl ag) columns) (p0:M.ay b) (p1:0<=p) (p2:p<=997000000000000):(M.dL b p columns kind).1.2.2.1.2.2.1.size<=20/\p<=(M.dL b p columns kind).2/\(M.dL b p columns kind).2<=p+20:=gB (F.qJ b p columns kind h_b h_columns p0 p1 p2)
theorem fQ {α:Type} {K:α->Prop} {f:aC.D×Int->Option α} {b:(List Int)} {p:Int} {columns:LC} {kind:Int} (k:∀r,(r.1.2.2.1.2.2.1.size<=20)->(p<=r.2)->(r.2<=p+20)->ok (f r) K) (h_b:Sm (Ty.sl (Ty.int .u8)) b:=by exact au) (h_columns:Sm (Ty.sl ag) columns:=by exact au) (p0:M.ay b:=by exact au) (p1:0<=p:=by exact au) (p2:p<=997000000000000:=by exact au):ok (aK (M.dL b p columns kind) f) K:=by
 have h:=M.CU b p columns kind h_b h_columns p0 p1 p2
 obtain⟨h0,h1,h2⟩:=h
 exact k _ h0 h1 h2
theorem dm {α:Type} {K:α->Prop} {f:LPt×Int->Option α} {n_:Nat} (ih:∀(b:(List Int)),∀(p:Int),∀(columns:LC),∀(kind:Int),∀(deep:Int),(Sm (Ty.sl (Ty.int .u8)) b)->(Sm (Ty.sl ag) columns)->(M.ay b)->(0<=p)->(p+40 * (M.eB deep:Int)<=996000000000000)->(deep<=3)->(deep.toNat<n_)->1<=(M.bG n_ b p columns kind deep).1.length/\(M.bG n_ b p columns kind deep).1.length<=M.eB deep/\(∀v∈(M.bG n_ b p columns kind deep).1,v.2.2.1.2.2.1.size<=20)/\p<=(M.bG n_ b p columns kind deep).2/\(M.bG n_ b p columns kind deep).2<=p+40 * M.eB deep) {b:(List Int)} {p:Int} {columns:LC} {kind:Int} {deep:Int} (k:∀r,(1<=r.1.length)->(r.1.length<=M.eB deep)->(∀v∈r.1,v.2.2.1.2.2.1.size<=20)->(p<=r.2)->(r.2<=p+40 * M.eB deep)->ok (f r) K) (h_b:Sm (Ty.sl (Ty.int .u8)) b:=by exact au) (h_columns:Sm (Ty.sl ag) columns:=by exact au) (p0:M.ay b:=by exact au) (p1:0<=p:=by exact au) (p2:p+40 * (M.eB deep:Int)<=996000000000000:=by exact au) (p3:deep<=3:=by exact au) (p4:deep.toNat<n_:=by exact au):ok (aK (M.bG n_ b p columns kind deep) f) K:=by
 have h:=ih b p columns kind deep h_b h_columns p0 p1 p2 p3 p4
 obtain⟨h0,h1,h2,h3,h4⟩:=h
 exact k _ h0 h1 h2 h3 h4
theorem F.qD (n_:Nat) (ih:∀(b:(List Int)),∀(p:Int),∀(columns:LC),∀(kind:Int),∀(deep:Int),(Sm (Ty.sl (Ty.int .u8)) b)->(Sm (Ty.sl ag) columns)->(M.ay b)->(0<=p)->(p+40 * (M.eB deep:Int)<=996000000000000)->(deep<=3)->(deep.toNat<n_)->1<=(M.bG n_ b p columns kind deep).1.length/\(M.bG n_ b p columns kind deep).1.length<=M.eB deep/\(∀v∈(M.bG n_ b p columns kind deep).1,v.2.2.1.2.2.1.size<=20)/\p<=(M.bG n_ b p columns kind deep).2/\(M.bG n_ b p columns kind deep).2<=p+40 * M.eB deep) (b:(List Int)) (p:Int) (columns:LC) (kind:Int) (deep:Int) (h_b:Sm (Ty.sl (Ty.int .u8)) b) (h_columns:Sm (Ty.sl ag) columns) (p0:M.ay b) (p1:0<=p) (p2:p+40 * (M.eB deep:Int)<=996000000000000) (p3:deep<=3) (p4:deep.toNat<(n_+1)):ok (F.me n_ b p columns kind deep) (fun r=>1<=r.1.length/\r.1.length<=M.eB deep/\(∀v∈r.1,v.2.2.1.2.2.1.size<=20)/\p<=r.2/\r.2<=p+40 * M.eB deep):=by
  unfold F.me
  have hE0:=M.FM (d:=deep)
  have hE1:=M.FM (d:=wrap64 (deep-(1:Int)))
  have hE2:=M.FM (d:=wrap64 (deep-(2:Int)))
  have hE3:=M.JG (d:=deep) p3
  have hE4:=M.JL (d:=deep) p3
  refine JN (fun c_0=>?_) (fun c_0=>?_)
  ·refine okG ?_
   refine aD fun r1 h_1_4_0 h_1_4_1 h_1_4_2 h_1_4_3=>?_
   refine okD (fun c_1=>?_) (fun c_1=>?_)
   ·refine okG ?_
    refine okG ?_
    refine fQ fun r2 h_2_3_0 h_2_3_1 h_2_3_2=>?_
    exact zX
   ·refine okD (fun c_2=>?_) (fun c_2=>?_)
    ·refine okG ?_
     refine okG ?_
     refine okG ?_
     refine okG ?_
     refine dm ih fun r3 h_4_5_0 h_4_5_1 h_4_5_2 h_4_5_3 h_4_5_4=>?_
     refine okG ?_
     refine okG ?_
     refine fQ fun r4 h_4_9_0 h_4_9_1 h_4_9_2=>?_
     refine okG ?_
     refine okG ?_
     exact zX
    ·refine okD (fun c_3=>?_) (fun c_3=>?_)
     ·refine okG ?_
      refine okG ?_
      refine fQ fun r5 h_6_3_0 h_6_3_1 h_6_3_2=>?_
      exact zX
     ·refine okG ?_
      refine okG ?_
      refine aD fun r6 h_7_1_0 h_7_1_1 h_7_1_2 h_7_1_3=>?_
      refine okD (fun c_4=>?_) (fun c_4=>?_)
      ·refine okG ?_
       refine okG ?_
       refine okG ?_
       refine okG ?_
       refine dm ih fun r7 h_9_4_0 h_9_4_1 h_9_4_2 h_9_4_3 h_9_4_4=>?_
       refine okG ?_
       refine okG ?_
       refine okG ?_
       refine okG ?_
       refine dm ih fun r8 h_9_9_0 h_9_9_1 h_9_9_2 h_9_9_3 h_9_9_4=>?_
       refine okG ?_
       refine okG ?_
       refine okG ?_
       refine aD fun r9 h_9_12_0 h_9_12_1 h_9_12_2 h_9_12_3=>?_
       refine okG ?_
       exact zX
      ·refine okD (fun c_5=>?_) (fun c_5=>?_)
       ·refine okG ?_
        refine okG ?_
        refine okG ?_
        refine okG ?_
        refine dm ih fun r10 h_11_4_0 h_11_4_1 h_11_4_2 h_11_4_3 h_11_4_4=>?_
        refine okG ?_
        exact zX
       ·refine okD (fun c_6=>?_) (fun c_6=>?_)
        ·refine okG ?_
         refine okG ?_
         refine aD fun r11 h_13_3_0 h_13_3_1 h_13_3_2 h_13_3_3=>?_
         refine okG ?_
         refine okG ?_
         refine okG ?_
         refine okG ?_
         refine dm ih fun r12 h_13_7_0 h_13_7_1 h_13_7_2 h_13_7_3 h_13_7_4=>?_
         refine okG ?_
         exact zX
        ·refine okG ?_
         refine okG ?_
         refine aD fun r13 h_14_1_0 h_14_1_1 h_14_1_2 h_14_1_3=>?_
         refine okG ?_
         refine okG ?_
         refine okG ?_
         refine okG ?_
         refine dm ih fun r14 h_15_5_0 h_15_5_1 h_15_5_2 h_15_5_3 h_15_5_4=>?_
         refine okG ?_
         refine okG ?_
         refine fQ fun r15 h_15_9_0 h_15_9_1 h_15_9_2=>?_
         refine okG ?_
         refine okG ?_
         refine okG ?_
         refine aD fun r16 h_15_13_0 h_15_13_1 h_15_13_2 h_15_13_3=>?_
         refine okG ?_
         exact zX
  ·refine okG ?_
   refine fQ fun r2 h_2_3_0 h_2_3_1 h_2_3_2=>?_
   exact zX
theorem M.pK:∀(n_:Nat),∀(b:(List Int)),∀(p:Int),∀(columns:LC),∀(kind:Int),∀(deep:Int),(Sm (Ty.sl (Ty.int .u8)) b)->(Sm (Ty.sl ag) columns)->(M.ay b)->(0<=p)->(p+40 * (M.eB deep:Int)<=996000000000000)->(deep<=3)->(deep.toNat<n_)->1<=(M.bG n_ b p columns kind deep).1.length/\(M.bG n_ b p columns kind deep).1.length<=M.eB deep/\(∀v∈(M.bG n_ b p columns kind deep).1,v.2.2.1.2.2.1.size<=20)/\p<=(M.bG n_ b p columns kind deep).2/\(M.bG n_ b p columns kind deep).2<=p+40 * M.eB deep
 | 0,b,p,columns,kind,deep,h_b,h_columns,p0,p1,p2,p3,p4=>absurd p4 (Nat.not_lt_zero _)
 | n_+1,b,p,columns,kind,deep,h_b,h_columns,p0,p1,p2,p3,p4=>gB (F.qD n_ (M.pK n_) b p columns kind deep h_b h_columns p0 p1 p2 p3 p4)
theorem F.yP (n_:Nat) (b:(List Int)) (p:Int) (columns:LC) (kind:Int) (deep:Int) (h_b:Sm (Ty.sl (Ty.int .u8)) b) (h_columns:Sm (Ty.sl ag) columns) (p0:M.ay b) (p1:0<=p) (p2:p+40 * (M.eB deep:Int)<=996000000000000) (p3:deep<=3) (p4:deep.toNat<(n_+1)):F.me n_ b p columns kind deep=some (M.bG (n_+1) b p columns kind deep):=gE (F.qD n_ (M.pK n_) b p columns kind deep h_b h_columns p0 p1 p2 p3 p4)
theorem dF {α:Type} {K:α->Prop} {f:LPt×Int->Option α} {n_:Nat} {b:(List Int)} {p:Int} {columns:LC} {kind:Int} {deep:Int} (k:∀r,(1<=r.1.length)->(r.1.length<=M.eB deep)->(∀v∈r.1,v.2.2.1.2.2.1.size<=20)->(p<=r.2)->(r.2<=p+40 * M.eB deep)->ok (f r) K) (h_b:Sm (Ty.sl (Ty.int .u8)) b:=by exact au) (h_columns:Sm (Ty.sl ag) columns:=by exact au) (p0:M.ay b:=by exact au) (p1:0<=p:=by exact au) (p2:p+40 * (M.eB deep:Int)<=996000000000000:=by exact au) (p3:deep<=3:=by exact au) (p4:deep.toNat<n_:=by exact au):ok (aK (M.bG n_ b p columns kind deep) f) K:=by
 have h:=M.pK n_ b p columns kind deep h_b h_columns p0 p1 p2 p3 p4
 obtain⟨h0,h1,h2,h3,h4⟩:=h
 exact k _ h0 h1 h2 h3 h4
theorem F.CZ (n:Int) (low:Int) (high:Int)  : F.xo n low high=some (M.inR n low high):=by
 unfold F.xo M.inR
 cases decide (low<=n)<;>rfl
theorem F.vX (s:ah.D) (h_s:Sm ah s):F.om s=some (M.bM s):=by
 unfold F.om M.bM M.two
 generalize decide (s.2.1=(0:Int))=a0
 generalize decide (s.2.2.1=(0:Int))=b0
 generalize decide (s.2.2.2.1=(0:Int))=n0
 generalize decide ((s.2.2.2.2.1.length:Int)=(0:Int))=e0
 generalize decide ((s.2.2.2.2.2.1.length:Int)=(0:Int))=l0
 by_cases h1:s.1=(1:Int)
 ·simp only[h1,Int.reduceEq,decide_true,decide_false]
  cases a0<;>cases b0<;>cases n0<;>cases e0<;>cases l0<;>rfl
 by_cases h2:s.1=(2:Int)
 ·simp only[h2,Int.reduceEq,decide_true,decide_false]
  cases a0<;>cases b0<;>cases n0<;>cases e0<;>cases l0<;>rfl
 by_cases h3:s.1=(3:Int)
 ·simp only[h3,Int.reduceEq,decide_true,decide_false]
  cases a0<;>cases b0<;>cases n0<;>cases e0<;>cases l0<;>rfl
 by_cases h4:s.1=(4:Int)
 ·simp only[h4,Int.reduceEq,decide_true,decide_false]
  cases a0<;>cases b0<;>cases n0<;>cases e0<;>cases l0<;>rfl
 by_cases h5:s.1=(5:Int)
 ·simp only[h5,Int.reduceEq,decide_true,decide_false]
  cases a0<;>cases b0<;>cases n0<;>cases e0<;>cases l0<;>rfl
 simp only[h1,h2,h3,h4,h5,decide_false]
 cases a0<;>cases b0<;>cases n0<;>cases e0<;>cases l0<;>rfl
theorem F.vC (columns:LC) (h_columns:Sm (Ty.sl ag) columns):F.mM columns=some (M.bJ columns):=by
 unfold F.mM M.bJ
 rw[hY M.ep () (fun x _=>by simp only[F.gD,mm,cr]<;>rfl),show decide ((columns.length:Int)<=4)=decide (columns.length<=4) from decide_eq_decide.2 (by omega)]
 cases columns.all M.ep<;>simp
theorem F.zg (s:ByteArray) (h_s:Sm Ty.str s):F.rU s=some (M.text s):=by
 unfold F.rU M.text M.lower
 have key:∀c:Int,(cond ((decide (c<97))==false) (cond (decide (122<c)) (some (Sum.inr ())) (some (Sum.inl ()))) (some (Sum.inr ())):Option (Sum Unit Unit))=some (cond (M.inR c 97 122) (.inl ()) (.inr ())):=by
  intro c
  unfold M.inR
  by_cases h2:c<97
  ·simp[h2,show ¬ 97<=c by omega]
  ·by_cases h3:122<c
   ·simp[h2,h3,show 97<=c by omega,show ¬c<=122 by omega]
   ·simp[h2,h3,show 97<=c by omega,show c<=122 by omega]
 rw[hY (fun i=>M.inR (nth (t:=.int .u8) (bY s) i) 97 122) () (fun i hi=>by
  obtain⟨h0,h1⟩:=fz.1 hi
  simp only[F.jA,CP h0 h1]
  exact key _)]
 rw[<-lG,Gs (t:=.int .u8) (bY s) (fun n=>M.inR n 97 122),show decide (((bY s).length:Int)<=6)=decide ((bY s).length<=6) from decide_eq_decide.2 (by omega)]
 cases (bY s).all fun n=>M.inR n 97 122<;>simp
theorem F.yl (v:aa.D) (h_v:Sm aa v):F.pX v=some (M.aM v):=by
 unfold F.pX M.aM
 simp only[kg]
 simp only[cr]
theorem F.AA (columns:LC) (kinds:(List Int)) (p:aC.D) (h_columns:Sm (Ty.sl ag) columns) (h_kinds:Sm (Ty.sl (Ty.int .i64)) kinds) (h_p:Sm aC p) (p0:kinds.length<=1000):F.kP columns kinds p=some (M.wV columns kinds p):=by
 obtain⟨o,s,e,_⟩:=ux (columns:=columns) p p0 h_columns.1
 unfold M.wV
 rw[e]
 rfl
theorem F.wZ (columns:LC) (e:LPt) (h_columns:Sm (Ty.sl ag) columns) (h_e:Sm (Ty.sl aC) e):F.oF columns e=some (M.bZ columns e):=by
 unfold F.oF M.bZ
 cases M.bJ columns
 ·rfl
 by_cases hl:e.length<=12
 ·rw[decide_eq_false (show ¬(12:Int)<(e.length:Int) by omega),decide_eq_true hl]
  obtain⟨o,s,h1,h2⟩:=AQ (columns:=columns) (E:=e) (by omega) h_columns.1 e.length 0 [] (by omega) (by omega) (by simp;omega)
  rw[show (0:Int)=((0:Nat):Int) from rfl,h1]
  rw[List.drop_zero] at h2
  unfold oo at h2
  cases hk:M.jM columns e [] with
  | none=>
   rw[hk] at h2
   simp only at h2
   subst h2
   rfl
  | some s'=>
   rw[hk] at h2
   obtain⟨rfl,rfl⟩:=h2
   match s with
   | []=>rfl
   | [a]=>exact ai (by simp)
   | a::b::l=>
    have:¬((a::b::l).length:Int)=1:=by simp;omega
    simp only[Option.bind_some,this,decide_false]
    rfl
 ·rw[decide_eq_true (show (12:Int)<(e.length:Int) by omega),decide_eq_false hl]
  rfl
theorem F.uA (tables:LTb) (ahead:LLC) (s:ah.D) (h_tables:Sm (Ty.sl aq) tables) (h_ahead:Sm (Ty.sl (Ty.sl ag)) ahead) (h_s:Sm ah s):F.hU tables ahead s=some (M.fI tables ahead s):=by
 obtain⟨r,h1,_⟩:=Ar h_tables h_ahead h_s
 unfold M.fI
 rw[h1]
 rfl
theorem F.zn (ahead:(List Int)) (s:ah.D) (h_ahead:Sm (Ty.sl (Ty.int .i64)) ahead) (h_s:Sm ah s) (p0:M.nK (ahead.length:Int) s):F.rR ahead s=some (M.aN ahead s):=by
 unfold F.rR M.aN
 by_cases h1:s.1=(1:Int)
 ·simp only[h1,decide_true,cond_true]
 obtain⟨⟨a0,a1⟩,⟨b0,b1⟩⟩:=p0 h1
 rw[decide_eq_false h1]
 repeat rw[ai a0]
 repeat rw[ai a1]
 repeat rw[ai b0]
 repeat rw[ai b1]
 cases decide (s.1=(4:Int))<;>cases decide (s.1=(5:Int))<;>rfl
theorem F.Bl (tables:LTb) (plan:LS) (h_tables:Sm (Ty.sl aq) tables) (h_plan:Sm (Ty.sl ah) plan):F.tF tables plan=some (M.cT tables plan):=by
 unfold F.tF M.cT M.jf
 obtain⟨o,h1,h2⟩:=M.BZ (f:=F.iS tables plan) (M.bC tables) (fun t=>t) (fun n (st:eW)=>st.1.length=n/\st.2.length=n/\∀x∈st.1,x.length<=1048576) plan plan [] ([],[]) rfl ⟨rfl,rfl,fun x h=>by cases h⟩ (fun m st hm hI=>by
  obtain⟨l1,l2,hx⟩:=hI
  have hp:=h_plan.1
  have hc:Sm (.sl (.sl ag)) st.1:=⟨by omega,fun x h=>M.zo (hx x h)⟩
  have hstep:=aH h_plan (m:Int)
  have hl6:=JD h_tables hc hstep
  unfold F.iS M.bC
  rw[ai hc,aW,<-hl6]
  cases hb:(M.fI tables st.1 (nth (t:=ah) plan (m:Int))).2 with
  | false=>exact⟨.inr (),rfl,rfl⟩
  | true=>
   rw[hb,cond_true] at hl6
   have hin:=M.nc hl6.symm
   have hsm:=M.xP h_tables hx hl6.symm
   have e12:(st.1.length:Int)=(st.2.length:Int):=by omega
   rw[e12] at hin
   simp only[Bool.not_true,cond_false,cond_true]
   rw[ai (by unfold lim;simp;omega),ai (show Sm (.sl (.int .i64)) st.2 from⟨by omega,fun x _=>trivial⟩),ai hin,ai (by unfold lim;simp;omega),ai (by simp;omega)]
   have hn:nth (t:=.int .i64) (st.2++[M.aN st.2 (nth (t:=ah) plan (m:Int))]) (m:Int)=M.aN st.2 (nth (t:=ah) plan (m:Int)):=by
    unfold nth
    rw[List.getD_eq_getElem?_getD]
    simp[<-l2]
   rw[hn]
   cases hd:decide ((300:Int)<M.aN st.2 (nth (t:=ah) plan (m:Int))) with
   | true=>exact⟨.inr (),rfl,rfl⟩
   | false=>
    refine⟨_,rfl,rfl,by simp[l1],by simp[l2],fun x h=>?_⟩
    rcases List.mem_append.1 h with h | h
    ·exact hx x h
    ·cases List.mem_singleton.1 h
     exact hsm)
 rw[show (aV (0:Int) (plan.length:Int))=aV ((([]:List ah.D).length:Nat):Int) (plan.length:Int) from rfl,h1]
 match o with
 | .inl st=>
  simp only at h2
  rw[h2.1]
  rfl
 | .inr _=>
  simp only at h2
  rw[h2]
  rfl
theorem F.qE (b:(List Int)) (p:Int) (tables:LTb) (h_b:Sm (Ty.sl (Ty.int .u8)) b) (h_tables:Sm (Ty.sl aq) tables) (p0:M.ay b) (p1:0<=p) (p2:p<=995000000000000) (p3:(∀t∈tables,M.mc t)):ok (F.jJ b p tables) (fun r=>r.1.length<=6/\1<=r.1.length/\(∀s∈r.1,M.iM s)/\p<=r.2/\r.2<=p+100000):=by
  unfold F.jJ
  have hE:=M.FM (d:=(2:Int))
  have hE2:M.eB (2:Int)=27:=by decide
  refine okG ?_
  refine aD fun r1 h_1_3_0 h_1_3_1 h_1_3_2 h_1_3_3=>?_
  refine okG ?_
  refine okG ?_
  refine aD fun r2 h_2_1_0 h_2_1_1 h_2_1_2 h_2_1_3=>?_
  refine okT (A:=fun e0=>p<=e0.1/\e0.1<=p+16000/\e0.2.length<=6/\1<=e0.2.length/\(∀s∈e0.2,M.iM s)) (B:=fun q0=>p<=q0.1/\q0.1<=p+16000/\q0.2.length<=6/\1<=q0.2.length/\(∀s∈q0.2,M.iM s)) ?_ (fun e0 h_e0=>?_) (fun q0 h_q0=>?_)
  ·refine okW (fun(k:Nat) (v0:Int×Int×LS)=>0<=v0.1/\v0.1<=(k:Int)/\(v0.2.2.length:Int)+v0.1<=6/\1<=v0.2.2.length/\(∀s∈v0.2.2,M.iM s)/\p<=v0.2.1/\v0.2.1+3000 * v0.1<=p+16000) (fun k v0 hI=>?_) (6:Nat) _ ⟨au,au,au,au,au,au,au⟩
   obtain⟨i_0,i_1,i_2,i_3,i_4,i_5,i_6⟩:=hI
   unfold F.jh
   refine okD (fun c_11=>?_) (fun c_11=>?_)
   ·refine okG ?_ (M.sj (n:=1000) (by first | omega | (simp only[List.length_append,List.length_cons,List.length_nil];omega)) (by exact cl) (by decide))
    refine okL fun r3 er3=>?_
    have k_a:=M.Cm p3 er3
    refine okC (fun c_12=>?_) (fun c_12=>?_)
    ·exact HR ⟨au,au,au,au,au⟩
    ·have l_a:=M.DF er3 c_12
     have l_b:r3.1.length<=6:=by omega
     refine okG ?_
     refine okG ?_
     refine okG ?_
     refine aD fun r4 h_9_3_0 h_9_3_1 h_9_3_2 h_9_3_3=>?_
     have t_a:=M.Jd h_9_3_0 (h_9_3_1 (by decide)) (n:=(v0.2.2.length:Int)) (by omega) (by omega)
     refine okD (fun c_13=>?_) (fun c_13=>?_)
     ·refine okG ?_
      refine okG ?_
      refine aD fun r5 h_12_3_0 h_12_3_1 h_12_3_2 h_12_3_3=>?_
      refine okG ?_
      refine okG ?_
      refine aD fun r6 h_13_1_0 h_13_1_1 h_13_1_2 h_13_1_3=>?_
      refine okB (A:=fun e2=>v0.2.1<=e2.1/\e2.1<=v0.2.1+2000/\e2.2.2.2.2.2.1.length<=81/\(∀v∈e2.2.2.2.2.2.1,v.2.2.1.2.2.1.size<=20)/\e2.2.2.2.2.2.2.length<=3) ?_ (fun e2 h_e2=>?_)
      ·refine okW (fun(_:Nat) (_:Unit)=>True) (fun _ v2 _=>?_) 0 _ trivial
       unfold F.dY
       refine okD (fun c_3=>?_) (fun c_3=>?_)
       ·refine okG ?_
        refine okG ?_
        refine okG ?_ (M.lV rfl (M.lZ k_a _) (by decide))
        refine okG ?_
        refine okG ?_
        refine okG ?_
        refine okG ?_
        refine okG ?_
        refine dF fun r7 h_15_6_0 h_15_6_1 h_15_6_2 h_15_6_3 h_15_6_4=>?_
        exact dx ⟨au,au,au,au,au⟩
       ·refine okD (fun c_4=>?_) (fun c_4=>?_)
        ·refine okG ?_
         refine okG ?_
         refine okG ?_
         refine aD fun r8 h_18_1_0 h_18_1_1 h_18_1_2 h_18_1_3=>?_
         refine okB (A:=fun e3=>v0.2.1<=e3.1/\e3.1<=v0.2.1+30/\e3.2.length<=3) ?_ (fun e3 h_e3=>?_)
         ·refine okW (fun(k:Nat) (v3:Int×Int×(List Int))=>0<=v3.1+1/\v3.1+1<=(k:Int)/\(v3.2.2.length:Int)+v3.1<=2/\v0.2.1<=v3.2.1/\v3.2.1+v3.1<=v0.2.1+20) (fun k v3 hI=>?_) (3:Nat) _ ⟨au,au,au,au,au⟩
          obtain⟨i_0,i_1,i_2,i_3,i_4⟩:=hI
          unfold F.gd
          refine EC (fun c_0=>?_) (fun c_0=>?_)
          ·refine okG ?_
           refine okG ?_
           refine okD (fun c_1=>?_) (fun c_1=>?_)
           ·refine okG ?_
            refine okG ?_
            refine okG ?_
            refine aD fun r9 h_21_8_0 h_21_8_1 h_21_8_2 h_21_8_3=>?_
            refine okG ?_ (by simp only[List.length_cons,List.length_nil,List.length_append,lim];omega)
            exact eY ⟨k-1,by omega,au,au,au,au,au⟩
           ·exact dx ⟨au,au,au⟩
          ·exact dx ⟨au,au,au⟩
         ·obtain⟨e3_0,e3_1,e3_2⟩:=h_e3
          exact dx ⟨au,au,au,au,au⟩
        ·refine okD (fun c_5=>?_) (fun c_5=>?_)
         ·refine okG ?_
          refine okG ?_
          refine okG ?_
          refine aD fun r10 h_24_2_0 h_24_2_1 h_24_2_2 h_24_2_3=>?_
          refine okG ?_
          refine okG ?_
          refine okG ?_
          refine okG ?_
          refine okG ?_ (M.jl1 k_a)
          refine okG ?_ (M.jl2 k_a)
          refine okD (fun c_6=>?_) (fun c_6=>?_)
          ·refine okG ?_ (M.jl3 k_a)
           refine okG ?_
           refine okG ?_
           refine okG ?_
           refine okG ?_
           refine dF fun r11 h_27_4_0 h_27_4_1 h_27_4_2 h_27_4_3 h_27_4_4=>?_
           exact dx ⟨au,au,au,au,au⟩
          ·exact dx ⟨au,au,au,au,au⟩
         ·refine okD (fun c_7=>?_) (fun c_7=>?_)
          ·refine okG ?_
           refine okG ?_
           refine okG ?_
           refine aD fun r10 h_24_2_0 h_24_2_1 h_24_2_2 h_24_2_3=>?_
           refine okG ?_
           refine okG ?_
           refine okG ?_
           refine okG ?_
           refine okG ?_ (M.jl1 k_a)
           refine okG ?_ (M.jl2 k_a)
           refine okD (fun c_8=>?_) (fun c_8=>?_)
           ·refine okG ?_ (M.jl3 k_a)
            refine okG ?_
            refine okG ?_
            refine okG ?_
            refine okG ?_
            refine dF fun r11 h_27_4_0 h_27_4_1 h_27_4_2 h_27_4_3 h_27_4_4=>?_
            exact dx ⟨au,au,au,au,au⟩
           ·exact dx ⟨au,au,au,au,au⟩
          ·refine okD (fun c_9=>?_) (fun c_9=>?_)
           ·refine okG ?_ (by unfold kW;omega)
            refine okT (A:=fun v5=>(0:Int)<=0/\(0:Int)<=0) (B:=fun _=>False) ?_ (fun v5 h_v5=>?_) (fun _ h=>h.elim)
            ·refine IE (fun(k:Nat) (v5:Int×Int×Int×Int)=>(0:Int)<=0/\(0:Int)<=0) ⟨au,au⟩ (fun z5 hz k v5 hk hI=>?_)
             obtain⟨i_0,i_1⟩:=hI
             unfold F.gr
             refine okG ?_ (M.Cz l_b k_a (by decide))
             refine okL fun r12 er12=>?_
             refine okC (fun c_2=>?_) (fun c_2=>?_)
             ·exact eY ⟨au,au⟩
             ·exact eY ⟨au,au⟩
            ·obtain⟨v5_0,v5_1⟩:=h_v5
             exact dx ⟨au,au,au,au,au⟩
           ·refine okD (fun c_10=>?_) (fun c_10=>?_)
            ·exact dx ⟨au,au,au,au,au⟩
            ·exact dx ⟨au,au,au,au,au⟩
      ·obtain⟨e2_0,e2_1,e2_2,e2_3,e2_4⟩:=h_e2
       refine okG ?_ (by simp only[List.length_cons,List.length_nil,List.length_append,lim];omega)
       refine okG ?_ (by simp only[List.length_cons,List.length_nil,List.length_append,lim];omega)
       refine okG ?_ (M.sj (n:=1000) (by first | omega | (simp only[List.length_append,List.length_cons,List.length_nil];omega)) (by exact cl) (by decide))
       refine okL fun r13 er13=>?_
       refine okC (fun c_14=>?_) (fun c_14=>?_)
       ·refine okG ?_ (by simp only[List.length_cons,List.length_nil,List.length_append,lim];omega)
        exact eY ⟨k-1,by omega,au,au,au,au,au,au,au⟩
       ·exact eY ⟨k-1,by omega,au,au,au,au,au,au,au⟩
     ·refine okG ?_
      refine okG ?_
      refine aD fun r5 h_12_3_0 h_12_3_1 h_12_3_2 h_12_3_3=>?_
      refine okG ?_
      refine okG ?_
      refine aD fun r6 h_13_1_0 h_13_1_1 h_13_1_2 h_13_1_3=>?_
      refine okB (A:=fun e2=>v0.2.1<=e2.1/\e2.1<=v0.2.1+2000/\e2.2.2.2.2.2.1.length<=81/\(∀v∈e2.2.2.2.2.2.1,v.2.2.1.2.2.1.size<=20)/\e2.2.2.2.2.2.2.length<=3) ?_ (fun e2 h_e2=>?_)
      ·refine okW (fun(_:Nat) (_:Unit)=>True) (fun _ v2 _=>?_) 0 _ trivial
       unfold F.dY
       refine okD (fun c_3=>?_) (fun c_3=>?_)
       ·refine okG ?_
        refine okG ?_
        refine okG ?_ (M.lV rfl (M.lZ k_a _) (by decide))
        refine okG ?_
        refine okG ?_
        refine okG ?_
        refine okG ?_
        refine okG ?_
        refine dF fun r7 h_15_6_0 h_15_6_1 h_15_6_2 h_15_6_3 h_15_6_4=>?_
        exact dx ⟨au,au,au,au,au⟩
       ·refine okD (fun c_4=>?_) (fun c_4=>?_)
        ·refine okG ?_
         refine okG ?_
         refine okG ?_
         refine aD fun r8 h_18_1_0 h_18_1_1 h_18_1_2 h_18_1_3=>?_
         refine okB (A:=fun e3=>v0.2.1<=e3.1/\e3.1<=v0.2.1+30/\e3.2.length<=3) ?_ (fun e3 h_e3=>?_)
         ·refine okW (fun(k:Nat) (v3:Int×Int×(List Int))=>0<=v3.1+1/\v3.1+1<=(k:Int)/\(v3.2.2.length:Int)+v3.1<=2/\v0.2.1<=v3.2.1/\v3.2.1+v3.1<=v0.2.1+20) (fun k v3 hI=>?_) (3:Nat) _ ⟨au,au,au,au,au⟩
          obtain⟨i_0,i_1,i_2,i_3,i_4⟩:=hI
          unfold F.gd
          refine EC (fun c_0=>?_) (fun c_0=>?_)
          ·refine okG ?_
           refine okG ?_
           refine okD (fun c_1=>?_) (fun c_1=>?_)
           ·refine okG ?_
            refine okG ?_
            refine okG ?_
            refine aD fun r9 h_21_8_0 h_21_8_1 h_21_8_2 h_21_8_3=>?_
            refine okG ?_ (by simp only[List.length_cons,List.length_nil,List.length_append,lim];omega)
            exact eY ⟨k-1,by omega,au,au,au,au,au⟩
           ·exact dx ⟨au,au,au⟩
          ·exact dx ⟨au,au,au⟩
         ·obtain⟨e3_0,e3_1,e3_2⟩:=h_e3
          exact dx ⟨au,au,au,au,au⟩
        ·refine okD (fun c_5=>?_) (fun c_5=>?_)
         ·refine okG ?_
          refine okG ?_
          refine okG ?_
          refine aD fun r10 h_24_2_0 h_24_2_1 h_24_2_2 h_24_2_3=>?_
          refine okG ?_
          refine okG ?_
          refine okG ?_
          refine okG ?_
          refine okG ?_ (M.jl1 k_a)
          refine okG ?_ (M.jl2 k_a)
          refine okD (fun c_6=>?_) (fun c_6=>?_)
          ·refine okG ?_ (M.jl3 k_a)
           refine okG ?_
           refine okG ?_
           refine okG ?_
           refine okG ?_
           refine dF fun r11 h_27_4_0 h_27_4_1 h_27_4_2 h_27_4_3 h_27_4_4=>?_
           exact dx ⟨au,au,au,au,au⟩
          ·exact dx ⟨au,au,au,au,au⟩
         ·refine okD (fun c_7=>?_) (fun c_7=>?_)
          ·refine okG ?_
           refine okG ?_
           refine okG ?_
           refine aD fun r10 h_24_2_0 h_24_2_1 h_24_2_2 h_24_2_3=>?_
           refine okG ?_
           refine okG ?_
           refine okG ?_
           refine okG ?_
           refine okG ?_ (M.jl1 k_a)
           refine okG ?_ (M.jl2 k_a)
           refine okD (fun c_8=>?_) (fun c_8=>?_)
           ·refine okG ?_ (M.jl3 k_a)
            refine okG ?_
            refine okG ?_
            refine okG ?_
            refine okG ?_
            refine dF fun r11 h_27_4_0 h_27_4_1 h_27_4_2 h_27_4_3 h_27_4_4=>?_
            exact dx ⟨au,au,au,au,au⟩
           ·exact dx ⟨au,au,au,au,au⟩
          ·refine okD (fun c_9=>?_) (fun c_9=>?_)
           ·refine okG ?_ (by unfold kW;omega)
            refine okT (A:=fun v5=>(0:Int)<=0/\(0:Int)<=0) (B:=fun _=>False) ?_ (fun v5 h_v5=>?_) (fun _ h=>h.elim)
            ·refine IE (fun(k:Nat) (v5:Int×Int×Int×Int)=>(0:Int)<=0/\(0:Int)<=0) ⟨au,au⟩ (fun z5 hz k v5 hk hI=>?_)
             obtain⟨i_0,i_1⟩:=hI
             unfold F.gr
             refine okG ?_ (M.Cz l_b k_a (by decide))
             refine okL fun r12 er12=>?_
             refine okC (fun c_2=>?_) (fun c_2=>?_)
             ·exact eY ⟨au,au⟩
             ·exact eY ⟨au,au⟩
            ·obtain⟨v5_0,v5_1⟩:=h_v5
             exact dx ⟨au,au,au,au,au⟩
           ·refine okD (fun c_10=>?_) (fun c_10=>?_)
            ·exact dx ⟨au,au,au,au,au⟩
            ·exact dx ⟨au,au,au,au,au⟩
      ·obtain⟨e2_0,e2_1,e2_2,e2_3,e2_4⟩:=h_e2
       refine okG ?_ (by simp only[List.length_cons,List.length_nil,List.length_append,lim];omega)
       refine okG ?_ (by simp only[List.length_cons,List.length_nil,List.length_append,lim];omega)
       refine okG ?_ (M.sj (n:=1000) (by first | omega | (simp only[List.length_append,List.length_cons,List.length_nil];omega)) (by exact cl) (by decide))
       refine okL fun r13 er13=>?_
       refine okC (fun c_15=>?_) (fun c_15=>?_)
       ·refine okG ?_ (by simp only[List.length_cons,List.length_nil,List.length_append,lim];omega)
        exact eY ⟨k-1,by omega,au,au,au,au,au,au,au⟩
       ·exact eY ⟨k-1,by omega,au,au,au,au,au,au,au⟩
   ·exact EP ⟨au,au,au,au,au⟩
  ·obtain⟨e0_0,e0_1,e0_2,e0_3,e0_4⟩:=h_e0
   exact zX
  ·obtain⟨q0_0,q0_1,q0_2,q0_3,q0_4⟩:=h_q0
   exact zX
theorem F.yg (b:(List Int)) (p:Int) (tables:LTb) (h_b:Sm (Ty.sl (Ty.int .u8)) b) (h_tables:Sm (Ty.sl aq) tables) (p0:M.ay b) (p1:0<=p) (p2:p<=995000000000000) (p3:(∀t∈tables,M.mc t)):F.jJ b p tables=some (M.kE b p tables):=gE (F.qE b p tables h_b h_tables p0 p1 p2 p3)
theorem M.Cr (b:(List Int)) (p:Int) (tables:LTb) (h_b:Sm (Ty.sl (Ty.int .u8)) b) (h_tables:Sm (Ty.sl aq) tables) (p0:M.ay b) (p1:0<=p) (p2:p<=995000000000000) (p3:(∀t∈tables,M.mc t)):(M.kE b p tables).1.length<=6/\1<=(M.kE b p tables).1.length/\(∀s∈(M.kE b p tables).1,M.iM s)/\p<=(M.kE b p tables).2/\(M.kE b p tables).2<=p+100000:=gB (F.qE b p tables h_b h_tables p0 p1 p2 p3)
theorem wS {α:Type} {K:α->Prop} {f:LS×Int->Option α} {b:(List Int)} {p:Int} {tables:LTb} (k:∀r,(r.1.length<=6)->(1<=r.1.length)->(∀s∈r.1,M.iM s)->(p<=r.2)->(r.2<=p+100000)->ok (f r) K) (h_b:Sm (Ty.sl (Ty.int .u8)) b:=by exact au) (h_tables:Sm (Ty.sl aq) tables:=by exact au) (p0:M.ay b:=by exact au) (p1:0<=p:=by exact au) (p2:p<=995000000000000:=by exact au) (p3:(∀t∈tables,M.mc t):=by exact au):ok (aK (M.kE b p tables) f) K:=by
 have h:=M.Cr b p tables h_b h_tables p0 p1 p2 p3
 obtain⟨h0,h1,h2,h3,h4⟩:=h
 exact k _ h0 h1 h2 h3 h4
theorem F.oQ (b:(List Int)) (p:Int) (h_b:Sm (Ty.sl (Ty.int .u8)) b) (p0:M.ay b) (p1:0<=p) (p2:p<=994000000000000):ok (F.iP b p) (fun r=>r.1.length<=3/\1<=r.1.length/\(∀t∈r.1,M.mc t)/\r.2.1.length<=6/\1<=r.2.1.length/\(∀s∈r.2.1,M.iM s)/\p<=r.2.2/\r.2.2<=p+200000):=by
 unfold F.iP
 refine okG ?_
 refine okG ?_
 refine tn fun r1 h_1_1_0 h_1_1_1 h_1_1_2 h_1_1_3 h_1_1_4=>?_
 refine okG ?_
 refine okG ?_
 refine okG ?_
 refine okG ?_
 refine wS fun r2 h_2_2_0 h_2_2_1 h_2_2_2 h_2_2_3 h_2_2_4=>?_
 refine okG ?_
 refine okG ?_
 refine aD fun r3 h_3_6_0 h_3_6_1 h_3_6_2 h_3_6_3=>?_
 have m_a:=M.JE (n:=(r2.1.length:Int)) (by omega)
 have w_a:wrap64 ((1:Int)+r3.1)=1+r3.1:=aJ (by omega) (by omega)
 refine okG ?_
 refine okG ?_
 refine okS ?_
 dsimp only
 exact⟨au,au,au,Nat.le_trans (M.CK _ _) (by omega),M.It (by omega) (by omega) (by omega),au,au,au⟩
theorem F.xq (b:(List Int)) (p:Int) (h_b:Sm (Ty.sl (Ty.int .u8)) b) (p0:M.ay b) (p1:0<=p) (p2:p<=994000000000000):F.iP b p=some (M.eS b p):=gE (F.oQ b p h_b p0 p1 p2)
theorem M.Bm (b:(List Int)) (p:Int) (h_b:Sm (Ty.sl (Ty.int .u8)) b) (p0:M.ay b) (p1:0<=p) (p2:p<=994000000000000):(M.eS b p).1.length<=3/\1<=(M.eS b p).1.length/\(∀t∈(M.eS b p).1,M.mc t)/\(M.eS b p).2.1.length<=6/\1<=(M.eS b p).2.1.length/\(∀s∈(M.eS b p).2.1,M.iM s)/\p<=(M.eS b p).2.2/\(M.eS b p).2.2<=p+200000:=gB (F.oQ b p h_b p0 p1 p2)
theorem nt {α:Type} {K:α->Prop} {f:LTb×LS×Int->Option α} {b:(List Int)} {p:Int} (k:∀r,(r.1.length<=3)->(1<=r.1.length)->(∀t∈r.1,M.mc t)->(r.2.1.length<=6)->(1<=r.2.1.length)->(∀s∈r.2.1,M.iM s)->(p<=r.2.2)->(r.2.2<=p+200000)->ok (f r) K) (h_b:Sm (Ty.sl (Ty.int .u8)) b:=by exact au) (p0:M.ay b:=by exact au) (p1:0<=p:=by exact au) (p2:p<=994000000000000:=by exact au):ok (aK (M.eS b p) f) K:=by
 have h:=M.Bm b p h_b p0 p1 p2
 obtain⟨h0,h1,h2,h3,h4,h5,h6,h7⟩:=h
 exact k _ h0 h1 h2 h3 h4 h5 h6 h7
theorem F.nA (b:(List Int)) (p:Int) (tables:LTb) (n:Int) (h_b:Sm (Ty.sl (Ty.int .u8)) b) (h_tables:Sm (Ty.sl aq) tables) (p0:M.ay b) (p1:0<=p) (p2:p<=994000000000000) (p3:tables.length<=3):ok (F.ir b p tables n) (fun r=>r.1.length<=4/\(∀g∈r.1,M.gdD g)/\p<=r.2/\r.2<=p+100000):=by
  unfold F.ir
  have hE2:M.eB (2:Int)=27:=by decide
  have hR:(aV (0:Int) (tables.length:Int)).length=tables.length:=by simp[aV]
  refine okT (A:=fun v0=>p<=v0.1/\v0.1<=p+2000 * ((aV (0:Int) (tables.length:Int)).length:Int)/\v0.2.length<=(aV (0:Int) (tables.length:Int)).length/\(∀g∈v0.2,M.gdD g)) (B:=fun _=>False) ?_ (fun v0 h_v0=>?_) (fun _ h=>h.elim)
  ·refine IE (fun(k:Nat) (v0:Int×LG)=>p<=v0.1/\v0.1<=p+2000 * (k:Int)/\v0.2.length<=k/\(∀g∈v0.2,M.gdD g)) ⟨au,au,au,au⟩ (fun z0 hz k v0 hk hI=>?_)
   obtain⟨i_0,i_1,i_2,i_3⟩:=hI
   unfold F.gO
   refine okG ?_
   refine okG ?_
   refine okG ?_
   refine aD fun r1 h_5_1_0 h_5_1_1 h_5_1_2 h_5_1_3=>?_
   refine okD (fun c_0=>?_) (fun c_0=>?_)
   ·refine okG ?_
    refine okG ?_
    refine okG ?_
    refine okG ?_
    refine dF fun r2 h_6_8_0 h_6_8_1 h_6_8_2 h_6_8_3 h_6_8_4=>?_
    refine okG ?_
    exact eY ⟨au,au,au,au⟩
   ·exact eY ⟨au,au,au,au⟩
  ·obtain⟨v0_0,v0_1,v0_2,v0_3⟩:=h_v0
   refine EC (fun c_1=>?_) (fun c_1=>?_)
   ·refine okG ?_
    refine okG ?_
    refine jE fun r3 h_7_6_0 h_7_6_1 h_7_6_2=>?_
    refine okC (fun c_2=>?_) (fun c_2=>?_)
    ·refine okG ?_
     refine okG ?_
     refine aD fun r4 h_8_1_0 h_8_1_1 h_8_1_2 h_8_1_3=>?_
     refine okD (fun c_3=>?_) (fun c_3=>?_)
     ·refine okG ?_
      refine okG ?_
      refine aD fun r5 h_11_2_0 h_11_2_1 h_11_2_2 h_11_2_3=>?_
      refine okG ?_
      refine okL fun y1 ey1=>?_
      subst ey1
      exact wz
     ·refine okD (fun c_4=>?_) (fun c_4=>?_)
      ·refine okG ?_
       refine okG ?_
       refine okG ?_
       refine aD fun r6 h_13_11_0 h_13_11_1 h_13_11_2 h_13_11_3=>?_
       refine okG ?_
       refine okG ?_
       refine okL fun y2 ey2=>?_
       subst ey2
       exact wz
      ·refine okG ?_
       refine okG ?_
       exact wz
    ·exact wz
   ·exact wz
theorem F.vp (b:(List Int)) (p:Int) (tables:LTb) (n:Int) (h_b:Sm (Ty.sl (Ty.int .u8)) b) (h_tables:Sm (Ty.sl aq) tables) (p0:M.ay b) (p1:0<=p) (p2:p<=994000000000000) (p3:tables.length<=3):F.ir b p tables n=some (M.fO b p tables n):=gE (F.nA b p tables n h_b h_tables p0 p1 p2 p3)
theorem M.zR (b:(List Int)) (p:Int) (tables:LTb) (n:Int) (h_b:Sm (Ty.sl (Ty.int .u8)) b) (h_tables:Sm (Ty.sl aq) tables) (p0:M.ay b) (p1:0<=p) (p2:p<=994000000000000) (p3:tables.length<=3):(M.fO b p tables n).1.length<=4/\(∀g∈(M.fO b p tables n).1,M.gdD g)/\p<=(M.fO b p tables n).2/\(M.fO b p tables n).2<=p+100000:=gB (F.nA b p tables n h_b h_tables p0 p1 p2 p3)
theorem mH {α:Type} {K:α->Prop} {f:LG×Int->Option α} {b:(List Int)} {p:Int} {tables:LTb} {n:Int} (k:∀r,(r.1.length<=4)->(∀g∈r.1,M.gdD g)->(p<=r.2)->(r.2<=p+100000)->ok (f r) K) (h_b:Sm (Ty.sl (Ty.int .u8)) b:=by exact au) (h_tables:Sm (Ty.sl aq) tables:=by exact au) (p0:M.ay b:=by exact au) (p1:0<=p:=by exact au) (p2:p<=994000000000000:=by exact au) (p3:tables.length<=3:=by exact au):ok (aK (M.fO b p tables n) f) K:=by
 have h:=M.zR b p tables n h_b h_tables p0 p1 p2 p3
 obtain⟨h0,h1,h2,h3⟩:=h
 exact k _ h0 h1 h2 h3
theorem F.kU (code:(List Int)) (h_code:Sm (Ty.sl (Ty.int .u8)) code) (p0:M.ay code):ok (F.fu code) (fun r=>r.1.length<=3/\1<=r.1.length/\(∀t∈r.1,M.mc t)/\r.2.1.length<=4/\(∀g∈r.2.1,M.gdD g)/\r.2.2.length<=6/\1<=r.2.2.length/\(∀s∈r.2.2,M.iM s)):=by
  unfold F.fu
  refine okD (fun c_0=>?_) (fun c_0=>?_)
  ·refine okG ?_
   refine okG ?_
   refine okG ?_
   refine okG ?_
   refine okG ?_
   refine nt fun r1 h_2_1_0 h_2_1_1 h_2_1_2 h_2_1_3 h_2_1_4 h_2_1_5 h_2_1_6 h_2_1_7=>?_
   refine okG ?_
   refine okG ?_
   refine okG ?_
   refine okG ?_
   refine mH fun r2 h_3_3_0 h_3_3_1 h_3_3_2 h_3_3_3=>?_
   exact JK
  ·refine okG ?_
   refine okG ?_
   refine nt fun r1 h_2_1_0 h_2_1_1 h_2_1_2 h_2_1_3 h_2_1_4 h_2_1_5 h_2_1_6 h_2_1_7=>?_
   refine okG ?_
   refine okG ?_
   refine okG ?_
   refine okG ?_
   refine mH fun r2 h_3_3_0 h_3_3_1 h_3_3_2 h_3_3_3=>?_
   exact JK
theorem F.rD (code:(List Int)) (h_code:Sm (Ty.sl (Ty.int .u8)) code) (p0:M.ay code):F.fu code=some (M.cE code):=gE (F.kU code h_code p0)
theorem M.nF (code:(List Int)) (h_code:Sm (Ty.sl (Ty.int .u8)) code) (p0:M.ay code):(M.cE code).1.length<=3/\1<=(M.cE code).1.length/\(∀t∈(M.cE code).1,M.mc t)/\(M.cE code).2.1.length<=4/\(∀g∈(M.cE code).2.1,M.gdD g)/\(M.cE code).2.2.length<=6/\1<=(M.cE code).2.2.length/\(∀s∈(M.cE code).2.2,M.iM s):=gB (F.kU code h_code p0)
theorem Db {α:Type} {K:α->Prop} {f:LTb×LG×LS->Option α} {code:(List Int)} (k:∀r,(r.1.length<=3)->(1<=r.1.length)->(∀t∈r.1,M.mc t)->(r.2.1.length<=4)->(∀g∈r.2.1,M.gdD g)->(r.2.2.length<=6)->(1<=r.2.2.length)->(∀s∈r.2.2,M.iM s)->ok (f r) K) (h_code:Sm (Ty.sl (Ty.int .u8)) code:=by exact au) (p0:M.ay code:=by exact au):ok (aK (M.cE code) f) K:=by
 have h:=M.nF code h_code p0
 obtain⟨h0,h1,h2,h3,h4,h5,h6,h7⟩:=h
 exact k _ h0 h1 h2 h3 h4 h5 h6 h7
theorem F.Bu (row:LV) (h_row:Sm (Ty.sl aa) row):F.tT row=some (M.oP row):=by
 unfold F.tT M.oP
 rw[hY M.aM () (fun x _=>by simp only[F.kr,mm,cr]<;>rfl),show decide ((row.length:Int)<=4)=decide (row.length<=4) from decide_eq_decide.2 (by omega)]
 cases row.all M.aM<;>simp
theorem F.yu (columns:LC) (row:LV) (h_columns:Sm (Ty.sl ag) columns) (h_row:Sm (Ty.sl aa) row):F.qk columns row=some (M.cF columns row):=by
 unfold F.qk M.cF
 cases M.bJ columns
 ·rfl
 cases M.oP row
 ·rfl
 by_cases hl:row.length=columns.length
 ·rw[hY (M.tw columns row) () (fun i hi=>by
   obtain⟨h0,h1⟩:=fz.1 hi
   have h2:i<(columns.length:Int):=by omega
   simp only[F.je,ai h2]
   unfold M.tw
   cases decide ((nth (t:=aa) row i).1=(nth (t:=ag) columns i).1)<;>cases decide ((nth (t:=aa) row i).1=(0:Int))<;>cases (nth (t:=ag) columns i).2.1<;>rfl)]
  simp only[hl,Bool.not_true,decide_true,Bool.true_and,cond_true,cond_false]
  cases (aV 0 (columns.length:Int)).all (M.tw columns row)<;>rfl
 ·have h3:¬(row.length:Int)=(columns.length:Int):=by omega
  simp[hl,h3]
theorem F.Au (columns:LC) (rows:LLV) (h_columns:Sm (Ty.sl ag) columns) (h_rows:Sm (Ty.sl (Ty.sl aa)) rows):F.rC columns rows=some (M.gA columns rows):=by
 unfold F.rC M.gA
 rw[hY (M.cF columns) () (fun x _=>by simp only[F.jF,mm,cr])]
 cases rows.all (M.cF columns)<;>simp
theorem F.vY (tables:LTb) (h_tables:Sm (Ty.sl aq) tables):F.oB tables=some (M.bT tables):=by
 unfold F.oB M.bT
 rw[hY M.cZ () (fun x _=>by
  simp only[F.iC]
  unfold M.cZ
  by_cases h:x.2.1.length<=6
  ·have h2:¬(6:Int)<(x.2.1.length:Int):=by omega
   simp only[h2,h,decide_true,decide_false,Bool.true_and]
   cases M.gA x.1 x.2.1<;>rfl
  ·have h2:(6:Int)<(x.2.1.length:Int):=by omega
   simp[h2,h]),show decide ((tables.length:Int)<=3)=decide (tables.length<=3) from decide_eq_decide.2 (by omega)]
 cases tables.all M.cZ<;>simp
theorem F.zk (tables:LTb) (plan:LS) (h_tables:Sm (Ty.sl aq) tables) (h_plan:Sm (Ty.sl ah) plan):F.rL tables plan=some (M.bK tables plan):=by
 unfold F.rL M.bK
 rw[aW]
 cases (M.cT tables plan).2<;>cases M.bT tables<;>rfl
theorem F.yy (truth:Int)  : F.qc truth=some (M.valueOf truth):=by
 unfold F.qc M.valueOf M.inR
 by_cases h0:truth=0
 ·subst h0;rfl
 ·by_cases h1:truth=1
  ·subst h1;rfl
  ·have h2:¬(0<=truth/\truth<=1):=by omega
   simp only[h0,h1,decide_false]
   by_cases h3:0<=truth
   ·have h4:¬truth<=1:=by omega
    simp[h3,h4]
   ·simp[h3]
theorem F.Bc (a:aa.D) (b:aa.D) (h_a:Sm aa a) (h_b:Sm aa b):F.tv a b=some (M.sum a b):=by
 unfold F.tv M.sum
 have e:(0:Int)-9999=-9999:=rfl
 cases decide (a.1=(0:Int))<;>cases decide (b.1=(0:Int))<;>cases M.inR (wrap64 (a.2.1+b.2.1)) (-9999) 9999<;>rfl
theorem F.zI (b:Bool)  : F.rJ b=some (M.bool b):=by
 unfold F.rJ M.bool
 rw[cr]
theorem F.AJ (a:Int) (b:Int)  : F.qX a b=some (M.less a b):=by
 unfold F.qX M.less
 rw[cr]
theorem F.AX (a:ByteArray) (b:ByteArray) (h_a:Sm Ty.str a) (h_b:Sm Ty.str b):F.tS a b=some (M.uB a b):=by
 unfold F.tS M.uB
 simp only[cr]
theorem F.tO (a:aa.D) (b:aa.D) (h_a:Sm aa a) (h_b:Sm aa b):F.lM a b=some (M.dZ a b):=by
 unfold F.lM M.dZ
 cases M.aM a
 ·rfl
 cases M.aM b
 ·rfl
 unfold M.order M.less M.uJ
 by_cases h1:a.1=b.1
 ·by_cases h2:a.2.1=b.2.1
  ·simp[h1,h2,M.orI]
   generalize M.uB a.2.2.1 b.2.2.1=c
   by_cases hc:c=0<;>simp[hc]
  ·rcases Int.lt_or_gt_of_ne h2 with h | h
   ·have h3:¬b.2.1<a.2.1:=Int.lt_asymm h
    simp[h1,h2,h,h3,M.orI]
    rfl
   ·have h3:¬a.2.1<b.2.1:=Int.lt_asymm h
    simp[h1,h2,h,h3,M.orI]
    rfl
 ·rcases Int.lt_or_gt_of_ne h1 with h | h
  ·have h3:¬b.1<a.1:=Int.lt_asymm h
   simp[h1,h,h3,M.orI]
   rfl
  ·have h3:¬a.1<b.1:=Int.lt_asymm h
   simp[h1,h,h3,M.orI]
   rfl
theorem F.yx (kind:Int) (a:aa.D) (b:aa.D) (h_a:Sm aa a) (h_b:Sm aa b):F.qq kind a b=some (M.compare kind a b):=by
 unfold F.qq M.compare M.dZ M.zz
 cases M.inR kind 1 4
 ·rfl
 cases M.aM a
 ·rfl
 cases M.aM b
 ·rfl
 cases decide (a.1=(0:Int))<;>cases decide (b.1=(0:Int))<;>cases decide (a.1=b.1)<;>cases decide (kind=1)<;>cases decide (kind=2)<;>cases decide (kind=3)<;>rfl
theorem F.yp (n:Int)  : F.vk n=some (M.inR n 0 2):=by
 rfl
theorem F.zL (n:Int) (p0:M.inR n 0 2=true):F.rH n=some (M.sure n):=by
 have h3:n=0\/n=1\/n=2:=by
  unfold M.inR at p0
  simp at p0
  omega
 rcases h3 with rfl | rfl | rfl<;>(unfold F.rH;(repeat rw[ai (by decide)]);rfl)
theorem F.Bf (a:Int) (b:Int)  : F.tQ a b=some (M.rQ a b):=by
 unfold F.tQ M.rQ M.fold
 cases ha:M.inR a 0 2
 ·rfl
 cases hb:M.inR b 0 2
 ·rfl
 have h3:∀n,M.inR n 0 2=true->n=0\/n=1\/n=2:=by
  intro n hn
  unfold M.inR at hn
  simp at hn
  omega
 rcases h3 a ha with rfl | rfl | rfl<;>rcases h3 b hb with rfl | rfl | rfl<;>(repeat rw[ai (by rfl)])<;>rfl
theorem F.xW (v:aa.D) (h_v:Sm aa v):F.qd v=some (M.cv v):=by
 unfold F.qd M.cv
 cases hv:M.aM v
 ·rfl
 simp only[Bool.not_true,cond_true,cond_false]
 unfold M.aM at hv
 by_cases h0:v.1=(0:Int)
 ·simp[h0]
 ·by_cases h1:v.1=(1:Int)
  ·simp[h1]
  ·by_cases h2:v.1=(2:Int)
   ·simp[h2]
   ·by_cases h3:v.1=(3:Int)
    ·simp[h3]
    ·simp[h0,h1,h2,h3] at hv
theorem F.CF (a:Int) (b:Int)  : F.we a b=some (M.zV a b):=by
 unfold F.we M.zV M.fold
 cases ha:M.inR a 0 2
 ·rfl
 cases hb:M.inR b 0 2
 ·rfl
 have h3:∀n,M.inR n 0 2=true->n=0\/n=1\/n=2:=by
  intro n hn
  unfold M.inR at hn
  simp at hn
  omega
 rcases h3 a ha with rfl | rfl | rfl<;>rcases h3 b hb with rfl | rfl | rfl<;>(repeat rw[ai (by rfl)])<;>rfl
theorem F.Bx (a:Int)  : F.tu a=some (M.qU a):=by
 unfold F.tu M.qU
 cases ha:M.inR a 0 2
 ·unfold M.inR at ha
  simp at ha
  have h0:¬a=0:=by omega
  have h1:¬a=1:=by omega
  have h2:¬a=2:=by omega
  simp[h0,h1,h2]
 ·have h3:a=0\/a=1\/a=2:=by
   unfold M.inR at ha
   simp at ha
   omega
  rcases h3 with rfl | rfl | rfl<;>(repeat rw[ai (by rfl)])<;>rfl
theorem F.Ci (row:LV) (values:LV) (p:aC.D) (h_row:Sm (Ty.sl aa) row) (h_values:Sm (Ty.sl aa) values) (h_p:Sm aC p) (p0:values.length<=1000) (p1:M.takes p<=(values.length:Int)) (p2:1<=p.1/\p.1<=8) (p3:M.nr p row.length):F.sC row values p=some (M.fm row values p):=by
 exact EY p values (show Sm aC p from h_p) h_values p0 p1 p2 p3
theorem F.yJ (row:LV) (e:LPt) (h_row:Sm (Ty.sl aa) row) (h_e:Sm (Ty.sl aC) e) (p0:M.bX row.length e):F.pV row e=some (M.fF row e):=by
 unfold F.pV M.fF
 obtain⟨h1,h2⟩:=zm (f:=F.eZ row e) h_row (fun p st hp hs hl h1 hk hc=>Bi p st hs hl h1 hk hc) e [] h_e.2 (fY aa) (by simp;have:=p0.1;omega) p0.2
 rw[h1,bp,ai (by omega)]
theorem F.xY (row:LV) (e:LPt) (h_row:Sm (Ty.sl aa) row) (h_e:Sm (Ty.sl aC) e) (p0:M.bX row.length e):F.vG row e=some (M.holds row e):=by
 rfl
theorem F.yb (row:LV) (list:(List Int)) (h_row:Sm (Ty.sl aa) row) (h_list:Sm (Ty.sl (Ty.int .i64)) list) (p0:M.sY row list):F.qi row list=some (M.taken row list):=by
 unfold F.qi
 rw[oM (fun i=>nth (t:=aa) row i) (fun x hx s hs=>by
  have hl:=h_list.1
  obtain⟨h0,h1⟩:=p0 x hx
  simp only[F.jc]
  rw[ai h0,ai h1,ai (by unfold lim;simp;omega)])]
 rfl
theorem F.wo (a:LV) (b:LV) (h_a:Sm (Ty.sl aa) a) (h_b:Sm (Ty.sl aa) b):F.oH a b=some (a++b):=by
 unfold F.oH
 have h1:=h_a.1
 have h2:=h_b.1
 rw[aW,ai (by unfold lim;omega)]
theorem F.Ap (a:LV) (b:LV) (h_a:Sm (Ty.sl aa) a) (h_b:Sm (Ty.sl aa) b):F.xy a b=some (decide (a=b)):=by
 exact Dk (t:=aa) (fun i h0 h1 h2=>by simp only[F.jB,ai h2,mm,cr,FY (t:=aa) rfl])
theorem F.yj (rows:LLV) (row:LV) (h_rows:Sm (Ty.sl (Ty.sl aa)) rows) (h_row:Sm (Ty.sl aa) row):F.qt rows row=some (M.dH rows row:Int):=by
 unfold F.qt M.dH
 have hl:=h_rows.1
 have key:∀(l:List (List aa.D)) (v:Int),0<=v->v+(l.length:Int)<=1048576->aP (F.gm rows row) l v=some (.inl (v+(l.countP (fun r=>decide (r=row)):Int))):=by
  intro l
  induction l with
  | nil=>intro v _ _;show some (Sum.inl v)=some (Sum.inl (v+0));rw[Int.add_zero]
  | cons x l ih=>
   intro v h0 hb
   simp only[List.length_cons] at hb
   rw[bQ,List.countP_cons,show F.gm rows row x v=cond (decide (x=row)) (some (.inl (wrap64 (v+(1:Int))))) (some (.inl v)) from rfl]
   cases decide (x=row) with
   | true=>
    rw[cond_true,aJ (n:=v+(1:Int)) (by omega) (by omega),bp,ih _ (by omega) (by omega)]
    congr 2
    simp
    omega
   | false=>
    rw[cond_false,bp,ih _ h0 (by omega)]
    congr 2
 rw[key rows 0 (by omega) (by omega),bp,Int.zero_add]
theorem F.xe (rows:LLV) (h_rows:Sm (Ty.sl (Ty.sl aa)) rows):F.nQ rows=some (M.eO rows):=by
 unfold F.nQ M.eO
 have hfold:=tc (f:=F.fE rows) rows h_rows (fun z v hz hv=>by
  unfold F.fE M.eR
  have hl:=h_rows.1
  rw[ai hv.1]
  cases decide ((M.dH v z:Int)=(0:Int)) with
  | false=>rfl
  | true=>
   simp only[cond_true,aW]
   rw[ai (by have:=hv.2;unfold lim;simp;omega)])
 rw[hfold.1]
 rfl
theorem F.Af (tables:LTb) (ahead:(List LLV)) (s:ah.D) (h_tables:Sm (Ty.sl aq) tables) (h_ahead:Sm (Ty.sl (Ty.sl (Ty.sl aa))) ahead) (h_s:Sm ah s) (p0:M.kA tables ahead s):F.qV tables ahead s=some (M.bP tables ahead s):=by
 obtain⟨r1,rin,rfew,r2,r3,r4⟩:=p0
 unfold F.qV M.bP
 by_cases h1:s.1=(1:Int)
 ·obtain⟨n0,n1⟩:=r1 h1
  have hsm:=(aH h_tables s.2.2.2.1).2.1
  have hl:=hsm.1
  simp only[h1,decide_true,cond_true]
  rw[jl (t:=.sl aa) (u:=.sl aa) (fun x=>[x]) (nth (t:=aq) tables s.2.2.2.1).2.1 1 (fun x _=>by first | exact Nat.le_refl _ | (cases M.holds x s.2.2.2.2.1<;>simp)) [] (fun i v i0 i1 hv=>by
   unfold F.gX
   simp only
   rw[ai n0,ai n1,decide_eq_true i1,cond_true]
   rw[ai i0,ai i1,aW,ai (by simp at hv;unfold lim;simp;omega),aJ (n:=i+1) (by omega) (by omega)]) (fun i v i0 i1=>by
   unfold F.gX
   simp only
   rw[ai n0,ai n1,decide_eq_false (Int.not_lt.2 i1),cond_false])]
  rw[sv]
  rfl
 obtain⟨⟨a0,a1⟩,⟨b0,b1⟩⟩:=rin h1
 obtain⟨fa,fb⟩:=rfew h1
 have ha:=fa.1
 have hb:=fb.1
 have sa:Sm (.sl (.sl aa)) (nth (t:=.sl (.sl aa)) ahead s.2.1):=aH h_ahead _
 have sb:Sm (.sl (.sl aa)) (nth (t:=.sl (.sl aa)) ahead s.2.2.1):=aH h_ahead _
 by_cases h2:s.1=(2:Int)
 ·simp only[h2,decide_true,cond_true,Int.reduceEq,decide_false,cond_false]
  rw[jl (t:=.sl aa) (u:=.sl aa) (fun x=>cond (M.holds x s.2.2.2.2.1) [x] []) (nth (t:=.sl (.sl aa)) ahead s.2.1) 1 (fun x _=>by first | exact Nat.le_refl _ | (cases M.holds x s.2.2.2.2.1<;>simp)) [] (fun i v i0 i1 hv=>by
   unfold F.gU
   simp only
   rw[ai a0,ai a1,decide_eq_true i1,cond_true]
   rw[ai i0,ai i1,ai (r2 h2 _ (iQ (t:=.sl aa) i0 i1))]
   cases M.holds (nth (t:=.sl aa) (nth (t:=.sl (.sl aa)) ahead s.2.1) i) s.2.2.2.2.1
   ·rw[cond_false,cond_false,List.append_nil,aJ (n:=i+1) (by omega) (by omega)]
   ·rw[cond_true,cond_true,aW,ai (by simp at hv;unfold lim;simp;omega),aJ (n:=i+1) (by omega) (by omega)]) (fun i v i0 i1=>by
   unfold F.gU
   simp only
   rw[ai a0,ai a1,decide_eq_false (Int.not_lt.2 i1),cond_false])]
  rw[qW]
  rfl
 by_cases h3:s.1=(3:Int)
 ·simp only[h3,decide_true,cond_true,Int.reduceEq,decide_false,cond_false]
  rw[jl (t:=.sl aa) (u:=.sl aa) (fun x=>[M.taken x s.2.2.2.2.2.1]) (nth (t:=.sl (.sl aa)) ahead s.2.1) 1 (fun x _=>by first | exact Nat.le_refl _ | (cases M.holds x s.2.2.2.2.1<;>simp)) [] (fun i v i0 i1 hv=>by
   unfold F.iq
   simp only
   rw[ai a0,ai a1,decide_eq_true i1,cond_true]
   rw[ai i0,ai i1,ai (r3 h3 _ (iQ (t:=.sl aa) i0 i1)),aW,ai (by simp at hv;unfold lim;simp;omega),aJ (n:=i+1) (by omega) (by omega)]) (fun i v i0 i1=>by
   unfold F.iq
   simp only
   rw[ai a0,ai a1,decide_eq_false (Int.not_lt.2 i1),cond_false])]
  rw[Aj]
  rfl
 by_cases h4:s.1=(4:Int)
 ·simp only[h4,decide_true,cond_true,Int.reduceEq,decide_false,cond_false]
  rw[jl (t:=.sl aa) (u:=.sl aa) (fun r=>M.joined s.2.2.2.2.1 r (nth (t:=.sl (.sl aa)) ahead s.2.2.1)) (nth (t:=.sl (.sl aa)) ahead s.2.1) ((nth (t:=.sl (.sl aa)) ahead s.2.2.1):List (List aa.D)).length (fun r _=>M.tM _ _ _) [] (fun i v i0 i1 hv=>by
   have hv9:v.length<=300 * 300:=Nat.le_trans (by simpa using hv) (Nat.mul_le_mul ha hb)
   have hrm:=iQ (t:=.sl aa) i0 i1
   unfold F.gW
   simp only
   rw[ai a0,ai a1,decide_eq_true i1,cond_true,jl (t:=.sl aa) (u:=.sl aa) (fun q=>cond (M.holds (nth (t:=.sl aa) (nth (t:=.sl (.sl aa)) ahead s.2.1) i++q:List aa.D) s.2.2.2.2.1) [(nth (t:=.sl aa) (nth (t:=.sl (.sl aa)) ahead s.2.1) i++q:List aa.D)] []) (nth (t:=.sl (.sl aa)) ahead s.2.2.1) 1 (fun q _=>by cases M.holds (nth (t:=.sl aa) (nth (t:=.sl (.sl aa)) ahead s.2.1) i++q:List aa.D) s.2.2.2.2.1<;>simp) v (fun j w j0 j1 hw=>by
    have hqm:=iQ (t:=.sl aa) j0 j1
    have l1:=fa.2 _ hrm
    have l2:=fb.2 _ hqm
    unfold F.hO
    simp only
    rw[ai b0,ai b1,decide_eq_true j1,cond_true,ai a0,ai a1,ai i0,ai i1,ai j0,ai j1,aW,ai (show Sm (.sl aa) (nth (t:=.sl aa) (nth (t:=.sl (.sl aa)) ahead s.2.1) i++(nth (t:=.sl aa) (nth (t:=.sl (.sl aa)) ahead s.2.2.1) j)) from⟨by rw[List.length_append];omega,fun x hx=>(List.mem_append.1 hx).elim ((sa.2 _ hrm).2 x) ((sb.2 _ hqm).2 x)⟩),ai (r4 h4 _ hrm _ hqm)]
    cases M.holds (nth (t:=.sl aa) (nth (t:=.sl (.sl aa)) ahead s.2.1) i++nth (t:=.sl aa) (nth (t:=.sl (.sl aa)) ahead s.2.2.1) j:List aa.D) s.2.2.2.2.1
    ·rw[cond_false,cond_false,List.append_nil,aJ (n:=j+1) (by omega) (by omega)]
    ·rw[cond_true,cond_true,ai (by simp at hw;unfold lim;simp;omega),aJ (n:=j+1) (by omega) (by omega)]) (fun j w j0 j1=>by
    unfold F.hO
    simp only
    rw[ai b0,ai b1,decide_eq_false (Int.not_lt.2 j1),cond_false]),rS]
   show some (Sum.inl (wrap64 (i+1),_))=_
   rw[aJ (n:=i+1) (by omega) (by omega)]) (fun i v i0 i1=>by
   unfold F.gW
   simp only
   rw[ai a0,ai a1,decide_eq_false (Int.not_lt.2 i1),cond_false])]
  rfl
 by_cases h5:s.1=(5:Int)
 ·simp only[h5,decide_true,cond_true,Int.reduceEq,decide_false,cond_false]
  rw[jl (t:=.sl aa) (u:=.sl aa) (fun x=>[x]) (nth (t:=.sl (.sl aa)) ahead s.2.1) 1 (fun x _=>by first | exact Nat.le_refl _ | (cases M.holds x s.2.2.2.2.1<;>simp)) [] (fun i v i0 i1 hv=>by
   unfold F.gi
   simp only
   rw[ai a0,ai a1,decide_eq_true i1,cond_true]
   rw[ai i0,ai i1,aW,ai (by simp at hv;unfold lim;simp;omega),aJ (n:=i+1) (by omega) (by omega)]) (fun i v i0 i1=>by
   unfold F.gi
   simp only
   rw[ai a0,ai a1,decide_eq_false (Int.not_lt.2 i1),cond_false])]
  rw[sv]
  show Option.bind (cu _ ((0:Int),[]++_)) _=_
  rw[List.nil_append]
  rw[jl (t:=.sl aa) (u:=.sl aa) (fun x=>[x]) (nth (t:=.sl (.sl aa)) ahead s.2.2.1) 1 (fun x _=>by first | exact Nat.le_refl _ | (cases M.holds x s.2.2.2.2.1<;>simp)) (nth (t:=.sl (.sl aa)) ahead s.2.1) (fun i v i0 i1 hv=>by
   unfold F.gq
   simp only
   rw[ai b0,ai b1,decide_eq_true i1,cond_true]
   rw[ai i0,ai i1,aW,ai (by simp at hv;unfold lim;simp;omega),aJ (n:=i+1) (by omega) (by omega)]) (fun i v i0 i1=>by
   unfold F.gq
   simp only
   rw[ai b0,ai b1,decide_eq_false (Int.not_lt.2 i1),cond_false])]
  rw[sv]
  rfl
 by_cases h6:s.1=(6:Int)
 ·simp only[h6,decide_true,cond_true,Int.reduceEq,decide_false,cond_false]
  rw[ai a0,ai a1,aW]
 simp only[h1,h2,h3,h4,h5,h6,decide_false,cond_false]
theorem F.yN (tables:LTb) (plan:LS) (h_tables:Sm (Ty.sl aq) tables) (h_plan:Sm (Ty.sl ah) plan) (p0:M.bK tables plan=true):F.pL tables plan=some (M.cn tables plan):=by
 unfold F.pL M.cn
 obtain⟨st,_,h1⟩:=AD h_tables h_plan p0
 rw[(BM (f:=F.gn tables plan) h_tables h_plan p0 (fun z v h1 h2 h3=>by
  unfold F.gn M.eU
  rw[ai h1,ai h2,aW,ai (by unfold lim;simp;omega)])).1]
 rfl
theorem F.wL (tables:LTb) (plan:LS) (h_tables:Sm (Ty.sl aq) tables) (h_plan:Sm (Ty.sl ah) plan):F.nZ tables plan=some (M.cO tables plan):=by
 unfold F.nZ M.cO
 cases hp:M.bK tables plan
 ·rfl
 have hl:=h_plan.1
 have hpos:=(M.ju hp).1
 have h2:(M.cn tables plan).length=plan.length:=DU tables plan
 simp only[Bool.not_true,cond_false,cond_true,aW]
 rw[h2,fc _ hl,ai (by omega),ai (by omega)]
theorem F.wW (tables:LTb) (guards:LG) (h_tables:Sm (Ty.sl aq) tables) (h_guards:Sm (Ty.sl aB) guards):F.nX tables guards=some (M.bB tables guards):=by
 unfold F.nX M.bB
 rw[hY (M.kH tables guards) () (fun i hi=>by
  obtain⟨i0,i1⟩:=fz.1 hi
  have hl:=h_guards.1
  have hw:wrap64 (i-(1:Int))=i-1:=aJ (by omega) (by omega)
  simp only[F.iz,hw,fc _ h_tables.1]
  unfold M.kH
  generalize M.inR (nth (t:=aB) guards i).1 0 ((tables.length:Int)-1)=c1
  generalize decide (M.bZ (nth (t:=aq) tables (nth (t:=aB) guards i).1).1 (nth (t:=aB) guards i).2.1=3)=c2
  generalize decide ((nth (t:=aB) guards i).1<=(nth (t:=aB) guards (i-1)).1)=c3
  by_cases h0:0<i
  ·have g1:0<=i-1:=by omega
   have g2:i-1<(guards.length:Int):=by omega
   rw[decide_eq_true h0]
   repeat rw[ai g1]
   repeat rw[ai g2]
   cases c1<;>cases c2<;>cases c3<;>rfl
  ·rw[decide_eq_false h0]
   cases c1<;>cases c2<;>cases c3<;>rfl)]
 cases M.bT tables<;>cases (aV 0 (guards.length:Int)).all (M.kH tables guards)<;>rfl
theorem F.AU (plan:LS) (h_plan:Sm (Ty.sl ah) plan):F.tJ plan=some plan:=by
 unfold F.tJ
 rw[oM (fun r=>r) (fun x hx s hs=>by
  have hl:=h_plan.1
  simp only[F.kD,List.nil_append]
  rw[ai (by unfold lim;simp;omega)]),M.vq]
 rfl
theorem F.wE (guards:LG) (table:Int) (h_guards:Sm (Ty.sl aB) guards):F.tj guards table=some (M.idx (t:=aB) (fun g=>decide (g.1=table)) guards):=by
 exact iF (t:=aB) (p:=fun g:aB.D=>decide (g.1=table)) (fun i h0 h1=>by
  unfold F.iD
  rw[cr])
theorem F.sK (tables:LTb) (guards:LG) (plan:LS) (h_tables:Sm (Ty.sl aq) tables) (h_guards:Sm (Ty.sl aB) guards) (h_plan:Sm (Ty.sl ah) plan):F.jW tables guards plan=some (M.bn tables guards plan):=by
 unfold F.jW M.bn
 cases hg:M.bB tables guards
 ·rfl
 cases hp:M.bK tables plan
 ·rfl
 have p0:=M.ju hp
 have hl:=h_plan.1
 have e1:(plan.length:Int).toNat=plan.length:=by simp
 simp only[Bool.not_true,cond_true,cond_false,aW,Bool.and_self,show ((false:Bool)==false)=true from rfl]
 rw[ai (by unfold kW;omega),e1]
 have hfold:=M.qO (f:=F.ew tables guards plan plan) (M.bR guards plan) (fun k v=>v.2.length=plan.length/\(v.1.length:Int)<=2 * k/\∀s∈v.1,Sm ah s) plan.length (s:=([],List.replicate plan.length (0:Int))) ⟨by simp,by simp,fun s h=>by cases h⟩ (fun k v k0 k1 hI=>by
   have hnext:(M.bR guards plan v k).2.length=plan.length/\((M.bR guards plan v k).1.length:Int)<=2 * (k+1)/\∀s∈(M.bR guards plan v k).1,Sm ah s:=by
    have:=M.DV (guards:=guards) (plan:=plan) (v:=v) (k:=k)
    refine⟨this.2.trans hI.1,?_,M.Cx h_guards h_plan hI.2.2⟩
    have h1:=this.1
    have h2:=hI.2.1
    omega
   refine⟨?_,hnext⟩
   clear hnext
   have hl:=h_plan.1
   obtain⟨hI1,hI2,hI3⟩:=hI
   have hin:=p0.2 k k0 k1
   have hs1:k<(v.2.length:Int):=by rw[hI1];exact k1
   have hv6:v.1.length<=4000000:=by omega
   have hlim:∀s:ah.D,(v.1.length+[s].length) * 80<=lim:=fun s=>by unfold lim;simp;omega
   have hlim2:∀s s':ah.D,((v.1++[s]).length+[s'].length) * 80<=lim:=fun s s'=>by unfold lim;simp;omega
   have hw1:∀s:ah.D,wrap64 (((v.1++[s]).length:Int)-1)=((v.1++[s]).length:Int)-1:=fun s=>aJ (by simp<;>omega) (by simp<;>omega)
   have hw2:∀s s':ah.D,wrap64 (((v.1++[s]++[s']).length:Int)-1)=((v.1++[s]++[s']).length:Int)-1:=fun s s'=>aJ (by simp<;>omega) (by simp<;>omega)
   have hidx:∀(n:Int),(∃g∈guards,M.guardOf guards n=(g.2.1,true)/\0<=M.idx (t:=aB) (fun g=>decide (g.1=n)) guards/\M.idx (t:=aB) (fun g=>decide (g.1=n)) guards<(guards.length:Int)/\nth (t:=aB) guards (M.idx (t:=aB) (fun g=>decide (g.1=n)) guards)=g)\/(M.guardOf guards n=([],false)/\M.idx (t:=aB) (fun g=>decide (g.1=n)) guards=-1):=fun n=>M.GD guards n
   unfold F.ew M.bR M.kR M.dS M.ren
   by_cases h1:(nth (t:=ah) plan k).1=(1:Int)
   ·have ht:M.two (nth (t:=ah) plan k).1=false:=by rw[h1];rfl
    rw[ht]
    simp only[h1,decide_true,Bool.not_true,Bool.true_and,cond_true,cond_false]
    rw[ai (hlim _)]
    have eP:((1:Int),(nth (t:=ah) plan k).2.1,(nth (t:=ah) plan k).2.2.1,(nth (t:=ah) plan k).2.2.2)=nth (t:=ah) plan k:=by rw[<-h1]
    rw[eP]
    rcases hidx (nth (t:=ah) plan k).2.2.2.1 with⟨g,_,q1,q2,q3,q4⟩ | ⟨q1,q2⟩
    ·rw[q1,decide_eq_true q2,q4]
     simp only[cond_true,List.nil_append]
     rw[ai q2,ai q3,ai (hlim2 _ _),ai hs1,aW,hw1,hw2]
    ·rw[q1,q2]
     simp only[cond_false,show decide ((0:Int)<=-1)=false from rfl]
     rw[ai hs1,aW,hw1]
   ·obtain⟨⟨a0,a1⟩,⟨b0,b1⟩⟩:=hin h1
    have a2:(nth (t:=ah) plan k).2.1<(v.2.length:Int):=by rw[hI1];exact Int.lt_trans a1 k1
    have b2:(nth (t:=ah) plan k).2.2.1<(v.2.length:Int):=by rw[hI1];exact Int.lt_trans b1 k1
    unfold M.two
    rw[decide_eq_false h1]
    simp only[Bool.not_false,Bool.false_and,cond_true,cond_false]
    rw[ai a0,ai a2]
    cases decide ((nth (t:=ah) plan k).1=(4:Int))<;>cases decide ((nth (t:=ah) plan k).1=(5:Int))<;>simp only[cond_true,cond_false,Bool.or_self,Bool.or_true,Bool.or_false,Bool.false_or,Bool.true_or,show ((false:Bool)==false)=true from rfl,show ((true:Bool)==false)=false from rfl]<;>(repeat rw[ai b0])<;>(repeat rw[ai b2])<;>rw[ai (hlim _),ai hs1,aW,hw1])
 rw[hfold.1,bp]
 have hsm:Sm (.sl ah) (M.grown guards plan).1\/True:=.inr trivial
 show af (Sm (.sl ah) (M.grown guards plan).1) _=_
 rw[ai ⟨by have:=hfold.2.2.1;show (M.grown guards plan).1.length<=1048576;have h6:=M.Dc hp;have e:(M.grown guards plan).1=((aV 0 (plan.length:Int)).foldl (M.bR guards plan) ([],List.replicate plan.length (0:Int))).1:=rfl;rw[e];omega,hfold.2.2.2⟩]
 show cond (!M.bK tables (M.grown guards plan).1) _ (some ((M.grown guards plan).1,true))=_
 rw[M.DC hg hp,Bool.not_not,cr]
theorem F.vT (tables:LTb) (guards:LG) (plan:LS) (h_tables:Sm (Ty.sl aq) tables) (h_guards:Sm (Ty.sl aB) guards) (h_plan:Sm (Ty.sl ah) plan):F.nY tables guards plan=some (M.cX tables guards plan):=by
 unfold F.nY M.cX
 have hq:Sm (.sl ah) (M.bn tables guards plan).1:=M.tU h_guards h_plan
 simp only[aW,M.iI,M.fh]
 cases h:(M.bn tables guards plan).2 with
 | false=>rfl
 | true=>
  simp only[Bool.not_true,cond_false,cond_true]
  rw[ai hq]
theorem F.tr (tables:LTb) (h_tables:Sm (Ty.sl aq) tables):F.lp tables=some tables:=by
 unfold F.lp
 rw[oM (fun r=>r) (fun x hx s hs=>by
  have hl:=h_tables.1
  simp only[F.fW,aW,M.iI]
  rw[ai (by unfold lim;simp;omega)]),M.vq,bp,M.fh]
theorem F.rK (r:LV) (g:aB.D) (h_r:Sm (Ty.sl aa) r) (h_g:Sm aB g) (p0:M.bX r.length g.2.1):F.mZ r g=some (M.holds r g.2.1):=by
 rfl
theorem F.CR (rows:LLV) (g:aB.D) (h_rows:Sm (Ty.sl (Ty.sl aa)) rows) (h_g:Sm aB g) (p0:∀r∈rows,M.bX r.length g.2.1):F.xu rows g=some (List.filter (fun r=>M.holds r g.2.1) rows):=by
 unfold F.xu
 rw[M.Dh (fun r=>M.holds r g.2.1) (fun x hx s hs=>by
  have hl:=h_rows.1
  simp only[F.lU]
  rw[ai (p0 x hx),ai (by unfold lim;simp;omega)]
  cases M.holds x g.2.1<;>rfl),bp,ai (M.BY _ h_rows)]
 simp only[aW,M.fh]
theorem F.tV (tables:LTb) (guards:LG) (h_tables:Sm (Ty.sl aq) tables) (h_guards:Sm (Ty.sl aB) guards):F.lz tables guards=some (M.aX tables guards):=by
 unfold F.lz M.aX
 cases hg:M.bB tables guards
 ·rfl
 simp only[Bool.not_true,cond_false,cond_true,aW]
 have hfold:=M.wG (f:=F.eT tables guards (tables.length:Int)) M.eI (M.dD tables) (xs:=guards) (M.dD.refl tables) (fun g hm s hI=>by
  obtain⟨⟨b0,b1⟩,hk,hok⟩:=M.nq hg hm
  obtain⟨q1,q2,q3⟩:=hI.2 _ b0 b1
  have hsT:=aH (hI.sm h_tables) g.1
  refine⟨?_,hI.step b0 b1⟩
  unfold F.eT
  rw[ai b0,ai b1,ai hsT.2.1,ai (fun r hr=>by
   have hlen:=M.CC hok b0 b1 (q3 _ hr)
   have hs:=wA (columns:=(nth (t:=aq) tables g.1).1) (e:=g.2.1) (by rw[hk];decide)
   rw[<-hlen] at hs
   exact hs)]
  simp only[aW,M.iI]
  rfl)
 rw[hfold.1,bp,List.take_of_length_le (by rw[hfold.2.1];simp)]
theorem F.tI (code:(List Int)) (h_code:Ln (Ty.sl (Ty.int .u8)) code) (p0:M.ay code):F.lF code=some true:=by
 unfold F.lF
 by_cases hc:(1048576:Int)<(code.length:Int)
 ·rw[decide_eq_true hc]
  rfl
 rw[decide_eq_false hc,cond_false]
 have hs:Sm (.sl (.int .u8)) code:=⟨by omega,fun _ _=>trivial⟩
 rw[ai hs,aW]
 obtain⟨d0,d1,d2,d3,d4,d5,d6,d7⟩:=M.nF code hs p0
 generalize M.cE code=r at *
 obtain⟨ts,gs,plan⟩:=r
 simp only at d0 d1 d2 d3 d4 d5 d6 d7 ⊢
 have st:Sm (.sl aq) ts:=M.FR d0 d2 (by decide)
 have sg:Sm (.sl aB) gs:=M.BU d3 d4 (by decide)
 have sp:Sm (.sl ah) plan:=M.sj d5 d7 (by decide)
 have hbb:∀a:Bool,Ty.beq Ty.bool a a=true:=fun a=>by cases a<;>rfl
 simp only[aW,M.iI]
 rw[ai st,ai sg,ai sp]
 have sR:∀A:List aq.D,Sm (.sl aq) A->Sm (.sl (.sl aa)) (M.cX A gs plan).1:=fun A hA=>by
  unfold M.cX
  cases (M.bn A gs plan).2 with
  | false=>exact fY _
  | true=>exact Es hA (M.tU sg sp)
 simp only[hbb,Bool.not_true,show ((false:Bool)==false)=true from rfl,cond_true,cond_false]
 rw[ai (sR ts st),ai (sR ts st),M.qY]
 cases h:(M.cX ts gs plan).2 with
 | false=>rfl
 | true=>
  have hg:(M.bn ts gs plan).2=true:=by
   cases hq:(M.bn ts gs plan).2 with
   | true=>rfl
   | false=>
    unfold M.cX at h
    rw[hq] at h
    cases h
  have ss:Sm (.sl aq) (M.aX ts gs):=M.II st
  simp only[Bool.not_true,cond_false]
  rw[ai ss,M.Ez hg,h]
  simp only[show ((true:Bool)==true)=true from rfl,cond_true]
  rw[ai (sR ts st),M.qY]
end Go.AE
