/- What the functions compute is what is said. -/
import Derived.Test.YtmkgiaecgkicoaaGreatAeF
import Derived.Test.YtmkgiaecgkicoaaGreatAeMN
import Derived.Test.YtmkgiaecgkicoaaGreatAeEqI
import Derived.Test.YtmkgiaecgkicoaaGreatAeEqI
import Derived.Test.YtmkgiaecgkicoaaGreatAeEqI
import Derived.Test.YtmkgiaecgkicoaaGreatAeTB
import Derived.Test.YtmkgiaecgkicoaaGreatAeTB
namespace Go.AE
open Go Go.RowKit
set_option linter.unusedVariables false
set_option linter.unusedSimpArgs false
theorem F.xu (n:Int) (low:Int) (high:Int)  : F.oQ n low high=some (M.inR n low high):=by
 unfold F.oQ M.inR
 cases decide (low<=n)<;>rfl
theorem F.xp (s:ByteArray) (h_s:Sm Ty.str s):F.pL s=some (M.lower (bL s)):=by
 unfold F.pL M.lower
 rw[fO (fun n=>M.inR n 97 122) () (fun x hx=>by
  obtain⟨h0,h1⟩:=FM hx
  simp only[F.iD,gT,bn,aQ (n:=x) (by omega) (by omega)])]
 cases (bL s).all fun n=>M.inR n 97 122<;>rfl
theorem F.vH (v:aa.D) (h_v:Sm aa v):F.nr v=some (M.aN v):=by
 unfold F.nr M.aN M.text
 simp only[fu]
 rw[show decide ((v.2.2.1.size:Int)<=6)=decide (v.2.2.1.size<=6) from decide_eq_decide.2 (by omega)]
 simp only[Ty.beq]
 cases h0:decide (v.1=(0:Int))
 ·generalize decide (v.1=(1:Int))=b1
  generalize decide (v.1=(2:Int))=b2
  generalize decide (v.1=(3:Int))=b3
  generalize decide (v.2.1=(0:Int))=c0
  generalize decide (v.2.2.1.size<=6)=c6
  generalize M.inR v.2.1 (-9999) 9999=c1
  generalize M.inR v.2.1 0 1=c3
  generalize decide (v.2.2.1=M.none_)=e0
  cases b1<;>cases b2<;>cases b3<;>cases c0<;>cases c6<;>cases c1<;>cases c3<;>cases e0<;>rfl
 ·simp only[cond_true,Bool.true_and,Bool.and_true]
theorem F.xh (v:aa.D) (h_v:Sm aa v):F.ua v=some (M.aN v):=by
 rfl
theorem F.Ah   : F.sC  = some true:=by
 unfold F.sC
 rw[show M.aN ((1:Int),((3:Int),((⟨#[]⟩:ByteArray),())))=true from rfl,show M.aN ((9:Int),((0:Int),((⟨#[]⟩:ByteArray),())))=false from rfl]
 rfl
theorem F.rT (c:ax.D)  : F.oa c=some (!M.dS c):=by
 rfl
theorem F.kG (xs:LC) (h_xs:Sm (Ty.sl ax) xs):F.gI xs=some (M.idx (t:=ax) (fun e=>!M.dS e) xs):=by
 exact cW (t:=ax) (p:=(fun e=>!M.dS e)) (fun i h0 h1=>by simp only[F.cL,bn])
theorem F.js (xs:LC) (h_xs:Sm (Ty.sl ax) xs):F.dM xs=some (List.any xs (fun e=>!M.dS e)):=by
 unfold F.dM
 exact cA (t:=ax)
theorem F.uB (columns:LC) (h_columns:Sm (Ty.sl ax) columns):F.mh columns=some (M.bC columns):=by
 unfold F.mh M.bC
 rw[fu,show decide ((columns.length:Int)<=4)=decide (columns.length<=4) from decide_eq_decide.2 (by omega)]
 rw[List.all_eq_not_any_not]
theorem F.qj (v:aa.D) (h_v:Sm aa v):F.me v=some (decide (v.1=0)):=by
 rfl
theorem F.wJ (v:aa.D) (h_v:Sm aa v):F.ux v=some (!M.aN v):=by
 rfl
theorem F.jB (xs:LV) (h_xs:Sm (Ty.sl aa) xs):F.fZ xs=some (M.idx (t:=aa) (fun e=>decide (e.1=0)) xs):=by
 exact cW (t:=aa) (p:=(fun e=>decide (e.1=0))) (fun i h0 h1=>by simp only[F.ct,bn])
theorem F.mM (xs:LV) (h_xs:Sm (Ty.sl aa) xs):F.jm xs=some (M.idx (t:=aa) (fun e=>!M.aN e) xs):=by
 exact cW (t:=aa) (p:=(fun e=>!M.aN e)) (fun i h0 h1=>by simp only[F.dm,bn])
theorem F.iN (xs:LV) (h_xs:Sm (Ty.sl aa) xs):F.dh xs=some (List.any xs (fun e=>decide (e.1=0))):=by
 unfold F.dh
 exact cA (t:=aa)
theorem F.lf (xs:LV) (h_xs:Sm (Ty.sl aa) xs):F.eM xs=some (List.any xs (fun e=>!M.aN e)):=by
 unfold F.eM
 exact cA (t:=aa)
theorem F.zZ (row:LV) (h_row:Sm (Ty.sl aa) row):F.tq row=some (M.ot row):=by
 unfold F.tq M.ot
 rw[fu,show decide ((row.length:Int)<=4)=decide (row.length<=4) from decide_eq_decide.2 (by omega)]
 rw[List.all_eq_not_any_not]
theorem F.wZ (columns:LC) (row:LV) (h_columns:Sm (Ty.sl ax) columns) (h_row:Sm (Ty.sl aa) row):F.oR columns row=some (M.bI columns row):=by
 unfold F.oR M.bI
 cases M.bC columns
 ·rfl
 cases M.ot row
 ·rfl
 by_cases hl:row.length=columns.length
 ·rw[fO (M.tv columns row) () (fun i hi=>by
   obtain⟨h0,h1⟩:=cj.1 hi
   have h2:i<(columns.length:Int):=by omega
   simp only[F.iE,aq h2]
   unfold M.tv
   cases decide ((nth (t:=aa) row i).1=(nth (t:=ax) columns i).1)<;>cases decide ((nth (t:=aa) row i).1=(0:Int))<;>cases (nth (t:=ax) columns i).2.1<;>rfl)]
  simp only[hl,Bool.not_true,decide_true,Bool.true_and,cond_true,cond_false]
  cases (aP 0 (columns.length:Int)).all (M.tv columns row)<;>rfl
 ·have h3:¬(row.length:Int)=(columns.length:Int):=by omega
  simp[hl,h3]
theorem F.uZ (r:LV) (columns:LC) (h_r:Sm (Ty.sl aa) r) (h_columns:Sm (Ty.sl ax) columns):F.rY r columns=some (!M.bI columns r):=by
 rfl
theorem F.wR (xs:LV) (ys:LV) (h_xs:Sm (Ty.sl aa) xs) (h_ys:Sm (Ty.sl aa) ys):F.tK xs ys=some (decide (xs=ys)):=by
 exact Cm (t:=aa) (fun i h0 h1 h2=>by simp only[F.iF,aq h2,gT,bn,ED (t:=aa) rfl])
theorem F.wU (r:LV) (row:LV) (h_r:Sm (Ty.sl aa) r) (h_row:Sm (Ty.sl aa) row):F.uI r row=some (decide (r=row)):=by
 rfl
theorem F.wI (xs:LV) (h_xs:Sm (Ty.sl aa) xs):F.uO xs=some xs:=by
 exact M.vM (t:=aa)
theorem F.zV (row:LV) (list:(List Int)) (h_row:Sm (Ty.sl aa) row) (h_list:Sm (Ty.sl (Ty.int .i64)) list) (p0:M.eV row list):F.sE row list=some (M.taken row list):=by
 unfold F.sE
 rw[ql (fun i=>nth (t:=aa) row i) (fun x hx s hs=>by
  have hl:=h_list.1
  obtain⟨h0,h1⟩:=p0 x hx
  simp only[F.jY]
  rw[aq h0,aq h1,aq (by unfold lim;simp;omega)])]
 show af (Sm (.sl aa) (M.taken row list)) (aL (M.taken row list) fun r:List aa.D=>some (aD r (some ((0:Int),(r.length:Int)))))=_
 rw[aq (M.gd h_row h_list)]
 simp only[cq,M.uc]
theorem F.ov (r:LV) (list:(List Int)) (key:LV) (h_r:Sm (Ty.sl aa) r) (h_list:Sm (Ty.sl (Ty.int .i64)) list) (h_key:Sm (Ty.sl aa) key) (p0:M.eV r list):F.kA r list key=some (decide (M.taken r list=key)):=by
 rfl
theorem F.mL (xs:LLV) (k0:LV) (h_xs:Sm (Ty.sl (Ty.sl aa)) xs) (h_k0:Sm (Ty.sl aa) k0):F.jf xs k0=some (M.idx (t:=(Ty.sl aa)) (fun e=>decide (e=k0)) xs):=by
 exact cW (t:=(Ty.sl aa)) (p:=(fun e=>decide (e=k0))) (fun i h0 h1=>by simp only[F.dn,bn])
theorem F.mF (xs:LLV) (k0:LC) (h_xs:Sm (Ty.sl (Ty.sl aa)) xs) (h_k0:Sm (Ty.sl ax) k0):F.iV xs k0=some (M.idx (t:=(Ty.sl aa)) (fun e=>!M.bI k0 e) xs):=by
 exact cW (t:=(Ty.sl aa)) (p:=(fun e=>!M.bI k0 e)) (fun i h0 h1=>by simp only[F.de,bn])
theorem F.ja (xs:LLV) (k0:(List Int)) (k1:LV) (h_xs:Sm (Ty.sl (Ty.sl aa)) xs) (h_k0:Sm (Ty.sl (Ty.int .i64)) k0) (h_k1:Sm (Ty.sl aa) k1) (p0:∀e∈xs,M.eV e k0):F.fC xs k0 k1=some (M.idx (t:=(Ty.sl aa)) (fun e=>decide (M.taken e k0=k1)) xs):=by
 exact cW (t:=(Ty.sl aa)) (p:=(fun e=>decide (M.taken e k0=k1))) (fun i h0 h1=>by simp only[F.bY,aq (p0 (nth (t:=(Ty.sl aa)) xs i) (cI (t:=(Ty.sl aa)) h0 h1)),bn])
theorem F.kJ (xs:LLV) (k0:LC) (h_xs:Sm (Ty.sl (Ty.sl aa)) xs) (h_k0:Sm (Ty.sl ax) k0):F.eA xs k0=some (List.any xs (fun e=>!M.bI k0 e)):=by
 unfold F.eA
 exact cA (t:=(Ty.sl aa))
theorem F.ij (xs:LLV) (k0:(List Int)) (k1:LV) (h_xs:Sm (Ty.sl (Ty.sl aa)) xs) (h_k0:Sm (Ty.sl (Ty.int .i64)) k0) (h_k1:Sm (Ty.sl aa) k1) (p0:∀e∈xs,M.eV e k0):F.cT xs k0 k1=some (List.any xs (fun e=>decide (M.taken e k0=k1))):=by
 unfold F.cT
 exact cA (t:=(Ty.sl aa))
theorem F.za (columns:LC) (rows:LLV) (h_columns:Sm (Ty.sl ax) columns) (h_rows:Sm (Ty.sl (Ty.sl aa)) rows):F.qF columns rows=some (M.gp columns rows):=by
 unfold F.qF M.gp
 rw[fu,List.all_eq_not_any_not]
theorem F.sW (t:ag.D) (h_t:Sm ag t):F.lq t=some (!M.dr t):=by
 unfold F.lq M.dr
 cases hc:M.bC t.1
 ·have:M.gp t.1 t.2.1=false:=by unfold M.gp;rw[hc];rfl
  rw[this]
  simp
 by_cases h:t.2.1.length<=6
 ·have h2:¬(6:Int)<(t.2.1.length:Int):=by omega
  simp[h2,h]
 ·have h2:(6:Int)<(t.2.1.length:Int):=by omega
  simp[h2,h]
theorem F.kP (xs:LTb) (h_xs:Sm (Ty.sl ag) xs):F.hY xs=some (M.idx (t:=ag) (fun e=>!M.dr e) xs):=by
 exact cW (t:=ag) (p:=(fun e=>!M.dr e)) (fun i h0 h1=>by simp only[F.cP,bn])
theorem F.jD (xs:LTb) (h_xs:Sm (Ty.sl ag) xs):F.dO xs=some (List.any xs (fun e=>!M.dr e)):=by
 unfold F.dO
 exact cA (t:=ag)
theorem F.vu (tables:LTb) (h_tables:Sm (Ty.sl ag) tables):F.nk tables=some (M.aH tables):=by
 unfold F.nk M.aH
 rw[fu,show decide ((tables.length:Int)<=3)=decide (tables.length<=3) from decide_eq_decide.2 (by omega)]
 rw[List.all_eq_not_any_not]
theorem F.zW (rows:LLV) (row:LV) (h_rows:Sm (Ty.sl (Ty.sl aa)) rows) (h_row:Sm (Ty.sl aa) row):F.zo rows row=some (M.rowAt rows row):=by
 rfl
theorem F.vc (tables:LTb) (c:aB.D) (h_tables:Sm (Ty.sl ag) tables) (h_c:Sm aB c):F.nh tables c=some (M.aU tables c):=by
 unfold F.nh M.aU
 have:=h_tables.1
 rw[aQ (n:=(tables.length:Int)-(1:Int)) (by omega) (by omega)]
 cases M.aH tables<;>cases M.inR c.1 0 ((tables.length:Int)-1)<;>cases M.bI (nth (t:=ag) tables c.1).1 c.2.1<;>cases c.2.2.1<;>cases decide (((nth (t:=ag) tables c.1).2.1.length:Int)<(6:Int))<;>rfl
theorem F.vG (rows:LLV) (h_rows:Sm (Ty.sl (Ty.sl aa)) rows):F.nO rows=some rows:=by
 unfold F.nO
 rw[ql (fun r=>r) (fun x hx s hs=>by
  have hl:=h_rows.1
  simp only[F.gY,cq,M.uc]
  rw[aq (by unfold lim;simp;omega)]),M.Ca,cD,M.yI]
theorem F.vf (xs:LC) (h_xs:Sm (Ty.sl ax) xs):F.rX xs=some xs:=by
 exact M.vM (t:=ax)
theorem F.sH (tables:LTb) (h_tables:Sm (Ty.sl ag) tables):F.kU tables=some tables:=by
 unfold F.kU
 rw[ql (fun r=>r) (fun x hx s hs=>by
  have hl:=h_tables.1
  simp only[F.fX,cq,M.uc]
  rw[aq (by unfold lim;simp;omega)]),M.Ca,cD,M.yI]
theorem F.rO (tables:LTb) (c:aB.D) (h_tables:Sm (Ty.sl ag) tables) (h_c:Sm aB c) (p0:M.aU tables c):F.jJ tables c=some (M.bE tables c):=by
 unfold F.jJ
 have hp:M.aU tables c=true:=p0
 unfold M.aU at hp
 obtain⟨_,hp⟩:=Bool.and_eq_true_iff.1 hp
 obtain⟨hi,hp⟩:=Bool.and_eq_true_iff.1 hp
 obtain⟨i0,i1⟩:=M.Hv.1 hi
 obtain⟨_,hp⟩:=Bool.and_eq_true_iff.1 hp
 have sr:Sm (.sl (.sl aa)) (nth (t:=ag) tables c.1).2.1:=(aJ h_tables c.1).2.1
 have sv:Sm (.sl aa) c.2.1:=h_c.2.1
 simp only[cq,M.uc]
 rw[aq i0,aq i1]
 unfold M.bE M.gX
 have i1':c.1<(tables.length:Int):=by omega
 have hl:=sr.1
 cases hc:c.2.2.1 with
 | true=>
  have s1:Sm (.sl (.sl aa)) ((nth (t:=ag) tables c.1).2.1++[c.2.1]):=by
   rw[hc,cond_true] at hp
   have:=of_decide_eq_true hp
   refine⟨by rw[List.length_append];simp only[List.length_cons,List.length_nil];omega,fun x hx=>(List.mem_append.1 hx).elim (sr.2 x) fun hx=>by rw[List.mem_singleton.1 hx];exact sv⟩
  simp only[cond_true]
  rw[aq (by simp only[List.length_cons,List.length_nil,lim];omega),M.IV i0 i1',M.Ja i0 i1',M.rz i0 i1',aq s1]
 | false=>
  rw[hc,cond_false] at hp
  have r0:=of_decide_eq_true hp
  have r1:M.rowAt (nth (t:=ag) tables c.1).2.1 c.2.1<((nth (t:=ag) tables c.1).2.1.length:Int):=by
   rcases Io (t:=.sl aa) (p:=fun e=>decide (e=c.2.1)) (xs:=(nth (t:=ag) tables c.1).2.1) with h | h
   ·exact h
   ·unfold M.rowAt at r0
    rw[h] at r0
    exact absurd (show (0:Int)<=-1 from r0) (by decide)
  generalize hr:M.rowAt (nth (t:=ag) tables c.1).2.1 c.2.1=k at *
  have hw:wrap64 (k+(1:Int))=k+1:=aQ (by omega) (by omega)
  have s1:Sm (.sl (.sl aa)) ((nth (t:=ag) tables c.1).2.1.take k.toNat++(nth (t:=ag) tables c.1).2.1.drop (k.toNat+1)):=by
   refine⟨by simp;omega,fun x hx=>(List.mem_append.1 hx).elim (fun h=>sr.2 x (List.mem_of_mem_take h)) fun h=>sr.2 x (List.mem_of_mem_drop h)⟩
  simp only[cond_false]
  rw[hw,show (k+1).toNat=k.toNat+1 by omega,aq sr,aq r0,aq (by omega),aq (by omega),M.IV i0 i1',M.Ja i0 i1',M.rz i0 i1',aq s1]
theorem F.rQ (tables:LTb) (c:aB.D) (h_tables:Sm (Ty.sl ag) tables) (h_c:Sm aB c):F.jK tables c=some (cond (M.aU tables c) (M.bE tables c) [],M.aU tables c):=by
 unfold F.jK
 cases h:M.aU tables c with
 | false=>rfl
 | true=>rw[aq rfl];rfl
theorem F.sO (p:aE.D) (h_p:Sm aE p):F.lA p=some (M.takes p):=by
 unfold F.lA M.takes
 generalize decide (p.1=(3:Int))=c3
 generalize decide (p.1=(4:Int))=c4
 generalize decide (p.1=(5:Int))=c5
 generalize decide (p.1=(6:Int))=c6
 generalize decide (p.1=(7:Int))=c7
 generalize decide (p.1=(8:Int))=c8
 cases c3<;>cases c4<;>cases c5<;>cases c6<;>cases c7<;>cases c8<;>rfl
theorem F.xg (truth:Int)  : F.oU truth=some (M.valueOf truth):=by
 unfold F.oU M.valueOf
 cases M.inR truth 0 1<;>rfl
theorem F.zL (vals:(List Int)) (h_vals:Sm (Ty.sl (Ty.int .i64)) vals):F.th vals=some (M.orI vals):=by
 unfold F.th
 suffices h:∀(A B:List Int),bF (aZ (F.iw A) B ()) (fun v0:Unit=>some (0:Int)) (fun q0:Int=>some q0)=some (M.orI B) from h vals vals
 intro A B
 induction B with
 | nil=>rfl
 | cons x l ih=>
  rw[dQ]
  simp only[F.iw,M.orI]
  by_cases hx:x=0
  ·simp only[hx,decide_true,Bool.not_true,cond_false,cond_true,cD]
   exact ih
  ·simp[hx]
theorem F.vD (x:Int)  : F.cmp_isNaN_int x=some false:=by
 unfold F.cmp_isNaN_int
 simp
theorem F.tn (x:Int) (y:Int)  : F.kM x y=some (M.tU x y):=by
 unfold F.kM M.tU
 simp only[cond_false,bn]
theorem F.rW (x:ByteArray) (h_x:Sm Ty.str x):F.cmp_isNaN_string x=some false:=by
 unfold F.cmp_isNaN_string
 simp
theorem F.qi (x:ByteArray) (y:ByteArray) (h_x:Sm Ty.str x) (h_y:Sm Ty.str y):F.iP x y=some (M.tw x y):=by
 unfold F.iP M.tw
 simp only[cond_false,bn]
theorem F.rV (v:aa.D) (w:aa.D) (h_v:Sm aa v) (h_w:Sm aa w):F.jP v w=some (M.order v w):=by
 unfold F.jP
 rw[aq ⟨by simp,fun _ _=>trivial⟩]
 rfl
theorem F.wV (b:Bool)  : F.oT b=some (M.bool b):=by
 unfold F.oT M.bool
 rw[bn]
theorem F.wF (kind:Int) (a:aa.D) (b:aa.D) (h_a:Sm aa a) (h_b:Sm aa b):F.oY kind a b=some (M.compare kind a b):=by
 unfold F.oY M.compare M.zv
 cases hk:M.inR kind 1 4
 ·rfl
 cases M.aN a
 ·rfl
 cases M.aN b
 ·rfl
 have h4:decide (kind=1)=false->decide (kind=2)=false->decide (kind=3)=false->decide (kind=4)=true:=by
  unfold M.inR at hk
  simp at hk ⊢
  omega
 cases decide (a.1=(0:Int))<;>cases decide (b.1=(0:Int))<;>cases decide (a.1=b.1)<;>cases h1:decide (kind=1)<;>cases h2:decide (kind=2)<;>cases h3:decide (kind=3)<;>(try rw[h4 h1 h2 h3])<;>cases decide (M.order a b=0)<;>cases decide (M.order a b<0)<;>rfl
theorem F.wH (n:Int)  : F.tF n=some (M.inR n 0 2):=by
 rfl
theorem F.AX (a:Int) (b:Int) (alone:Int) (p0:0<=alone/\alone<=1):F.vz a b alone=some (M.fold a b alone):=by
 unfold F.vz M.fold
 rw[aQ (n:=1-alone) (by omega) (by omega)]
 cases M.inR a 0 2
 ·rfl
 cases M.inR b 0 2
 ·rfl
 cases decide (a=alone)<;>cases decide (b=alone)<;>cases decide (a=2)<;>cases decide (b=2)<;>rfl
theorem F.zG (a:Int) (b:Int)  : F.sR a b=some (M.qw a b):=by
 unfold F.sR M.qw
 rw[aq (by decide)]
theorem F.wK (v:aa.D) (h_v:Sm aa v):F.pW v=some (M.bV v):=by
 unfold F.pW M.bV
 cases M.aN v<;>simp only[Bool.not_true,Bool.not_false,cond_true,cond_false,bn]
theorem F.Bb (a:Int) (b:Int)  : F.vT a b=some (M.xZ a b):=by
 unfold F.vT M.xZ
 rw[aq (by decide)]
theorem F.Ab (a:Int)  : F.tj a=some (M.ri a):=by
 unfold F.tj M.ri
 simp only[bn]
theorem F.tg (p:aE.D) (row:LV) (inp:LV) (h_p:Sm aE p) (h_row:Sm (Ty.sl aa) row) (h_inp:Sm (Ty.sl aa) inp) (p0:(inp.length:Int)=M.takes p) (p1:M.mZ p row.length) (p2:1<=p.1/\p.1<=8):F.ld p row inp=some (M.gO p row inp):=by
 unfold F.ld M.gO
 have hz:(((0:Int),(0:Int),(⟨#[]⟩:ByteArray),()):aa.D)=M.zeroV:=rfl
 by_cases e1:p.1=(1:Int)
 ·simp only[e1,decide_true,cond_true]
 by_cases e2:p.1=(2:Int)
 ·obtain⟨c0,c1⟩:=p1 e2
  simp only[e2,decide_true,cond_true,Int.reduceEq,decide_false,cond_false]
  rw[aq c0,aq c1]
 by_cases e3:p.1=(3:Int)
 ·rw[fN (.inl e3)] at p0
  simp only[e3,decide_true,cond_true,Int.reduceEq,decide_false,cond_false]
  repeat rw[aq (by omega)]
  generalize nth (t:=aa) inp 0=a
  generalize nth (t:=aa) inp 1=b
  unfold M.sum
  have hv:M.aN ((1:Int),wrap64 (a.2.1+b.2.1),(⟨#[]⟩:ByteArray),())=M.inR (wrap64 (a.2.1+b.2.1)) (-9999) 9999:=by unfold M.aN;simp
  rw[hv]
  cases decide (a.1=(0:Int))<;>cases decide (b.1=(0:Int))<;>cases M.inR (wrap64 (a.2.1+b.2.1)) (-9999) 9999<;>rfl
 by_cases e4:p.1=(4:Int)
 ·rw[fN (.inr (.inl e4))] at p0
  simp only[e4,decide_true,cond_true,Int.reduceEq,decide_false,cond_false,cq]
  repeat rw[aq (by omega)]
 by_cases e5:p.1=(5:Int)
 ·rw[fN (.inr (.inr (.inl e5)))] at p0
  simp only[e5,decide_true,cond_true,Int.reduceEq,decide_false,cond_false,cq]
  repeat rw[aq (by omega)]
 by_cases e6:p.1=(6:Int)
 ·rw[fN (.inr (.inr (.inr e6)))] at p0
  simp only[e6,decide_true,cond_true,Int.reduceEq,decide_false,cond_false,cq]
  repeat rw[aq (by omega)]
 by_cases e7:p.1=(7:Int)
 ·rw[lS (.inl e7)] at p0
  simp only[e7,decide_true,cond_true,Int.reduceEq,decide_false,cond_false,cq]
  repeat rw[aq (by omega)]
 ·simp only[e1,e2,e3,e4,e5,e6,e7,decide_false,cond_false,cq]
  have e8:p.1=(8:Int):=by
   rcases DK p2 with h | h | h | h | h | h | h | h<;>first | exact h | exact absurd h (by assumption)
  rw[lS (.inr e8)] at p0
  rw[aq (by omega)]
theorem F.tL (row:LV) (e:LPt) (h_row:Sm (Ty.sl aa) row) (h_e:Sm (Ty.sl aE) e) (p0:M.jw row.length e):F.mq row e=some (M.dY row e):=by
 unfold F.mq M.dY
 obtain⟨h1,h2⟩:=yG (f:=F.dN row e) h_row (fun p st hp hs hl h1 hk hc=>Aj p st hp hs hl h1 hk hc) e [] h_e.2 (jQ aa) (by simp;have:=p0.1;omega) p0.2
 rw[h1,cD,aq (by omega)]
theorem F.qh (list:(List Int)) (key:LV) (h_list:Sm (Ty.sl (Ty.int .i64)) list) (h_key:Sm (Ty.sl aa) key):F.mD list key=some (list,key):=by
 rfl
theorem F.rS (b:ah.D) (tables:LTb) (n:Int) (h_b:Sm ah b) (h_tables:Sm (Ty.sl ag) tables) (p0:(M.aH tables&&M.aO tables b)=true) (p1:0<=n/\n<((M.cJ tables b).length:Int)):F.jH b tables n=some (M.breaks tables b n):=by
 obtain⟨ht,hb⟩:=Bool.and_eq_true_iff.1 p0
 obtain⟨⟨b0,b1⟩,hk⟩:=jR hb
 obtain⟨n0,n1⟩:=p1
 have htm:=cI (t:=ag) b0 b1
 have hrm:=cI (t:=.sl aa) n0 n1
 have hrow:=xy ht htm hrm
 unfold M.cJ at n1 hrm hrow
 unfold F.jH M.breaks
 unfold M.cJ
 rcases hk with⟨e1,hl⟩ | ⟨e3,he⟩ | ⟨e2,hl,ho,hl2⟩
 ·have hir:=qL ht htm hrm hl
  simp only[e1,decide_true,decide_false,cond_true,cond_false,Int.reduceEq,cq,Cy]
  repeat rw[aq (by first | exact b0 | exact b1 | exact n0 | exact n1 | exact hir | exact Int.le_of_lt n1)]
  rw[aq (fun r hr=>qL ht htm (List.mem_of_mem_take hr) hl),bn]
  rfl
 ·have hs:=Ap (columns:=(nth (t:=ag) tables b.2.1).1) (e:=b.2.2.2.2.2.2.1) (by rw[he];decide)
  rw[<-hrow] at hs
  simp only[e3,decide_true,decide_false,cond_true,cond_false,Int.reduceEq,cq]
  repeat rw[aq (by first | exact b0 | exact b1 | exact n0 | exact n1 | exact hs)]
 ·have hir:=qL ht htm hrm hl
  have hom:=cI (t:=ag) ho.1 ho.2
  simp only[e2,decide_true,decide_false,cond_true,cond_false,Int.reduceEq,cq]
  repeat rw[aq (by first | exact b0 | exact b1 | exact n0 | exact n1 | exact hir | exact ho.1 | exact ho.2)]
  rw[aq (fun r hr=>qL ht hom hr hl2),bn]
  rfl
theorem F.rP (b:ah.D) (tables:LTb) (h_b:Sm ah b) (h_tables:Sm (Ty.sl ag) tables) (p0:(M.aH tables&&M.aO tables b)=true):F.jV b tables=some (M.broken tables b):=by
 obtain⟨ht,hb⟩:=Bool.and_eq_true_iff.1 p0
 obtain⟨⟨b0,b1⟩,_⟩:=jR hb
 unfold F.jV M.broken
 rw[aq b0,aq b1]
 rw[Ar (M.breaks tables b) (fun i hi=>by
  simp only[F.fo]
  rw[aq p0,aq (p:=0<=i/\i<((M.cJ tables b).length:Int)) (cj.1 hi),bn])]
 unfold M.cJ
 cases (aP 0 ((nth (t:=ag) tables b.2.1).2.1.length:Int)).find? (M.breaks tables b)<;>rfl
theorem F.zg (b:ah.D) (tables:LTb) (h_b:Sm ah b) (h_tables:Sm (Ty.sl ag) tables) (p0:(M.aH tables&&M.aO tables b)=true):F.wC b tables=some (decide (0<=M.broken tables b)):=by
 rfl
theorem F.tc (p:aE.D) (columns:LC) (h_p:Sm aE p) (h_columns:Sm (Ty.sl ax) columns):F.kT p columns=some (M.lE p columns):=by
 unfold F.kT M.lE M.noV
 rw[lY _ h_columns.1]
 simp only[fu,show Ty.beq aa p.2.2.1 ((0:Int),(0:Int),(⟨#[]⟩:ByteArray),())=Ty.beq aa p.2.2.1 M.zeroV from rfl]
 generalize Ty.beq aa p.2.2.1 M.zeroV=nv
 by_cases e1:p.1=(1:Int)
 ·simp only[e1,decide_true,cond_true]
 by_cases e2:p.1=(2:Int)
 ·simp only[e2,decide_true,cond_true,Int.reduceEq,decide_false,cond_false]
 by_cases e4:p.1=(4:Int)
 ·simp only[e4,decide_true,cond_true,Int.reduceEq,decide_false,cond_false]
 by_cases e3:p.1=(3:Int)
 ·simp only[e3,decide_true,cond_true,Int.reduceEq,decide_false,cond_false]
  rfl
 by_cases e5:p.1=(5:Int)
 ·simp only[e5,decide_true,cond_true,Int.reduceEq,decide_false,cond_false]
  rfl
 by_cases e6:p.1=(6:Int)
 ·simp only[e6,decide_true,cond_true,Int.reduceEq,decide_false,cond_false]
  rfl
 by_cases e7:p.1=(7:Int)
 ·simp only[e7,decide_true,cond_true,Int.reduceEq,decide_false,cond_false]
  rfl
 by_cases e8:p.1=(8:Int)
 ·simp only[e8,decide_true,cond_true,Int.reduceEq,decide_false,cond_false]
  rfl
 simp only[e1,e2,e3,e4,e5,e6,e7,e8,decide_false,cond_false,Em e3 e4 e5 e6 e7 e8]
theorem F.qg (k:Int) (kind:Int)  : F.mA k kind=some (!decide (k=kind)):=by
 rfl
theorem F.uS (n:Int) (t:ag.D) (h_t:Sm ag t):F.nL n t=some (!M.inR n 0 (t.1.length-1)):=by
 unfold F.nL
 rw[lY _ h_t.1.1]
theorem F.mc (xs:(List Int)) (k0:ag.D) (h_xs:Sm (Ty.sl (Ty.int .i64)) xs) (h_k0:Sm ag k0):F.iQ xs k0=some (M.idx (t:=(Ty.int .i64)) (fun e=>!M.inR e 0 (k0.1.length-1)) xs):=by
 exact cW (t:=(Ty.int .i64)) (p:=(fun e=>!M.inR e 0 (k0.1.length-1))) (fun i h0 h1=>by simp only[F.cX,bn])
theorem F.jC (xs:(List Int)) (k0:Int) (h_xs:Sm (Ty.sl (Ty.int .i64)) xs):F.ga xs k0=some (M.idx (t:=(Ty.int .i64)) (fun e=>!decide (e=k0)) xs):=by
 exact cW (t:=(Ty.int .i64)) (p:=(fun e=>!decide (e=k0))) (fun i h0 h1=>by simp only[F.cu,bn])
theorem F.kB (xs:(List Int)) (k0:ag.D) (h_xs:Sm (Ty.sl (Ty.int .i64)) xs) (h_k0:Sm ag k0):F.eH xs k0=some (List.any xs (fun e=>!M.inR e 0 (k0.1.length-1))):=by
 unfold F.eH
 exact cA (t:=(Ty.int .i64))
theorem F.iM (xs:(List Int)) (k0:Int) (h_xs:Sm (Ty.sl (Ty.int .i64)) xs):F.dj xs k0=some (List.any xs (fun e=>!decide (e=k0))):=by
 unfold F.dj
 exact cA (t:=(Ty.int .i64))
theorem F.rU (kind:Int) (ins:(List Int)) (h_ins:Sm (Ty.sl (Ty.int .i64)) ins):F.jU kind ins=some (List.all ins (fun k=>decide (k=kind))):=by
 unfold F.jU
 rw[List.all_eq_not_any_not]
theorem F.uH (p:aE.D) (columns:LC) (inp:(List Int)) (h_p:Sm aE p) (h_columns:Sm (Ty.sl ax) columns) (h_inp:Sm (Ty.sl (Ty.int .i64)) inp) (p0:M.lE p columns=true) (p1:(inp.length:Int)=M.takes p):F.mm p columns inp=some (M.cN p columns inp):=by
 unfold F.mm M.cN
 obtain⟨_,hc⟩:=yj p0
 by_cases e1:p.1=(1:Int)
 ·simp only[e1,decide_true,cond_true]
 by_cases e2:p.1=(2:Int)
 ·obtain⟨c0,c1⟩:=hc e2
  simp only[e2,decide_true,cond_true,Int.reduceEq,decide_false,cond_false]
  rw[aq c0,aq c1]
 by_cases e4:p.1=(4:Int)
 ·rw[fN (.inr (.inl e4))] at p1
  simp only[e4,decide_true,cond_true,Int.reduceEq,decide_false,cond_false]
  repeat rw[aq (by omega)]
 cases decide (p.1=(3:Int))<;>cases decide (p.1=(8:Int))<;>simp[e1,e2,e4]
theorem F.vi (columns:LC) (e:LPt) (h_columns:Sm (Ty.sl ax) columns) (h_e:Sm (Ty.sl aE) e):F.nE columns e=some (M.dw columns e):=by
 unfold F.nE M.dw
 cases M.bC columns
 ·rfl
 by_cases hl:e.length<=12
 ·rw[decide_eq_false (show ¬(12:Int)<(e.length:Int) by omega),decide_eq_true hl]
  rw[sq e [] (by simp;omega)]
  cases M.jc columns e [] with
  | none=>rfl
  | some s=>
   match s with
   | []=>rfl
   | [a]=>exact aq (by simp)
   | a::b::l=>
    have:¬((a::b::l).length:Int)=1:=by simp;omega
    simp only[this,decide_false]
    rfl
 ·rw[decide_eq_true (show (12:Int)<(e.length:Int) by omega),decide_eq_false hl]
  rfl
theorem F.zb (t:ag.D) (list:(List Int)) (h_t:Sm ag t) (h_list:Sm (Ty.sl (Ty.int .i64)) list):F.qU t list=some (M.bX t.1 list):=by
 unfold F.qU M.bX
 rw[fu,List.all_eq_not_any_not]
theorem F.yE (tables:LTb) (b:ah.D) (h_tables:Sm (Ty.sl ag) tables) (h_b:Sm ah b):F.qm tables b=some (M.aO tables b):=by
 unfold F.qm M.aO
 rw[lY _ h_tables.1]
 cases hin:M.inR b.2.1 0 ((tables.length:Int)-1)
 ·rfl
 simp only[fu]
 simp only[CH,yF,Gg,Et]
 by_cases e1:b.1=(1:Int)
 ·simp only[e1,decide_true,cond_true,Bool.not_true,Bool.true_and,show ((false:Bool)==false)=true from rfl,cond_false]
  cases decide (b.2.2.2.1=(0:Int))<;>cases decide (b.2.2.2.2.1.length=0)<;>cases M.bX (nth (t:=ag) tables b.2.1).1 b.2.2.1<;>cases b.2.2.2.2.2.1<;>cases decide (b.2.2.2.2.2.2.1.length=0)<;>rfl
 by_cases e3:b.1=(3:Int)
 ·simp only[e3,decide_true,decide_false,cond_true,cond_false,Int.reduceEq,Bool.not_true,Bool.true_and,show ((false:Bool)==false)=true from rfl]
  cases decide (b.2.2.2.1=(0:Int))<;>cases decide (b.2.2.2.2.1.length=0)<;>cases decide (M.dw (nth (t:=ag) tables b.2.1).1 b.2.2.2.2.2.2.1=3)<;>cases b.2.2.2.2.2.1<;>cases decide (b.2.2.1.length=0)<;>rfl
 by_cases e2:b.1=(2:Int)
 ·have hc:∀(x y:Bool) (z:Option Bool),cond (x==true) (cond (y==true) z z) z=z:=fun x y z=>by cases x<;>cases y<;>rfl
  simp only[e2,decide_true,decide_false,cond_true,cond_false,Int.reduceEq,Bool.not_true,Bool.true_and,show ((false:Bool)==false)=true from rfl]
  rw[hc]
  cases hof:M.inR b.2.2.2.1 0 ((tables.length:Int)-1)
  ·rfl
  cases hl1:M.bX (nth (t:=ag) tables b.2.1).1 b.2.2.1
  ·simp
  cases hl2:M.bX (nth (t:=ag) tables b.2.2.2.1).1 b.2.2.2.2.1
  ·simp
  by_cases hle:b.2.2.1.length=b.2.2.2.2.1.length
  ·cases he:decide (b.2.2.2.2.2.2.1.length=0)
   ·simp[hle]
   simp only[hle,decide_true,Bool.not_true,Bool.not_false,Bool.true_and,cond_true,cond_false]
   rw[<-hle]
   rw[fO (fun i=>decide ((nth (t:=ax) (nth (t:=ag) tables b.2.1).1 (nth (t:=.int .i64) b.2.2.1 i)).1=(nth (t:=ax) (nth (t:=ag) tables b.2.2.2.1).1 (nth (t:=.int .i64) b.2.2.2.2.1 i)).1)) () (fun i hi=>by
    obtain⟨i0,i1⟩:=cj.1 hi
    have a1:=oB hl1 (xD (t:=.int .i64) hi)
    have i2:i<(b.2.2.2.2.1.length:Int):=by omega
    have a2:=oB hl2 (cI (t:=.int .i64) i0 i2)
    have a3:=vb hof
    simp only[F.fE]
    rw[aq a1.1,aq a1.2,aq a3.1,aq (Int.lt_of_le_sub_one a3.2),aq i2,aq a2.1,aq a2.2]
    rw[gT,bn])]
   simp only[Bool.not_true,Bool.true_and,show ((false:Bool)==false)=true from rfl,cond_true,cond_false]
   cases (aP 0 (b.2.2.1.length:Int)).all fun i=>decide ((nth (t:=ax) (nth (t:=ag) tables b.2.1).1 (nth (t:=.int .i64) b.2.2.1 i)).1=(nth (t:=ax) (nth (t:=ag) tables b.2.2.2.1).1 (nth (t:=.int .i64) b.2.2.2.2.1 i)).1)<;>rfl
  ·simp[hle,Ne.symm hle]
 ·have hc:∀(x y:Bool) (z:Option Bool),cond (x==true) (cond (y==true) z z) z=z:=fun x y z=>by cases x<;>cases y<;>rfl
  simp only[e1,e2,e3,decide_false,cond_false]
  rw[hc]
  rfl
theorem F.uD (b:ah.D) (tables:LTb) (h_b:Sm ah b) (h_tables:Sm (Ty.sl ag) tables):F.qZ b tables=some (!M.aO tables b):=by
 rfl
theorem F.nj (xs:(List ah.D)) (k0:LTb) (h_xs:Sm (Ty.sl ah) xs) (h_k0:Sm (Ty.sl ag) k0) (p0:∀e∈xs,(M.aH k0&&M.aO k0 e)=true):F.jE xs k0=some (M.idx (t:=ah) (fun e=>decide (0<=M.broken k0 e)) xs):=by
 exact cW (t:=ah) (p:=(fun e=>decide (0<=M.broken k0 e))) (fun i h0 h1=>by simp only[F.dH,aq (p0 (nth (t:=ah) xs i) (cI (t:=ah) h0 h1)),bn])
theorem F.lM (xs:(List ah.D)) (k0:LTb) (h_xs:Sm (Ty.sl ah) xs) (h_k0:Sm (Ty.sl ag) k0):F.iB xs k0=some (M.idx (t:=ah) (fun e=>!M.aO k0 e) xs):=by
 exact cW (t:=ah) (p:=(fun e=>!M.aO k0 e)) (fun i h0 h1=>by simp only[F.cS,bn])
theorem F.lH (xs:(List ah.D)) (k0:LTb) (h_xs:Sm (Ty.sl ah) xs) (h_k0:Sm (Ty.sl ag) k0) (p0:∀e∈xs,(M.aH k0&&M.aO k0 e)=true):F.fe xs k0=some (List.any xs (fun e=>decide (0<=M.broken k0 e))):=by
 unfold F.fe
 exact cA (t:=ah)
theorem F.jT (xs:(List ah.D)) (k0:LTb) (h_xs:Sm (Ty.sl ah) xs) (h_k0:Sm (Ty.sl ag) k0):F.dX xs k0=some (List.any xs (fun e=>!M.aO k0 e)):=by
 unfold F.dX
 exact cA (t:=ah)
theorem F.BE (tables:LTb) (bonds:(List ah.D)) (h_tables:Sm (Ty.sl ag) tables) (h_bonds:Sm (Ty.sl ah) bonds) (p0:∀e∈bonds,(M.aH tables&&M.aO tables e)=true):F.At tables bonds=some (!List.any bonds (fun e=>decide (0<=M.broken tables e))):=by
 rfl
theorem F.wX (tables:LTb) (bonds:(List ah.D)) (h_tables:Sm (Ty.sl ag) tables) (h_bonds:Sm (Ty.sl ah) bonds):F.pe tables bonds=some (M.aH tables&&List.all bonds (M.aO tables)):=by
 unfold F.pe
 rw[fu,List.all_eq_not_any_not]
theorem F.tS (tables:LTb) (bonds:(List ah.D)) (h_tables:Sm (Ty.sl ag) tables) (h_bonds:Sm (Ty.sl ah) bonds):F.mw tables bonds=some (M.bQ tables bonds):=by
 unfold F.mw
 exact AO tables bonds
theorem F.By (n:Int) (low:Int) (high:Int)  : F.vO n low high=some (M.inR n low high):=by
 unfold F.vO M.inR
 cases decide (low<=n)<;>rfl
theorem F.tO (columns:LC) (h_columns:Sm (Ty.sl ax) columns):F.mI columns=some (M.bC columns):=by
 unfold F.mI M.bC
 rw[fO M.dS () (fun x _=>by simp only[F.gw,gT,bn]<;>rfl),show decide ((columns.length:Int)<=4)=decide (columns.length<=4) from decide_eq_decide.2 (by omega)]
 cases columns.all M.dS<;>simp
theorem F.yo (s:ByteArray) (h_s:Sm Ty.str s):F.qn s=some (M.text s):=by
 unfold F.qn M.text M.lower
 have key:∀c:Int,(cond ((decide (c<97))==false) (cond (decide (122<c)) (some (Sum.inr ())) (some (Sum.inl ()))) (some (Sum.inr ())):Option (Sum Unit Unit))=some (cond (M.inR c 97 122) (.inl ()) (.inr ())):=by
  intro c
  unfold M.inR
  by_cases h2:c<97
  ·simp[h2,show ¬ 97<=c by omega]
  ·by_cases h3:122<c
   ·simp[h2,h3,show 97<=c by omega,show ¬c<=122 by omega]
   ·simp[h2,h3,show 97<=c by omega,show c<=122 by omega]
 rw[fO (fun i=>M.inR (nth (t:=.int .u8) (bL s) i) 97 122) () (fun i hi=>by
  obtain⟨h0,h1⟩:=cj.1 hi
  simp only[F.jg,BA h0 h1]
  exact key _)]
 rw[<-kW,EV (t:=.int .u8) (bL s) (fun n=>M.inR n 97 122),show decide (((bL s).length:Int)<=6)=decide ((bL s).length<=6) from decide_eq_decide.2 (by omega)]
 cases (bL s).all fun n=>M.inR n 97 122<;>simp
theorem F.xw (v:aa.D) (h_v:Sm aa v):F.oK v=some (M.aN v):=by
 unfold F.oK M.aN
 simp only[fu]
 simp only[bn]
theorem F.zC (row:LV) (h_row:Sm (Ty.sl aa) row):F.sB row=some (M.ot row):=by
 unfold F.sB M.ot
 rw[fO M.aN () (fun x _=>by simp only[F.kg,gT,bn]<;>rfl),show decide ((row.length:Int)<=4)=decide (row.length<=4) from decide_eq_decide.2 (by omega)]
 cases row.all M.aN<;>simp
theorem F.xj (columns:LC) (row:LV) (h_columns:Sm (Ty.sl ax) columns) (h_row:Sm (Ty.sl aa) row):F.oX columns row=some (M.bI columns row):=by
 unfold F.oX M.bI
 cases M.bC columns
 ·rfl
 cases M.ot row
 ·rfl
 by_cases hl:row.length=columns.length
 ·rw[fO (M.tv columns row) () (fun i hi=>by
   obtain⟨h0,h1⟩:=cj.1 hi
   have h2:i<(columns.length:Int):=by omega
   simp only[F.iH,aq h2]
   unfold M.tv
   cases decide ((nth (t:=aa) row i).1=(nth (t:=ax) columns i).1)<;>cases decide ((nth (t:=aa) row i).1=(0:Int))<;>cases (nth (t:=ax) columns i).2.1<;>rfl)]
  simp only[hl,Bool.not_true,decide_true,Bool.true_and,cond_true,cond_false]
  cases (aP 0 (columns.length:Int)).all (M.tv columns row)<;>rfl
 ·have h3:¬(row.length:Int)=(columns.length:Int):=by omega
  simp[hl,h3]
theorem F.yz (columns:LC) (rows:LLV) (h_columns:Sm (Ty.sl ax) columns) (h_rows:Sm (Ty.sl (Ty.sl aa)) rows):F.qB columns rows=some (M.gp columns rows):=by
 unfold F.qB M.gp
 rw[fO (M.bI columns) () (fun x _=>by simp only[F.jz,gT,bn])]
 cases rows.all (M.bI columns)<;>simp
theorem F.uV (tables:LTb) (h_tables:Sm (Ty.sl ag) tables):F.nH tables=some (M.aH tables):=by
 unfold F.nH M.aH
 rw[fO M.dr () (fun x _=>by
  simp only[F.gZ]
  unfold M.dr
  by_cases h:x.2.1.length<=6
  ·have h2:¬(6:Int)<(x.2.1.length:Int):=by omega
   simp only[h2,h,decide_true,decide_false,Bool.true_and]
   cases M.gp x.1 x.2.1<;>rfl
  ·have h2:(6:Int)<(x.2.1.length:Int):=by omega
   simp[h2,h]),show decide ((tables.length:Int)<=3)=decide (tables.length<=3) from decide_eq_decide.2 (by omega)]
 cases tables.all M.dr<;>simp
theorem F.tu (columns:LC) (list:(List Int)) (h_columns:Sm (Ty.sl ax) columns) (h_list:Sm (Ty.sl (Ty.int .i64)) list):F.kS columns list=some (M.bX columns list):=by
 unfold F.kS M.bX
 rw[fO (fun n=>M.inR n 0 ((columns.length:Int)-1)) () (fun x _=>by simp only[F.fT,gT,bn,lY _ h_columns.1])]
 cases list.all fun n=>M.inR n 0 ((columns.length:Int)-1)<;>simp
theorem F.xY (columns:LC) (kinds:(List Int)) (p:aE.D) (h_columns:Sm (Ty.sl ax) columns) (h_kinds:Sm (Ty.sl (Ty.int .i64)) kinds) (h_p:Sm aE p) (p0:kinds.length<=1000):F.kD columns kinds p=some (M.vt columns kinds p):=by
 obtain⟨o,s,e,_⟩:=tE (columns:=columns) p p0 h_columns.1
 unfold M.vt
 rw[e]
 rfl
theorem F.vF (columns:LC) (e:LPt) (h_columns:Sm (Ty.sl ax) columns) (h_e:Sm (Ty.sl aE) e):F.nN columns e=some (M.dw columns e):=by
 unfold F.nN M.dw
 cases M.bC columns
 ·rfl
 by_cases hl:e.length<=12
 ·rw[decide_eq_false (show ¬(12:Int)<(e.length:Int) by omega),decide_eq_true hl]
  obtain⟨o,s,h1,h2⟩:=zU (columns:=columns) (E:=e) (by omega) h_columns.1 e.length 0 [] (by omega) (by omega) (by simp;omega)
  rw[show (0:Int)=((0:Nat):Int) from rfl,h1]
  rw[List.drop_zero] at h2
  unfold nJ at h2
  cases hk:M.jc columns e [] with
  | none=>
   rw[hk] at h2
   simp only at h2
   subst h2
   rfl
  | some s'=>
   rw[hk] at h2
   obtain⟨rfl,rfl⟩:=h2
   match s with
   | []=>rfl
   | [a]=>exact aq (by simp)
   | a::b::l=>
    have:¬((a::b::l).length:Int)=1:=by simp;omega
    simp only[Option.bind_some,this,decide_false]
    rfl
 ·rw[decide_eq_true (show (12:Int)<(e.length:Int) by omega),decide_eq_false hl]
  rfl
theorem F.zd (tables:LTb) (b:ah.D) (h_tables:Sm (Ty.sl ag) tables) (h_b:Sm ah b):F.qS tables b=some (M.aH tables&&M.aO tables b):=by
 unfold F.qS M.aO
 rw[lY _ h_tables.1]
 cases M.aH tables
 ·rfl
 cases hin:M.inR b.2.1 0 ((tables.length:Int)-1)
 ·rfl
 simp only[fu]
 simp only[CH,yF,Gg,Et]
 by_cases e1:b.1=(1:Int)
 ·simp only[e1,decide_true,cond_true,Bool.not_true,Bool.true_and,show ((false:Bool)==false)=true from rfl,cond_false]
 by_cases e3:b.1=(3:Int)
 ·simp only[e3,decide_true,decide_false,cond_true,cond_false,Int.reduceEq,Bool.not_true,Bool.true_and,show ((false:Bool)==false)=true from rfl]
 by_cases e2:b.1=(2:Int)
 ·simp only[e2,decide_true,decide_false,cond_true,cond_false,Int.reduceEq,Bool.not_true,Bool.true_and,show ((false:Bool)==false)=true from rfl]
  cases hof:M.inR b.2.2.2.1 0 ((tables.length:Int)-1)
  ·rfl
  cases hl1:M.bX (nth (t:=ag) tables b.2.1).1 b.2.2.1
  ·rfl
  cases hl2:M.bX (nth (t:=ag) tables b.2.2.2.1).1 b.2.2.2.2.1
  ·rfl
  by_cases hle:b.2.2.1.length=b.2.2.2.2.1.length
  ·cases he:decide (b.2.2.2.2.2.2.1.length=0)
   ·simp[hle]
   simp only[hle,decide_true,Bool.not_true,Bool.not_false,Bool.true_and,cond_true,cond_false]
   rw[<-hle]
   rw[fO (fun i=>decide ((nth (t:=ax) (nth (t:=ag) tables b.2.1).1 (nth (t:=.int .i64) b.2.2.1 i)).1=(nth (t:=ax) (nth (t:=ag) tables b.2.2.2.1).1 (nth (t:=.int .i64) b.2.2.2.2.1 i)).1)) () (fun i hi=>by
    obtain⟨i0,i1⟩:=cj.1 hi
    have a1:=oB hl1 (xD (t:=.int .i64) hi)
    have i2:i<(b.2.2.2.2.1.length:Int):=by omega
    have a2:=oB hl2 (cI (t:=.int .i64) i0 i2)
    have a3:=vb hof
    simp only[F.jd]
    rw[aq a1.1,aq a1.2,aq a3.1,aq (Int.lt_of_le_sub_one a3.2),aq i2,aq a2.1,aq a2.2]
    rw[gT,bn])]
   simp only[Bool.not_true,Bool.true_and,show ((false:Bool)==false)=true from rfl,cond_true,cond_false]
   cases (aP 0 (b.2.2.1.length:Int)).all fun i=>decide ((nth (t:=ax) (nth (t:=ag) tables b.2.1).1 (nth (t:=.int .i64) b.2.2.1 i)).1=(nth (t:=ax) (nth (t:=ag) tables b.2.2.2.1).1 (nth (t:=.int .i64) b.2.2.2.2.1 i)).1)<;>rfl
  ·simp[hle,Ne.symm hle]
 ·simp[e1,e2,e3]
theorem F.wG (truth:Int)  : F.oI truth=some (M.valueOf truth):=by
 unfold F.oI M.valueOf M.inR
 by_cases h0:truth=0
 ·subst h0;rfl
 ·by_cases h1:truth=1
  ·subst h1;rfl
  ·have h2:¬(0<=truth/\truth<=1):=by omega
   simp only[h0,h1,decide_false]
   by_cases h3:0<=truth
   ·have h4:¬truth<=1:=by omega
    simp[h3,h4]
   ·simp[h3]
theorem F.Ac (a:aa.D) (b:aa.D) (h_a:Sm aa a) (h_b:Sm aa b):F.su a b=some (M.sum a b):=by
 unfold F.su M.sum
 have e:(0:Int)-9999=-9999:=rfl
 cases decide (a.1=(0:Int))<;>cases decide (b.1=(0:Int))<;>cases M.inR (wrap64 (a.2.1+b.2.1)) (-9999) 9999<;>rfl
theorem F.yL (b:Bool)  : F.qz b=some (M.bool b):=by
 unfold F.qz M.bool
 rw[bn]
theorem F.zx (a:Int) (b:Int)  : F.qE a b=some (M.less a b):=by
 unfold F.qE M.less
 rw[bn]
theorem F.zB (a:ByteArray) (b:ByteArray) (h_a:Sm Ty.str a) (h_b:Sm Ty.str b):F.sF a b=some (M.tw a b):=by
 unfold F.sF M.tw
 simp only[bn]
theorem F.sy (a:aa.D) (b:aa.D) (h_a:Sm aa a) (h_b:Sm aa b):F.kQ a b=some (M.dR a b):=by
 unfold F.kQ M.dR
 cases M.aN a
 ·rfl
 cases M.aN b
 ·rfl
 unfold M.order M.less M.tU
 by_cases h1:a.1=b.1
 ·by_cases h2:a.2.1=b.2.1
  ·simp[h1,h2,M.orI]
   generalize M.tw a.2.2.1 b.2.2.1=c
   by_cases hc:c=0<;>simp[hc]
  ·rcases Int.lt_or_gt_of_ne h2 with h | h
   ·have h3:¬b.2.1<a.2.1:=Int.lt_asymm h
    simp[h1,h2,h,h3,M.orI]
    rfl
   ·have h3:¬a.2.1<b.2.1:=Int.lt_asymm h
    simp[h1,h2,h,h3,M.orI]
    rfl
 ·rcases Int.lt_or_gt_of_ne h1 with h | h
  ·have h3:¬b.1<a.1:=Int.lt_asymm h
   simp[h1,h,h3,M.orI]
   rfl
  ·have h3:¬a.1<b.1:=Int.lt_asymm h
   simp[h1,h,h3,M.orI]
   rfl
theorem F.xe (kind:Int) (a:aa.D) (b:aa.D) (h_a:Sm aa a) (h_b:Sm aa b):F.pJ kind a b=some (M.compare kind a b):=by
 unfold F.pJ M.compare M.dR M.zv
 cases M.inR kind 1 4
 ·rfl
 cases M.aN a
 ·rfl
 cases M.aN b
 ·rfl
 cases decide (a.1=(0:Int))<;>cases decide (b.1=(0:Int))<;>cases decide (a.1=b.1)<;>cases decide (kind=1)<;>cases decide (kind=2)<;>cases decide (kind=3)<;>rfl
theorem F.wP (n:Int)  : F.uL n=some (M.inR n 0 2):=by
 rfl
theorem F.zy (n:Int) (p0:M.inR n 0 2=true):F.qR n=some (M.sure n):=by
 have h3:n=0\/n=1\/n=2:=by
  unfold M.inR at p0
  simp at p0
  omega
 rcases h3 with rfl | rfl | rfl<;>(unfold F.qR;(repeat rw[aq (by decide)]);rfl)
theorem F.zP (a:Int) (b:Int)  : F.sD a b=some (M.qw a b):=by
 unfold F.sD M.qw M.fold
 cases ha:M.inR a 0 2
 ·rfl
 cases hb:M.inR b 0 2
 ·rfl
 have h3:∀n,M.inR n 0 2=true->n=0\/n=1\/n=2:=by
  intro n hn
  unfold M.inR at hn
  simp at hn
  omega
 rcases h3 a ha with rfl | rfl | rfl<;>rcases h3 b hb with rfl | rfl | rfl<;>(repeat rw[aq (by rfl)])<;>rfl
theorem F.wY (v:aa.D) (h_v:Sm aa v):F.oP v=some (M.bV v):=by
 unfold F.oP M.bV
 cases hv:M.aN v
 ·rfl
 simp only[Bool.not_true,cond_true,cond_false]
 unfold M.aN at hv
 by_cases h0:v.1=(0:Int)
 ·simp[h0]
 ·by_cases h1:v.1=(1:Int)
  ·simp[h1]
  ·by_cases h2:v.1=(2:Int)
   ·simp[h2]
   ·by_cases h3:v.1=(3:Int)
    ·simp[h3]
    ·simp[h0,h1,h2,h3] at hv
theorem F.Bi (a:Int) (b:Int)  : F.uX a b=some (M.xZ a b):=by
 unfold F.uX M.xZ M.fold
 cases ha:M.inR a 0 2
 ·rfl
 cases hb:M.inR b 0 2
 ·rfl
 have h3:∀n,M.inR n 0 2=true->n=0\/n=1\/n=2:=by
  intro n hn
  unfold M.inR at hn
  simp at hn
  omega
 rcases h3 a ha with rfl | rfl | rfl<;>rcases h3 b hb with rfl | rfl | rfl<;>(repeat rw[aq (by rfl)])<;>rfl
theorem F.zH (a:Int)  : F.sU a=some (M.ri a):=by
 unfold F.sU M.ri
 cases ha:M.inR a 0 2
 ·unfold M.inR at ha
  simp at ha
  have h0:¬a=0:=by omega
  have h1:¬a=1:=by omega
  have h2:¬a=2:=by omega
  simp[h0,h1,h2]
 ·have h3:a=0\/a=1\/a=2:=by
   unfold M.inR at ha
   simp at ha
   omega
  rcases h3 with rfl | rfl | rfl<;>(repeat rw[aq (by rfl)])<;>rfl
theorem F.Bk (row:LV) (values:LV) (p:aE.D) (h_row:Sm (Ty.sl aa) row) (h_values:Sm (Ty.sl aa) values) (h_p:Sm aE p) (p0:values.length<=1000) (p1:M.takes p<=(values.length:Int)) (p2:1<=p.1/\p.1<=8) (p3:M.mZ p row.length):F.rJ row values p=some (M.eY row values p):=by
 exact Dj p values (show Sm aE p from h_p) h_values p0 p1 p2 p3
theorem F.xq (row:LV) (e:LPt) (h_row:Sm (Ty.sl aa) row) (h_e:Sm (Ty.sl aE) e) (p0:M.jw row.length e):F.pK row e=some (M.dY row e):=by
 unfold F.pK M.dY
 obtain⟨h1,h2⟩:=yG (f:=F.eN row e) h_row (fun p st hp hs hl h1 hk hc=>zI p st hs hl h1 hk hc) e [] h_e.2 (jQ aa) (by simp;have:=p0.1;omega) p0.2
 rw[h1,cD,aq (by omega)]
theorem F.wS (row:LV) (list:(List Int)) (h_row:Sm (Ty.sl aa) row) (h_list:Sm (Ty.sl (Ty.int .i64)) list) (p0:M.eV row list):F.pF row list=some (M.taken row list):=by
 unfold F.pF
 rw[ql (fun i=>nth (t:=aa) row i) (fun x hx s hs=>by
  have hl:=h_list.1
  obtain⟨h0,h1⟩:=p0 x hx
  simp only[F.iI]
  rw[aq h0,aq h1,aq (by unfold lim;simp;omega)])]
 rfl
theorem F.xb (values:LV) (h_values:Sm (Ty.sl aa) values):F.oJ values=some (M.fq values):=by
 unfold F.oJ M.fq
 rw[Gy (fun v:aa.D=>decide (v.1=(0:Int))) () (fun x _=>by simp only[F.iJ,bn])]
 cases values.any fun v:aa.D=>decide (v.1=(0:Int))<;>rfl
theorem F.ya (a:LV) (b:LV) (h_a:Sm (Ty.sl aa) a) (h_b:Sm (Ty.sl aa) b):F.wj a b=some (decide (a=b)):=by
 exact Cm (t:=aa) (fun i h0 h1 h2=>by simp only[F.jj,aq h2,gT,bn,ED (t:=aa) rfl])
theorem F.uj (tables:LTb) (b:ah.D) (h_tables:Sm (Ty.sl ag) tables) (h_b:Sm ah b) (p0:(M.aH tables&&M.aO tables b)=true):F.mG tables b=some (M.broken tables b):=by
 obtain⟨ht,hb⟩:=Bool.and_eq_true_iff.1 p0
 obtain⟨⟨b0,b1⟩,hk⟩:=jR hb
 have htm:=cI (t:=ag) b0 b1
 unfold F.mG M.broken
 repeat rw[aq (by first | exact b0 | exact b1)]
 rw[Ar (M.breaks tables b) (fun i hi=>by
  have hrm:=xD (t:=.sl aa) hi
  obtain⟨n0,n1⟩:=cj.1 hi
  have hrow:=xy ht htm hrm
  have hlen:(nth (t:=ag) tables b.2.1).2.1.length<=1048576:=(aJ h_tables b.2.1).2.1.1
  simp only[F.gu]
  unfold M.breaks M.cJ
  rcases hk with⟨e1,hl⟩ | ⟨e3,he⟩ | ⟨e2,hl,ho,hl2⟩
  ·have hir:=qL ht htm hrm hl
   simp only[e1,decide_true,decide_false,cond_true,cond_false,Int.reduceEq,cq]
   rw[aq hir]
   cases hn:M.fq (M.taken (nth (t:=.sl aa) (nth (t:=ag) tables b.2.1).2.1 i) b.2.2.1)
   ·rw[Ff i (fun j=>decide (M.taken (nth (t:=.sl aa) (nth (t:=ag) tables b.2.1).2.1 j) b.2.2.1=M.taken (nth (t:=.sl aa) (nth (t:=ag) tables b.2.1).2.1 i) b.2.2.1)) (by omega) (fun j j0=>by
     unfold F.fc
     rw[hn]
     by_cases hj:j<i
     ·have hjm:=cI (t:=.sl aa) (xs:=(nth (t:=ag) tables b.2.1).2.1) j0 (by omega)
      rw[decide_eq_true hj,if_pos hj]
      simp only[Bool.not_false,cond_true,show ((true:Bool)==true)=true from rfl,cq]
      rw[aq j0,aq (show j<((nth (t:=ag) tables b.2.1).2.1.length:Int) by omega),aq (qL ht htm hjm hl)]
      generalize decide (M.taken (nth (t:=.sl aa) (nth (t:=ag) tables b.2.1).2.1 j) b.2.2.1=M.taken (nth (t:=.sl aa) (nth (t:=ag) tables b.2.1).2.1 i) b.2.2.1)=c
      cases c<;>rfl
     ·rw[decide_eq_false hj,if_neg hj]
      rfl) i.toNat 0 (by omega) (by omega)]
    rw[FD (t:=.sl aa) (nth (t:=ag) tables b.2.1).2.1 (fun r=>decide (M.taken r b.2.2.1=M.taken (nth (t:=.sl aa) (nth (t:=ag) tables b.2.1).2.1 i) b.2.2.1)) n0 (by omega)]
    generalize ((nth (t:=ag) tables b.2.1).2.1.take i.toNat).any (fun r=>decide (M.taken r b.2.2.1=M.taken (nth (t:=.sl aa) (nth (t:=ag) tables b.2.1).2.1 i) b.2.2.1))=c
    cases c<;>rfl
   ·rw[eS]
    unfold F.fc
    rw[hn]
    cases decide ((0:Int)<i)<;>rfl
  ·have hs:=Ap (columns:=(nth (t:=ag) tables b.2.1).1) (e:=b.2.2.2.2.2.2.1) (by rw[he];decide)
   rw[<-hrow] at hs
   simp only[e3,decide_true,decide_false,cond_true,cond_false,Int.reduceEq,cq]
   rw[aq hs,bn]
  ·have hir:=qL ht htm hrm hl
   have hom:=cI (t:=ag) ho.1 ho.2
   have hlen2:(nth (t:=ag) tables b.2.2.2.1).2.1.length<=1048576:=(aJ h_tables b.2.2.2.1).2.1.1
   simp only[e2,decide_true,decide_false,cond_true,cond_false,Int.reduceEq,cq]
   rw[aq hir]
   rw[Cu ((nth (t:=ag) tables b.2.2.2.1).2.1.length:Int) (fun j=>decide (M.taken (nth (t:=.sl aa) (nth (t:=ag) tables b.2.2.2.1).2.1 j) b.2.2.2.2.1=M.taken (nth (t:=.sl aa) (nth (t:=ag) tables b.2.1).2.1 i) b.2.2.1)) (by omega) (fun f j j0=>by
    unfold F.gr
    simp only
    rw[aq ho.1,aq ho.2]
    by_cases hj:j<((nth (t:=ag) tables b.2.2.2.1).2.1.length:Int)
    ·have hjm:=cI (t:=.sl aa) (xs:=(nth (t:=ag) tables b.2.2.2.1).2.1) j0 hj
     rw[decide_eq_true hj,if_pos hj]
     cases f with
     | true=>rfl
     | false=>
      simp only[Bool.not_false,cond_true,cond_false,show ((true:Bool)==true)=true from rfl,cq]
      rw[aq j0]
      repeat rw[aq (by first | exact hj | exact qL ht hom hjm hl2)]
    ·rw[decide_eq_false hj,if_neg hj]
     rfl) _ _ 0 rfl (by omega)]
   rw[AD (t:=.sl aa) (nth (t:=ag) tables b.2.2.2.1).2.1 (fun r=>decide (M.taken r b.2.2.2.2.1=M.taken (nth (t:=.sl aa) (nth (t:=ag) tables b.2.1).2.1 i) b.2.2.1))]
   generalize (nth (t:=ag) tables b.2.2.2.1).2.1.any (fun r=>decide (M.taken r b.2.2.2.2.1=M.taken (nth (t:=.sl aa) (nth (t:=ag) tables b.2.1).2.1 i) b.2.2.1))=c
   generalize M.fq (M.taken (nth (t:=.sl aa) (nth (t:=ag) tables b.2.1).2.1 i) b.2.2.1)=d
   cases c<;>cases d<;>rfl)]
 unfold M.cJ
 cases (aP 0 ((nth (t:=ag) tables b.2.1).2.1.length:Int)).find? (M.breaks tables b)<;>rfl
theorem F.sI (tables:LTb) (b:ah.D) (h_tables:Sm (Ty.sl ag) tables) (h_b:Sm ah b):F.kY tables b=some (M.aK tables b):=by
 unfold F.kY M.aK
 cases h:(M.aH tables&&M.aO tables b)<;>rfl
theorem F.tW (b:(List Int)) (p:Int) (n:Int) (h_b:Sm (Ty.sl (Ty.int .u8)) b) (p0:M.aj b) (p1:0<=p) (p2:p<=1000000000000000):ok (F.nZ b p n) (fun r=>0<=r.1/\(1<=n->r.1<n)/\(n<1->r.1=0)/\r.2=p+1):=by
 unfold F.nZ
 have hw:wrap64 (p+1)=p+1:=aQ (by omega) (by omega)
 have hw2:wrap64 (p+1-1)=p:=by rw[show p+1-1=p by omega];exact aQ (by omega) (by omega)
 simp only[hw,hw2]
 refine IY (fun c0=>?_) (fun c0=>?_)
 ·refine okD (fun c1=>?_) (fun c1=>?_)
  ·exact okS ⟨by dsimp only;omega,fun h=>by dsimp only;omega,fun h=>rfl,rfl⟩
  ·have hl:1<=(b.length:Int):=by omega
   refine okD (fun c2=>?_) (fun c2=>?_)
   ·refine okG (okG (okG (okS ?_)))
    have:=M.EG (M.vA p0 p) (n:=n) (by omega)
    exact⟨this.1,fun _=>this.2,fun h=>by omega,rfl⟩
   ·obtain⟨t0,t1⟩:=M.oZ p1 hl
    have h7:wrap64 (wrap64 (p * 7)+3)=p * 7+3:=by rw[aQ (n:=p * 7) (by omega) (by omega),aQ (by omega) (by omega)]
    obtain⟨t2,t3⟩:=M.oZ (a:=p * 7+3) (by omega) hl
    rw[h7]
    refine okG (okG (okG (okG (okG (okG (okS ?_))))))
    have:=M.FJ (M.vA p0 (p.tmod (b.length:Int))) (M.vA p0 ((p * 7+3).tmod (b.length:Int))) p1 p2 (M.Er p1 hl) (n:=n) (by omega)
    exact⟨this.1,fun _=>this.2,fun h=>by omega,rfl⟩
 ·exact okS ⟨by dsimp only;omega,fun h=>by omega,fun h=>rfl,rfl⟩
theorem F.BD (b:(List Int)) (p:Int) (n:Int) (h_b:Sm (Ty.sl (Ty.int .u8)) b) (p0:M.aj b) (p1:0<=p) (p2:p<=1000000000000000):F.nZ b p n=some (M.pick b p n):=fS (F.tW b p n h_b p0 p1 p2)
theorem M.EO (b:(List Int)) (p:Int) (n:Int) (h_b:Sm (Ty.sl (Ty.int .u8)) b) (p0:M.aj b) (p1:0<=p) (p2:p<=1000000000000000):0<=(M.pick b p n).1/\(1<=n->(M.pick b p n).1<n)/\(n<1->(M.pick b p n).1=0)/\(M.pick b p n).2=p+1:=fV (F.tW b p n h_b p0 p1 p2)
theorem aA {α:Type} {K:α->Prop} {f:Int×Int->Option α} {b:(List Int)} {p:Int} {n:Int} (k:∀r,(0<=r.1)->(1<=n->r.1<n)->(n<1->r.1=0)->(r.2=p+1)->ok (f r) K) (h_b:Sm (Ty.sl (Ty.int .u8)) b:=by exact au) (p0:M.aj b:=by exact au) (p1:0<=p:=by exact au) (p2:p<=1000000000000000:=by exact au):ok (aL (M.pick b p n) f) K:=by
 have h:=M.EO b p n h_b p0 p1 p2
 obtain⟨h0,h1,h2,h3⟩:=h
 exact k _ h0 h1 h2 h3
theorem F.vZ (b:(List Int)) (p:Int) (n:Int) (h_b:Sm (Ty.sl (Ty.int .u8)) b) (p0:M.aj b) (p1:0<=p) (p2:p<=999000000000000):ok (F.rj b p n) (fun r=>(n<1->r.1=false)/\p<=r.2/\r.2<=p+1):=by
  unfold F.rj
  refine Fk (fun c_0=>?_) (fun c_0=>?_)
  ·refine okG ?_
   refine aA fun r1 h_1_5_0 h_1_5_1 h_1_5_2 h_1_5_3=>?_
   exact ni
  ·exact ni
theorem F.Cf (b:(List Int)) (p:Int) (n:Int) (h_b:Sm (Ty.sl (Ty.int .u8)) b) (p0:M.aj b) (p1:0<=p) (p2:p<=999000000000000):F.rj b p n=some (M.odd b p n):=fS (F.vZ b p n h_b p0 p1 p2)
theorem M.GL (b:(List Int)) (p:Int) (n:Int) (h_b:Sm (Ty.sl (Ty.int .u8)) b) (p0:M.aj b) (p1:0<=p) (p2:p<=999000000000000):(n<1->(M.odd b p n).1=false)/\p<=(M.odd b p n).2/\(M.odd b p n).2<=p+1:=fV (F.vZ b p n h_b p0 p1 p2)
theorem cC {α:Type} {K:α->Prop} {f:Bool×Int->Option α} {b:(List Int)} {p:Int} {n:Int} (k:∀r,(n<1->r.1=false)->(p<=r.2)->(r.2<=p+1)->ok (f r) K) (h_b:Sm (Ty.sl (Ty.int .u8)) b:=by exact au) (p0:M.aj b:=by exact au) (p1:0<=p:=by exact au) (p2:p<=999000000000000:=by exact au):ok (aL (M.odd b p n) f) K:=by
 have h:=M.GL b p n h_b p0 p1 p2
 obtain⟨h0,h1,h2⟩:=h
 exact k _ h0 h1 h2
theorem F.mo (b:(List Int)) (p:Int) (n:Int) (h_b:Sm (Ty.sl (Ty.int .u8)) b) (p0:M.aj b) (p1:0<=p) (p2:p<=998000000000000):ok (F.gi b p n) (fun r=>1<=r.1.length/\r.1.length<=6/\p<=r.2/\r.2<=p+20):=by
  unfold F.gi
  refine okG ?_
  refine aA fun r1 h_2_1_0 h_2_1_1 h_2_1_2 h_2_1_3=>?_
  refine okB (A:=fun e0=>p<=e0.1/\e0.1<=p+10/\1<=e0.2.length/\e0.2.length<=3) ?_ (fun e0 h_e0=>?_)
  ·refine okW (fun(k:Nat) (v0:Int×Int×LC)=>0<=v0.1/\v0.1<=(k:Int)/\(v0.2.2.length:Int)+v0.1<=3/\1<=(v0.2.2.length:Int)+v0.1/\p<=v0.2.1/\v0.2.1+2 * v0.1<=p+10) (fun k v0 hI=>?_) (3:Nat) _ ⟨au,au,au,au,au,au⟩
   obtain⟨i_0,i_1,i_2,i_3,i_4,i_5⟩:=hI
   unfold F.fR
   refine okD (fun c_0=>?_) (fun c_0=>?_)
   ·refine okG ?_
    refine okG ?_
    refine okG ?_
    refine aA fun r2 h_5_3_0 h_5_3_1 h_5_3_2 h_5_3_3=>?_
    refine okG ?_
    refine okG ?_
    refine okG ?_
    refine okG ?_
    refine aA fun r3 h_5_7_0 h_5_7_1 h_5_7_2 h_5_7_3=>?_
    refine okG ?_
    exact ia ⟨k-1,by omega,au,au,au,au,au,au⟩
   ·exact fP ⟨au,au,au,au⟩
  ·obtain⟨e0_0,e0_1,e0_2,e0_3⟩:=h_e0
   refine okG ?_
   refine okG ?_
   refine cC fun r4 h_6_2_0 h_6_2_1 h_6_2_2=>?_
   refine okC (fun c_1=>?_) (fun c_1=>?_)
   ·refine okG ?_
    refine okG ?_
    refine aA fun r5 h_7_2_0 h_7_2_1 h_7_2_2 h_7_2_3=>?_
    refine okG ?_
    exact gC
   ·exact gC
theorem F.sV (b:(List Int)) (p:Int) (n:Int) (h_b:Sm (Ty.sl (Ty.int .u8)) b) (p0:M.aj b) (p1:0<=p) (p2:p<=998000000000000):F.gi b p n=some (M.fW b p n):=fS (F.mo b p n h_b p0 p1 p2)
theorem M.xd (b:(List Int)) (p:Int) (n:Int) (h_b:Sm (Ty.sl (Ty.int .u8)) b) (p0:M.aj b) (p1:0<=p) (p2:p<=998000000000000):1<=(M.fW b p n).1.length/\(M.fW b p n).1.length<=6/\p<=(M.fW b p n).2/\(M.fW b p n).2<=p+20:=fV (F.mo b p n h_b p0 p1 p2)
theorem rR {α:Type} {K:α->Prop} {f:LC×Int->Option α} {b:(List Int)} {p:Int} {n:Int} (k:∀r,(1<=r.1.length)->(r.1.length<=6)->(p<=r.2)->(r.2<=p+20)->ok (f r) K) (h_b:Sm (Ty.sl (Ty.int .u8)) b:=by exact au) (p0:M.aj b:=by exact au) (p1:0<=p:=by exact au) (p2:p<=998000000000000:=by exact au):ok (aL (M.fW b p n) f) K:=by
 have h:=M.xd b p n h_b p0 p1 p2
 obtain⟨h0,h1,h2,h3⟩:=h
 exact k _ h0 h1 h2 h3
theorem F.zT (row:LV) (h_row:Sm (Ty.sl aa) row):F.zn row=some row:=by
 rfl
theorem F.qf (b:(List Int)) (p:Int) (c:ax.D) (h_b:Sm (Ty.sl (Ty.int .u8)) b) (p0:M.aj b) (p1:0<=p) (p2:p<=998000000000000):ok (F.jv b p c) (fun r=>r.1.2.2.1.size<=20/\p<=r.2/\r.2<=p+3):=by
  unfold F.jv
  refine okC (fun c_0=>?_) (fun c_0=>?_)
  ·refine okG ?_
   refine aA fun r1 h_1_4_0 h_1_4_1 h_1_4_2 h_1_4_3=>?_
   refine okD (fun c_1=>?_) (fun c_1=>?_)
   ·exact ni
   ·refine okD (fun c_2=>?_) (fun c_2=>?_)
    ·refine okG ?_
     refine okG ?_
     refine aA fun r2 h_5_1_0 h_5_1_1 h_5_1_2 h_5_1_3=>?_
     exact ni
    ·refine okD (fun c_3=>?_) (fun c_3=>?_)
     ·refine okG ?_
      refine okG ?_
      refine aA fun r3 h_7_2_0 h_7_2_1 h_7_2_2 h_7_2_3=>?_
      refine okG ?_
      refine okG ?_
      exact ni
     ·refine okG ?_
      refine okG ?_
      refine aA fun r4 h_8_1_0 h_8_1_1 h_8_1_2 h_8_1_3=>?_
      exact ni
  ·refine okD (fun c_4=>?_) (fun c_4=>?_)
   ·refine okG ?_
    refine aA fun r2 h_5_1_0 h_5_1_1 h_5_1_2 h_5_1_3=>?_
    exact ni
   ·refine okD (fun c_5=>?_) (fun c_5=>?_)
    ·refine okG ?_
     refine aA fun r3 h_7_2_0 h_7_2_1 h_7_2_2 h_7_2_3=>?_
     refine okG ?_
     refine okG ?_
     exact ni
    ·refine okG ?_
     refine aA fun r4 h_8_1_0 h_8_1_1 h_8_1_2 h_8_1_3=>?_
     exact ni
theorem F.xm (b:(List Int)) (p:Int) (c:ax.D) (h_b:Sm (Ty.sl (Ty.int .u8)) b) (p0:M.aj b) (p1:0<=p) (p2:p<=998000000000000):F.jv b p c=some (M.ko b p c):=fS (F.qf b p c h_b p0 p1 p2)
theorem M.Bd (b:(List Int)) (p:Int) (c:ax.D) (h_b:Sm (Ty.sl (Ty.int .u8)) b) (p0:M.aj b) (p1:0<=p) (p2:p<=998000000000000):(M.ko b p c).1.2.2.1.size<=20/\p<=(M.ko b p c).2/\(M.ko b p c).2<=p+3:=fV (F.qf b p c h_b p0 p1 p2)
theorem oD {α:Type} {K:α->Prop} {f:aa.D×Int->Option α} {b:(List Int)} {p:Int} {c:ax.D} (k:∀r,(r.1.2.2.1.size<=20)->(p<=r.2)->(r.2<=p+3)->ok (f r) K) (h_b:Sm (Ty.sl (Ty.int .u8)) b:=by exact au) (p0:M.aj b:=by exact au) (p1:0<=p:=by exact au) (p2:p<=998000000000000:=by exact au):ok (aL (M.ko b p c) f) K:=by
 have h:=M.Bd b p c h_b p0 p1 p2
 obtain⟨h0,h1,h2⟩:=h
 exact k _ h0 h1 h2
theorem F.og (b:(List Int)) (p:Int) (n:Int) (h_b:Sm (Ty.sl (Ty.int .u8)) b) (p0:M.aj b) (p1:0<=p) (p2:p<=998000000000000):ok (F.iq b p n) (fun r=>r.1.2.2.1.size<=20/\p<=r.2/\r.2<=p+20):=by
  unfold F.iq
  refine okG ?_
  refine aA fun r1 h_2_1_0 h_2_1_1 h_2_1_2 h_2_1_3=>?_
  refine okB (A:=fun e0=>p<=e0.1/\e0.1<=p+12/\e0.2.2.2.size<=3) ?_ (fun e0 h_e0=>?_)
  ·refine okW (fun(_:Nat) (_:Unit)=>True) (fun _ v0 _=>?_) 0 _ trivial
   unfold F.hG
   refine okD (fun c_1=>?_) (fun c_1=>?_)
   ·exact fP ⟨au,au,au⟩
   ·refine okD (fun c_2=>?_) (fun c_2=>?_)
    ·refine okG ?_
     refine okG ?_
     refine okG ?_
     refine aA fun r2 h_8_1_0 h_8_1_1 h_8_1_2 h_8_1_3=>?_
     refine okG ?_
     refine okG ?_
     refine aA fun r3 h_9_1_0 h_9_1_1 h_9_1_2 h_9_1_3=>?_
     refine okD (fun c_3=>?_) (fun c_3=>?_)
     ·refine okG ?_
      refine okG ?_
      refine aA fun r4 h_10_2_0 h_10_2_1 h_10_2_2 h_10_2_3=>?_
      refine okG ?_
      refine okG ?_
      exact fP ⟨au,au,au⟩
     ·exact fP ⟨au,au,au⟩
    ·refine okD (fun c_4=>?_) (fun c_4=>?_)
     ·refine okG ?_
      refine okG ?_
      refine okG ?_
      refine aA fun r2 h_8_1_0 h_8_1_1 h_8_1_2 h_8_1_3=>?_
      refine okG ?_
      refine okG ?_
      refine aA fun r3 h_9_1_0 h_9_1_1 h_9_1_2 h_9_1_3=>?_
      refine okD (fun c_5=>?_) (fun c_5=>?_)
      ·refine okG ?_
       refine okG ?_
       refine aA fun r4 h_10_2_0 h_10_2_1 h_10_2_2 h_10_2_3=>?_
       refine okG ?_
       refine okG ?_
       exact fP ⟨au,au,au⟩
      ·exact fP ⟨au,au,au⟩
     ·refine okD (fun c_6=>?_) (fun c_6=>?_)
      ·refine okG ?_
       refine okG ?_
       refine okG ?_
       refine aA fun r2 h_8_1_0 h_8_1_1 h_8_1_2 h_8_1_3=>?_
       refine okG ?_
       refine okG ?_
       refine aA fun r3 h_9_1_0 h_9_1_1 h_9_1_2 h_9_1_3=>?_
       refine okD (fun c_7=>?_) (fun c_7=>?_)
       ·refine okG ?_
        refine okG ?_
        refine aA fun r4 h_10_2_0 h_10_2_1 h_10_2_2 h_10_2_3=>?_
        refine okG ?_
        refine okG ?_
        exact fP ⟨au,au,au⟩
       ·exact fP ⟨au,au,au⟩
      ·refine okD (fun c_8=>?_) (fun c_8=>?_)
       ·refine okG ?_
        refine okG ?_
        refine okG ?_
        refine aA fun r5 h_14_1_0 h_14_1_1 h_14_1_2 h_14_1_3=>?_
        refine okB (A:=fun e1=>p<=e1.1/\e1.1<=p+8/\e1.2.size<=3) ?_ (fun e1 h_e1=>?_)
        ·refine okW (fun(k:Nat) (v1:Int×Int×ByteArray)=>0<=v1.1/\v1.1<=(k:Int)/\(v1.2.2.size:Int)+v1.1<=3/\p<=v1.2.1/\v1.2.1+v1.1<=p+8) (fun k v1 hI=>?_) (3:Nat) _ ⟨au,au,au,au,au⟩
         obtain⟨i_0,i_1,i_2,i_3,i_4⟩:=hI
         unfold F.eg
         refine okD (fun c_0=>?_) (fun c_0=>?_)
         ·refine okG ?_
          refine okG ?_
          refine okG ?_
          refine aA fun r6 h_17_3_0 h_17_3_1 h_17_3_2 h_17_3_3=>?_
          refine okG ?_
          exact ia ⟨k-1,by omega,au,au,au,au,au⟩
         ·exact fP ⟨au,au,au⟩
        ·obtain⟨e1_0,e1_1,e1_2⟩:=h_e1
         exact fP ⟨au,au,au⟩
       ·refine okD (fun c_9=>?_) (fun c_9=>?_)
        ·refine okG ?_
         refine okG ?_
         refine okG ?_
         refine aA fun r5 h_14_1_0 h_14_1_1 h_14_1_2 h_14_1_3=>?_
         refine okB (A:=fun e1=>p<=e1.1/\e1.1<=p+8/\e1.2.size<=3) ?_ (fun e1 h_e1=>?_)
         ·refine okW (fun(k:Nat) (v1:Int×Int×ByteArray)=>0<=v1.1/\v1.1<=(k:Int)/\(v1.2.2.size:Int)+v1.1<=3/\p<=v1.2.1/\v1.2.1+v1.1<=p+8) (fun k v1 hI=>?_) (3:Nat) _ ⟨au,au,au,au,au⟩
          obtain⟨i_0,i_1,i_2,i_3,i_4⟩:=hI
          unfold F.eg
          refine okD (fun c_0=>?_) (fun c_0=>?_)
          ·refine okG ?_
           refine okG ?_
           refine okG ?_
           refine aA fun r6 h_17_3_0 h_17_3_1 h_17_3_2 h_17_3_3=>?_
           refine okG ?_
           exact ia ⟨k-1,by omega,au,au,au,au,au⟩
          ·exact fP ⟨au,au,au⟩
         ·obtain⟨e1_0,e1_1,e1_2⟩:=h_e1
          exact fP ⟨au,au,au⟩
        ·refine okG ?_
         refine okG ?_
         refine okG ?_
         refine aA fun r7 h_3_1_0 h_3_1_1 h_3_1_2 h_3_1_3=>?_
         exact fP ⟨au,au,au⟩
  ·obtain⟨e0_0,e0_1,e0_2⟩:=h_e0
   refine okG ?_
   refine okG ?_
   refine cC fun r8 h_18_2_0 h_18_2_1 h_18_2_2=>?_
   refine okC (fun c_10=>?_) (fun c_10=>?_)
   ·refine okG ?_
    refine okG ?_
    refine aA fun r9 h_19_1_0 h_19_1_1 h_19_1_2 h_19_1_3=>?_
    refine okD (fun c_11=>?_) (fun c_11=>?_)
    ·exact ni
    ·refine okD (fun c_12=>?_) (fun c_12=>?_)
     ·refine okG ?_
      exact ni
     ·refine okD (fun c_13=>?_) (fun c_13=>?_)
      ·refine okG ?_
       refine okG ?_
       refine aA fun r10 h_26_1_0 h_26_1_1 h_26_1_2 h_26_1_3=>?_
       exact ni
      ·refine okG ?_
       exact ni
   ·exact ni
theorem F.vS (b:(List Int)) (p:Int) (n:Int) (h_b:Sm (Ty.sl (Ty.int .u8)) b) (p0:M.aj b) (p1:0<=p) (p2:p<=998000000000000):F.iq b p n=some (M.eT b p n):=fS (F.og b p n h_b p0 p1 p2)
theorem M.Af (b:(List Int)) (p:Int) (n:Int) (h_b:Sm (Ty.sl (Ty.int .u8)) b) (p0:M.aj b) (p1:0<=p) (p2:p<=998000000000000):(M.eT b p n).1.2.2.1.size<=20/\p<=(M.eT b p n).2/\(M.eT b p n).2<=p+20:=fV (F.og b p n h_b p0 p1 p2)
theorem gq {α:Type} {K:α->Prop} {f:aa.D×Int->Option α} {b:(List Int)} {p:Int} {n:Int} (k:∀r,(r.1.2.2.1.size<=20)->(p<=r.2)->(r.2<=p+20)->ok (f r) K) (h_b:Sm (Ty.sl (Ty.int .u8)) b:=by exact au) (p0:M.aj b:=by exact au) (p1:0<=p:=by exact au) (p2:p<=998000000000000:=by exact au):ok (aL (M.eT b p n) f) K:=by
 have h:=M.Af b p n h_b p0 p1 p2
 obtain⟨h0,h1,h2⟩:=h
 exact k _ h0 h1 h2
theorem F.qo (b:(List Int)) (p:Int) (columns:LC) (n:Int) (h_b:Sm (Ty.sl (Ty.int .u8)) b) (h_columns:Sm (Ty.sl ax) columns) (p0:M.aj b) (p1:0<=p) (p2:p<=997000000000000):ok (F.kH b p columns n) (fun r=>r.1.length<=columns.length+3/\(∀v∈r.1,v.2.2.1.size<=20)/\p<=r.2/\r.2<=p+3 * columns.length+70/\(n<1->r.1.length=columns.length)):=by
  unfold F.kH
  have hl:=h_columns.1
  refine okT (A:=fun v0=>p<=v0.1/\v0.1<=p+3 * (columns.length:Int)/\v0.2.length=columns.length/\(∀v∈v0.2,v.2.2.1.size<=20)) (B:=fun _=>False) ?_ (fun v0 h_v0=>?_) (fun _ h=>h.elim)
  ·refine Jp (fun(k:Nat) (v0:Int×LV)=>p<=v0.1/\v0.1<=p+3 * (k:Int)/\v0.2.length=k/\(∀v∈v0.2,v.2.2.1.size<=20)) ⟨au,au,au,au⟩ (fun z0 hz k v0 hk hI=>?_)
   obtain⟨i_0,i_1,i_2,i_3⟩:=hI
   unfold F.jr
   refine okG ?_
   refine okG ?_
   refine okG ?_
   refine oD fun r1 h_5_6_0 h_5_6_1 h_5_6_2=>?_
   refine okG ?_
   exact ia ⟨au,au,au,au⟩
  ·obtain⟨v0_0,v0_1,v0_2,v0_3⟩:=h_v0
   refine okG ?_
   refine okG ?_
   refine cC fun r2 h_6_2_0 h_6_2_1 h_6_2_2=>?_
   refine okC (fun c_0=>?_) (fun c_0=>?_)
   ·have n_a:¬n<1:=fun q=>by rw[h_6_2_0 q] at c_0;cases c_0
    refine okG ?_
    refine okG ?_
    refine aA fun r3 h_7_1_0 h_7_1_1 h_7_1_2 h_7_1_3=>?_
    refine okD (fun c_1=>?_) (fun c_1=>?_)
    ·refine okG ?_
     exact uC
    ·refine okD (fun c_2=>?_) (fun c_2=>?_)
     ·refine okD (fun c_3=>?_) (fun c_3=>?_)
      ·refine okG ?_
       refine okG ?_
       refine aA fun r4 h_13_4_0 h_13_4_1 h_13_4_2 h_13_4_3=>?_
       refine okG ?_
       refine okG ?_
       refine gq fun r5 h_13_6_0 h_13_6_1 h_13_6_2=>?_
       refine okG ?_
       refine okG ?_
       exact uC
      ·exact uC
     ·refine okG ?_
      refine okG ?_
      refine gq fun r6 h_8_2_0 h_8_2_1 h_8_2_2=>?_
      refine okG ?_
      refine okG ?_
      refine gq fun r7 h_8_4_0 h_8_4_1 h_8_4_2=>?_
      refine okG ?_
      refine okG ?_
      refine gq fun r8 h_8_6_0 h_8_6_1 h_8_6_2=>?_
      refine okG ?_
      exact uC
   ·exact uC
theorem F.yw (b:(List Int)) (p:Int) (columns:LC) (n:Int) (h_b:Sm (Ty.sl (Ty.int .u8)) b) (h_columns:Sm (Ty.sl ax) columns) (p0:M.aj b) (p1:0<=p) (p2:p<=997000000000000):F.kH b p columns n=some (M.jl b p columns n):=fS (F.qo b p columns n h_b h_columns p0 p1 p2)
theorem M.Cs (b:(List Int)) (p:Int) (columns:LC) (n:Int) (h_b:Sm (Ty.sl (Ty.int .u8)) b) (h_columns:Sm (Ty.sl ax) columns) (p0:M.aj b) (p1:0<=p) (p2:p<=997000000000000):(M.jl b p columns n).1.length<=columns.length+3/\(∀v∈(M.jl b p columns n).1,v.2.2.1.size<=20)/\p<=(M.jl b p columns n).2/\(M.jl b p columns n).2<=p+3 * columns.length+70/\(n<1->(M.jl b p columns n).1.length=columns.length):=fV (F.qo b p columns n h_b h_columns p0 p1 p2)
theorem kX {α:Type} {K:α->Prop} {f:LV×Int->Option α} {b:(List Int)} {p:Int} {columns:LC} {n:Int} (k:∀r,(r.1.length<=columns.length+3)->(∀v∈r.1,v.2.2.1.size<=20)->(p<=r.2)->(r.2<=p+3 * columns.length+70)->(n<1->r.1.length=columns.length)->ok (f r) K) (h_b:Sm (Ty.sl (Ty.int .u8)) b:=by exact au) (h_columns:Sm (Ty.sl ax) columns:=by exact au) (p0:M.aj b:=by exact au) (p1:0<=p:=by exact au) (p2:p<=997000000000000:=by exact au):ok (aL (M.jl b p columns n) f) K:=by
 have h:=M.Cs b p columns n h_b h_columns p0 p1 p2
 obtain⟨h0,h1,h2,h3,h4⟩:=h
 exact k _ h0 h1 h2 h3 h4
theorem F.qO (b:(List Int)) (p:Int) (c:LC) (n:Int) (h_b:Sm (Ty.sl (Ty.int .u8)) b) (h_c:Sm (Ty.sl ax) c) (p0:M.aj b) (p1:0<=p) (p2:p<=996000000000000) (p3:c.length<=6) (p4:n=0):ok (F.kz b p c n) (fun r=>r.1.length<=6/\(∀w∈r.1,M.tN w)/\p<=r.2/\r.2<=p+1000/\(∀w∈r.1,w.length=c.length)):=by
  unfold F.kz
  have hl:=p3
  refine okG ?_
  refine aA fun r1 h_2_1_0 h_2_1_1 h_2_1_2 h_2_1_3=>?_
  refine okB (A:=fun e0=>p<=e0.1/\e0.1<=p+700/\e0.2.length<=6/\(∀w∈e0.2,M.tN w)/\(∀w∈e0.2,w.length=c.length)) ?_ (fun e0 h_e0=>?_)
  ·refine okW (fun(k:Nat) (v0:Int×Int×LLV)=>0<=v0.1/\v0.1<=(k:Int)/\(v0.2.2.length:Int)+v0.1<=6/\(∀w∈v0.2.2,M.tN w)/\p<=v0.2.1/\v0.2.1+100 * v0.1<=p+700/\(∀w∈v0.2.2,w.length=c.length)) (fun k v0 hI=>?_) (6:Nat) _ ⟨au,au,au,au,au,au,au⟩
   obtain⟨i_0,i_1,i_2,i_3,i_4,i_5,i_6⟩:=hI
   unfold F.je
   refine okD (fun c_0=>?_) (fun c_0=>?_)
   ·refine Fk (fun c_1=>?_) (fun c_1=>?_)
    ·refine okG ?_
     refine okG ?_
     refine okG ?_
     refine aA fun r2 h_5_5_0 h_5_5_1 h_5_5_2 h_5_5_3=>?_
     refine okD (fun c_2=>?_) (fun c_2=>?_)
     ·refine okG ?_
      refine okG ?_
      refine aA fun r3 h_6_5_0 h_6_5_1 h_6_5_2 h_6_5_3=>?_
      refine okG ?_
      refine okG ?_
      refine okG ?_
      refine okL fun r4 er4=>?_
      have w_a:M.tN r4:=er4▸M.ym i_3 _
      have w_b:r4.length=c.length:=by rw[er4];exact i_6 _ (cI (t:=.sl aa) h_6_5_0 (h_6_5_1 (by omega)))
      refine okG ?_
      exact ia ⟨k-1,by omega,au,au,au,au,au,au,au⟩
     ·refine okG ?_
      refine okG ?_
      refine kX fun r5 h_7_4_0 h_7_4_1 h_7_4_2 h_7_4_3 h_7_4_4=>?_
      have w_c:r5.1.length=c.length:=h_7_4_4 (by omega)
      refine okG ?_
      exact ia ⟨k-1,by omega,au,au,au,au,au,au,au⟩
    ·refine okG ?_
     refine okG ?_
     refine okG ?_
     refine kX fun r5 h_7_4_0 h_7_4_1 h_7_4_2 h_7_4_3 h_7_4_4=>?_
     have w_c:r5.1.length=c.length:=h_7_4_4 (by omega)
     refine okG ?_
     exact ia ⟨k-1,by omega,au,au,au,au,au,au,au⟩
   ·exact fP ⟨au,au,au,au,au⟩
  ·obtain⟨e0_0,e0_1,e0_2,e0_3,e0_4⟩:=h_e0
   exact uC
theorem F.zf (b:(List Int)) (p:Int) (c:LC) (n:Int) (h_b:Sm (Ty.sl (Ty.int .u8)) b) (h_c:Sm (Ty.sl ax) c) (p0:M.aj b) (p1:0<=p) (p2:p<=996000000000000) (p3:c.length<=6) (p4:n=0):F.kz b p c n=some (M.ny b p c n):=fS (F.qO b p c n h_b h_c p0 p1 p2 p3 p4)
theorem M.CO (b:(List Int)) (p:Int) (c:LC) (n:Int) (h_b:Sm (Ty.sl (Ty.int .u8)) b) (h_c:Sm (Ty.sl ax) c) (p0:M.aj b) (p1:0<=p) (p2:p<=996000000000000) (p3:c.length<=6) (p4:n=0):(M.ny b p c n).1.length<=6/\(∀w∈(M.ny b p c n).1,M.tN w)/\p<=(M.ny b p c n).2/\(M.ny b p c n).2<=p+1000/\(∀w∈(M.ny b p c n).1,w.length=c.length):=fV (F.qO b p c n h_b h_c p0 p1 p2 p3 p4)
theorem xk {α:Type} {K:α->Prop} {f:LLV×Int->Option α} {b:(List Int)} {p:Int} {c:LC} {n:Int} (k:∀r,(r.1.length<=6)->(∀w∈r.1,M.tN w)->(p<=r.2)->(r.2<=p+1000)->(∀w∈r.1,w.length=c.length)->ok (f r) K) (h_b:Sm (Ty.sl (Ty.int .u8)) b:=by exact au) (h_c:Sm (Ty.sl ax) c:=by exact au) (p0:M.aj b:=by exact au) (p1:0<=p:=by exact au) (p2:p<=996000000000000:=by exact au) (p3:c.length<=6:=by exact au) (p4:n=0:=by exact au):ok (aL (M.ny b p c n) f) K:=by
 have h:=M.CO b p c n h_b h_c p0 p1 p2 p3 p4
 obtain⟨h0,h1,h2,h3,h4⟩:=h
 exact k _ h0 h1 h2 h3 h4
theorem F.ng (b:(List Int)) (p:Int) (n:Int) (h_b:Sm (Ty.sl (Ty.int .u8)) b) (p0:M.aj b) (p1:0<=p) (p2:p<=995000000000000):ok (F.gG b p n) (fun r=>r.1.length<=6/\1<=r.1.length/\(∀t∈r.1,M.dP t)/\p<=r.2/\r.2<=p+10000/\(n<1->r.1.length<=3)/\(n<1->(∀t∈r.1,M.eZ t))/\(n<1->(∀t∈r.1,M.jb t))):=by
  unfold F.gG
  refine okG ?_
  refine aA fun r1 h_2_1_0 h_2_1_1 h_2_1_2 h_2_1_3=>?_
  refine okB (A:=fun e0=>p<=e0.1/\e0.1<=p+6100/\e0.2.length<=3/\1<=e0.2.length/\(∀t∈e0.2,M.dP t)/\(∀t∈e0.2,M.eZ t)/\(∀t∈e0.2,M.jb t)) ?_ (fun e0 h_e0=>?_)
  ·refine okW (fun(k:Nat) (v0:Int×Int×LTb)=>0<=v0.1/\v0.1<=(k:Int)/\(v0.2.2.length:Int)+v0.1<=3/\1<=(v0.2.2.length:Int)+v0.1/\(∀t∈v0.2.2,M.dP t)/\p<=v0.2.1/\v0.2.1+2000 * v0.1<=p+6100/\(∀t∈v0.2.2,M.eZ t)/\(∀t∈v0.2.2,M.jb t)) (fun k v0 hI=>?_) (3:Nat) _ ⟨au,au,au,au,au,au,au,au,au⟩
   obtain⟨i_0,i_1,i_2,i_3,i_4,i_5,i_6,i_7,i_8⟩:=hI
   unfold F.gv
   refine okD (fun c_0=>?_) (fun c_0=>?_)
   ·refine okG ?_
    refine okG ?_
    refine okG ?_
    refine rR fun r2 h_5_1_0 h_5_1_1 h_5_1_2 h_5_1_3=>?_
    refine okG ?_
    refine okG ?_
    refine aA fun r3 h_6_2_0 h_6_2_1 h_6_2_2 h_6_2_3=>?_
    refine okG ?_
    refine okG ?_
    refine okG ?_
    refine okG ?_
    refine okG ?_
    refine okG ?_
    refine okG ?_
    refine okG ?_
    refine xk fun r4 h_7_3_0 h_7_3_1 h_7_3_2 h_7_3_3 h_7_3_4=>?_
    have q_a:=M.Jg h_6_2_0 (h_6_2_1 (by decide)) (n:=(r2.1.length:Int)) (by omega)
    have q_b:(aD r2.1 (some ((0:Int),wrap64 ((1:Int)+(r3.1.tmod (r2.1.length:Int)))))).length<=2:=M.Ij q_a
    have q_c:M.eZ ((aD r2.1 (some ((0:Int),wrap64 ((1:Int)+(r3.1.tmod (r2.1.length:Int)))))),(r4.1,())):=⟨Nat.le_trans q_b (by decide),by omega,fun w hw=>by rw[h_7_3_4 w hw];omega⟩
    have q_d:M.jb ((aD r2.1 (some ((0:Int),wrap64 ((1:Int)+(r3.1.tmod (r2.1.length:Int)))))),(r4.1,())):=M.Hh (M.IJ h_6_2_0 (by omega) (by omega)).1 (by omega) (M.Jl h_6_2_0 (by omega) (by omega))
    refine okG ?_
    exact ia ⟨k-1,by omega,au,au,au,au,au,au,au,au,au⟩
   ·exact fP ⟨au,au,au,au,au,au,au⟩
  ·obtain⟨e0_0,e0_1,e0_2,e0_3,e0_4,e0_5,e0_6⟩:=h_e0
   refine okG ?_
   refine okG ?_
   refine cC fun r5 h_9_2_0 h_9_2_1 h_9_2_2=>?_
   refine okC (fun c_1=>?_) (fun c_1=>?_)
   ·have n_a:¬n<1:=fun q=>by rw[h_9_2_0 q] at c_1;cases c_1
    obtain⟨t_1,t_2,_⟩:=M.zp e0_5 (0:Int)
    refine okG ?_
    refine okG ?_
    refine aA fun r6 h_10_1_0 h_10_1_1 h_10_1_2 h_10_1_3=>?_
    refine okD (fun c_2=>?_) (fun c_2=>?_)
    ·refine okG ?_
     exact He
    ·refine okD (fun c_3=>?_) (fun c_3=>?_)
     ·have t_a:=M.EK (i:=0) (k:=(0:Int).toNat) (w:=[[((9:Int),((0:Int),((⟨#[]⟩:ByteArray),())))]]) e0_4 e0_5 (by exact cl) (by decide)
      refine okG ?_
      refine okG ?_ (by simp only[List.length_cons,List.length_nil,List.length_append,lim];omega)
      refine okG ?_ (by rw[List.length_set];omega)
      refine okL fun y1 ey1=>?_
      subst ey1
      exact He
     ·have t_a:=M.ET (i:=0) (k:=(0:Int).toNat) (w:=[((1:Int),(false,()))]) e0_4 e0_5 (by decide)
      refine okG ?_
      refine okG ?_ (by simp only[List.length_cons,List.length_nil,List.length_append,lim];omega)
      refine okG ?_ (by rw[List.length_set];omega)
      refine okL fun y2 ey2=>?_
      subst ey2
      exact He
   ·have t_b:n<1->∀t∈e0.2,M.eZ t:=fun _=>e0_5
    have t_c:n<1->∀t∈e0.2,M.jb t:=fun _=>e0_6
    exact He
theorem F.tC (b:(List Int)) (p:Int) (n:Int) (h_b:Sm (Ty.sl (Ty.int .u8)) b) (p0:M.aj b) (p1:0<=p) (p2:p<=995000000000000):F.gG b p n=some (M.ee b p n):=fS (F.ng b p n h_b p0 p1 p2)
theorem M.zl (b:(List Int)) (p:Int) (n:Int) (h_b:Sm (Ty.sl (Ty.int .u8)) b) (p0:M.aj b) (p1:0<=p) (p2:p<=995000000000000):(M.ee b p n).1.length<=6/\1<=(M.ee b p n).1.length/\(∀t∈(M.ee b p n).1,M.dP t)/\p<=(M.ee b p n).2/\(M.ee b p n).2<=p+10000/\(n<1->(M.ee b p n).1.length<=3)/\(n<1->(∀t∈(M.ee b p n).1,M.eZ t))/\(n<1->(∀t∈(M.ee b p n).1,M.jb t)):=fV (F.ng b p n h_b p0 p1 p2)
theorem sK {α:Type} {K:α->Prop} {f:LTb×Int->Option α} {b:(List Int)} {p:Int} {n:Int} (k:∀r,(r.1.length<=6)->(1<=r.1.length)->(∀t∈r.1,M.dP t)->(p<=r.2)->(r.2<=p+10000)->(n<1->r.1.length<=3)->(n<1->(∀t∈r.1,M.eZ t))->(n<1->(∀t∈r.1,M.jb t))->ok (f r) K) (h_b:Sm (Ty.sl (Ty.int .u8)) b:=by exact au) (p0:M.aj b:=by exact au) (p1:0<=p:=by exact au) (p2:p<=995000000000000:=by exact au):ok (aL (M.ee b p n) f) K:=by
 have h:=M.zl b p n h_b p0 p1 p2
 obtain⟨h0,h1,h2,h3,h4,h5,h6,h7⟩:=h
 exact k _ h0 h1 h2 h3 h4 h5 h6 h7
theorem F.qa (b:(List Int)) (p:Int) (columns:LC) (kind:Int) (h_b:Sm (Ty.sl (Ty.int .u8)) b) (h_columns:Sm (Ty.sl ax) columns) (p0:M.aj b) (p1:0<=p) (p2:p<=997000000000000):ok (F.ji b p columns kind) (fun r=>r.1.2.2.1.2.2.1.size<=20/\p<=r.2/\r.2<=p+20):=by
  unfold F.ji
  have hl:=h_columns.1
  refine okT (A:=fun e0=>p<=e0/\e0<=p+8) (B:=fun q0=>p<=q0.1/\q0.1<=p+10) ?_ (fun e0 h_e0=>?_) (fun q0 h_q0=>?_)
  ·refine okW (fun(k:Nat) (v0:Int×Int)=>0<=v0.1/\v0.1<=4/\4<=v0.1+(k:Int)/\p<=v0.2/\v0.2<=p+2 * v0.1) (fun k v0 hI=>?_) (4:Nat) _ ⟨au,au,au,au,au⟩
   obtain⟨i_0,i_1,i_2,i_3,i_4⟩:=hI
   unfold F.iK
   refine Fk (fun c_0=>?_) (fun c_0=>?_)
   ·refine okD (fun c_1=>?_) (fun c_1=>?_)
    ·refine okG ?_
     refine okG ?_
     refine okG ?_
     refine aA fun r1 h_4_3_0 h_4_3_1 h_4_3_2 h_4_3_3=>?_
     refine okG ?_
     refine okG ?_
     refine Fk (fun c_2=>?_) (fun c_2=>?_)
     ·refine okG ?_
      refine okG ?_
      refine aA fun r2 h_5_9_0 h_5_9_1 h_5_9_2 h_5_9_3=>?_
      refine okD (fun c_3=>?_) (fun c_3=>?_)
      ·exact Il ⟨au,au⟩
      ·exact ia ⟨k-1,by omega,au,au,au,au,au⟩
     ·exact ia ⟨k-1,by omega,au,au,au,au,au⟩
    ·exact Gz ⟨au,au⟩
   ·exact Gz ⟨au,au⟩
  ·obtain⟨e0_0,e0_1⟩:=h_e0
   refine okG ?_
   refine okG ?_
   refine oD fun r3 h_7_3_0 h_7_3_1 h_7_3_2=>?_
   exact ni
  ·obtain⟨q0_0,q0_1⟩:=h_q0
   exact ni
theorem F.wQ (b:(List Int)) (p:Int) (columns:LC) (kind:Int) (h_b:Sm (Ty.sl (Ty.int .u8)) b) (h_columns:Sm (Ty.sl ax) columns) (p0:M.aj b) (p1:0<=p) (p2:p<=997000000000000):F.ji b p columns kind=some (M.dF b p columns kind):=fS (F.qa b p columns kind h_b h_columns p0 p1 p2)
theorem M.Bj (b:(List Int)) (p:Int) (columns:LC) (kind:Int) (h_b:Sm (Ty.sl (Ty.int .u8)) b) (h_columns:Sm (Ty.sl ax) columns) (p0:M.aj b) (p1:0<=p) (p2:p<=997000000000000):(M.dF b p columns kind).1.2.2.1.2.2.1.size<=20/\p<=(M.dF b p columns kind).2/\(M.dF b p columns kind).2<=p+20:=fV (F.qa b p columns kind h_b h_columns p0 p1 p2)
theorem fG {α:Type} {K:α->Prop} {f:aE.D×Int->Option α} {b:(List Int)} {p:Int} {columns:LC} {kind:Int} (k:∀r,(r.1.2.2.1.2.2.1.size<=20)->(p<=r.2)->(r.2<=p+20)->ok (f r) K) (h_b:Sm (Ty.sl (Ty.int .u8)) b:=by exact au) (h_columns:Sm (Ty.sl ax) columns:=by exact au) (p0:M.aj b:=by exact au) (p1:0<=p:=by exact au) (p2:p<=997000000000000:=by exact au):ok (aL (M.dF b p columns kind) f) K:=by
 have h:=M.Bj b p columns kind h_b h_columns p0 p1 p2
 obtain⟨h0,h1,h2⟩:=h
 exact k _ h0 h1 h2
theorem dg {α:Type} {K:α->Prop} {f:LPt×Int->Option α} {n_:Nat} (ih:∀(b:(List Int)),∀(p:Int),∀(columns:LC),∀(kind:Int),∀(deep:Int),(Sm (Ty.sl (Ty.int .u8)) b)->(Sm (Ty.sl ax) columns)->(M.aj b)->(0<=p)->(p+40 * (M.eB deep:Int)<=996000000000000)->(deep<=3)->(deep.toNat<n_)->1<=(M.bG n_ b p columns kind deep).1.length/\(M.bG n_ b p columns kind deep).1.length<=M.eB deep/\(∀v∈(M.bG n_ b p columns kind deep).1,v.2.2.1.2.2.1.size<=20)/\p<=(M.bG n_ b p columns kind deep).2/\(M.bG n_ b p columns kind deep).2<=p+40 * M.eB deep) {b:(List Int)} {p:Int} {columns:LC} {kind:Int} {deep:Int} (k:∀r,(1<=r.1.length)->(r.1.length<=M.eB deep)->(∀v∈r.1,v.2.2.1.2.2.1.size<=20)->(p<=r.2)->(r.2<=p+40 * M.eB deep)->ok (f r) K) (h_b:Sm (Ty.sl (Ty.int .u8)) b:=by exact au) (h_columns:Sm (Ty.sl ax) columns:=by exact au) (p0:M.aj b:=by exact au) (p1:0<=p:=by exact au) (p2:p+40 * (M.eB deep:Int)<=996000000000000:=by exact au) (p3:deep<=3:=by exact au) (p4:deep.toNat<n_:=by exact au):ok (aL (M.bG n_ b p columns kind deep) f) K:=by
 have h:=ih b p columns kind deep h_b h_columns p0 p1 p2 p3 p4
 obtain⟨h0,h1,h2,h3,h4⟩:=h
 exact k _ h0 h1 h2 h3 h4
theorem F.qc (n_:Nat) (ih:∀(b:(List Int)),∀(p:Int),∀(columns:LC),∀(kind:Int),∀(deep:Int),(Sm (Ty.sl (Ty.int .u8)) b)->(Sm (Ty.sl ax) columns)->(M.aj b)->(0<=p)->(p+40 * (M.eB deep:Int)<=996000000000000)->(deep<=3)->(deep.toNat<n_)->1<=(M.bG n_ b p columns kind deep).1.length/\(M.bG n_ b p columns kind deep).1.length<=M.eB deep/\(∀v∈(M.bG n_ b p columns kind deep).1,v.2.2.1.2.2.1.size<=20)/\p<=(M.bG n_ b p columns kind deep).2/\(M.bG n_ b p columns kind deep).2<=p+40 * M.eB deep) (b:(List Int)) (p:Int) (columns:LC) (kind:Int) (deep:Int) (h_b:Sm (Ty.sl (Ty.int .u8)) b) (h_columns:Sm (Ty.sl ax) columns) (p0:M.aj b) (p1:0<=p) (p2:p+40 * (M.eB deep:Int)<=996000000000000) (p3:deep<=3) (p4:deep.toNat<(n_+1)):ok (F.lK n_ b p columns kind deep) (fun r=>1<=r.1.length/\r.1.length<=M.eB deep/\(∀v∈r.1,v.2.2.1.2.2.1.size<=20)/\p<=r.2/\r.2<=p+40 * M.eB deep):=by
  unfold F.lK
  have hE0:=M.FX (d:=deep)
  have hE1:=M.FX (d:=wrap64 (deep-(1:Int)))
  have hE2:=M.FX (d:=wrap64 (deep-(2:Int)))
  have hE3:=M.Jb (d:=deep) p3
  have hE4:=M.IZ (d:=deep) p3
  refine IY (fun c_0=>?_) (fun c_0=>?_)
  ·refine okG ?_
   refine aA fun r1 h_1_4_0 h_1_4_1 h_1_4_2 h_1_4_3=>?_
   refine okD (fun c_1=>?_) (fun c_1=>?_)
   ·refine okG ?_
    refine okG ?_
    refine fG fun r2 h_2_3_0 h_2_3_1 h_2_3_2=>?_
    exact uC
   ·refine okD (fun c_2=>?_) (fun c_2=>?_)
    ·refine okG ?_
     refine okG ?_
     refine okG ?_
     refine okG ?_
     refine dg ih fun r3 h_4_5_0 h_4_5_1 h_4_5_2 h_4_5_3 h_4_5_4=>?_
     refine okG ?_
     refine okG ?_
     refine fG fun r4 h_4_9_0 h_4_9_1 h_4_9_2=>?_
     refine okG ?_
     refine okG ?_
     exact uC
    ·refine okD (fun c_3=>?_) (fun c_3=>?_)
     ·refine okG ?_
      refine okG ?_
      refine fG fun r5 h_6_3_0 h_6_3_1 h_6_3_2=>?_
      exact uC
     ·refine okG ?_
      refine okG ?_
      refine aA fun r6 h_7_1_0 h_7_1_1 h_7_1_2 h_7_1_3=>?_
      refine okD (fun c_4=>?_) (fun c_4=>?_)
      ·refine okG ?_
       refine okG ?_
       refine okG ?_
       refine okG ?_
       refine dg ih fun r7 h_9_4_0 h_9_4_1 h_9_4_2 h_9_4_3 h_9_4_4=>?_
       refine okG ?_
       refine okG ?_
       refine okG ?_
       refine okG ?_
       refine dg ih fun r8 h_9_9_0 h_9_9_1 h_9_9_2 h_9_9_3 h_9_9_4=>?_
       refine okG ?_
       refine okG ?_
       refine okG ?_
       refine aA fun r9 h_9_12_0 h_9_12_1 h_9_12_2 h_9_12_3=>?_
       refine okG ?_
       exact uC
      ·refine okD (fun c_5=>?_) (fun c_5=>?_)
       ·refine okG ?_
        refine okG ?_
        refine okG ?_
        refine okG ?_
        refine dg ih fun r10 h_11_4_0 h_11_4_1 h_11_4_2 h_11_4_3 h_11_4_4=>?_
        refine okG ?_
        exact uC
       ·refine okD (fun c_6=>?_) (fun c_6=>?_)
        ·refine okG ?_
         refine okG ?_
         refine aA fun r11 h_13_3_0 h_13_3_1 h_13_3_2 h_13_3_3=>?_
         refine okG ?_
         refine okG ?_
         refine okG ?_
         refine okG ?_
         refine dg ih fun r12 h_13_7_0 h_13_7_1 h_13_7_2 h_13_7_3 h_13_7_4=>?_
         refine okG ?_
         exact uC
        ·refine okG ?_
         refine okG ?_
         refine aA fun r13 h_14_1_0 h_14_1_1 h_14_1_2 h_14_1_3=>?_
         refine okG ?_
         refine okG ?_
         refine okG ?_
         refine okG ?_
         refine dg ih fun r14 h_15_5_0 h_15_5_1 h_15_5_2 h_15_5_3 h_15_5_4=>?_
         refine okG ?_
         refine okG ?_
         refine fG fun r15 h_15_9_0 h_15_9_1 h_15_9_2=>?_
         refine okG ?_
         refine okG ?_
         refine okG ?_
         refine aA fun r16 h_15_13_0 h_15_13_1 h_15_13_2 h_15_13_3=>?_
         refine okG ?_
         exact uC
  ·refine okG ?_
   refine fG fun r2 h_2_3_0 h_2_3_1 h_2_3_2=>?_
   exact uC
theorem M.pg:∀(n_:Nat),∀(b:(List Int)),∀(p:Int),∀(columns:LC),∀(kind:Int),∀(deep:Int),(Sm (Ty.sl (Ty.int .u8)) b)->(Sm (Ty.sl ax) columns)->(M.aj b)->(0<=p)->(p+40 * (M.eB deep:Int)<=996000000000000)->(deep<=3)->(deep.toNat<n_)->1<=(M.bG n_ b p columns kind deep).1.length/\(M.bG n_ b p columns kind deep).1.length<=M.eB deep/\(∀v∈(M.bG n_ b p columns kind deep).1,v.2.2.1.2.2.1.size<=20)/\p<=(M.bG n_ b p columns kind deep).2/\(M.bG n_ b p columns kind deep).2<=p+40 * M.eB deep
 | 0,b,p,columns,kind,deep,h_b,h_columns,p0,p1,p2,p3,p4=>absurd p4 (Nat.not_lt_zero _)
 | n_+1,b,p,columns,kind,deep,h_b,h_columns,p0,p1,p2,p3,p4=>fV (F.qc n_ (M.pg n_) b p columns kind deep h_b h_columns p0 p1 p2 p3 p4)
theorem F.xl (n_:Nat) (b:(List Int)) (p:Int) (columns:LC) (kind:Int) (deep:Int) (h_b:Sm (Ty.sl (Ty.int .u8)) b) (h_columns:Sm (Ty.sl ax) columns) (p0:M.aj b) (p1:0<=p) (p2:p+40 * (M.eB deep:Int)<=996000000000000) (p3:deep<=3) (p4:deep.toNat<(n_+1)):F.lK n_ b p columns kind deep=some (M.bG (n_+1) b p columns kind deep):=fS (F.qc n_ (M.pg n_) b p columns kind deep h_b h_columns p0 p1 p2 p3 p4)
theorem uT {α:Type} {K:α->Prop} {f:LPt×Int->Option α} {n_:Nat} {b:(List Int)} {p:Int} {columns:LC} {kind:Int} {deep:Int} (k:∀r,(1<=r.1.length)->(r.1.length<=M.eB deep)->(∀v∈r.1,v.2.2.1.2.2.1.size<=20)->(p<=r.2)->(r.2<=p+40 * M.eB deep)->ok (f r) K) (h_b:Sm (Ty.sl (Ty.int .u8)) b:=by exact au) (h_columns:Sm (Ty.sl ax) columns:=by exact au) (p0:M.aj b:=by exact au) (p1:0<=p:=by exact au) (p2:p+40 * (M.eB deep:Int)<=996000000000000:=by exact au) (p3:deep<=3:=by exact au) (p4:deep.toNat<n_:=by exact au):ok (aL (M.bG n_ b p columns kind deep) f) K:=by
 have h:=M.pg n_ b p columns kind deep h_b h_columns p0 p1 p2 p3 p4
 obtain⟨h0,h1,h2,h3,h4⟩:=h
 exact k _ h0 h1 h2 h3 h4
theorem F.pZ (b:(List Int)) (p:Int) (tables:LTb) (n:Int) (h_b:Sm (Ty.sl (Ty.int .u8)) b) (h_tables:Sm (Ty.sl ag) tables) (p0:M.aj b) (p1:0<=p) (p2:p<=995000000000000) (p3:(∀t∈tables,M.dP t)) (p4:(∀t∈tables,M.eZ t)) (p5:1<=tables.length) (p6:tables.length<=3) (p7:(∀t∈tables,M.jb t)):ok (F.jh b p tables n) (fun r=>M.bdD r.1/\p<=r.2/\r.2<=p+3000):=by
  unfold F.jh
  have hE2:M.eB (2:Int)=27:=by decide
  refine okG ?_
  refine aA fun r1 h_1_1_0 h_1_1_1 h_1_1_2 h_1_1_3=>?_
  refine okG ?_
  refine okG ?_
  refine aA fun r2 h_1_6_0 h_1_6_1 h_1_6_2 h_1_6_3=>?_
  have m_1_6:=cI (t:=ag) h_1_6_0 (h_1_6_1 (by omega))
  have x_1_6:=h_1_6_1 (by omega)
  have c_1_6:1<=(nth (t:=ag) tables r2.1).1.length:=p7 _ m_1_6
  refine okG ?_
  refine okG ?_
  refine okB (A:=fun e0=>p<=e0.1/\e0.1<=p+2000/\e0.2.2.1.length<=1/\e0.2.2.2.2.1.length<=27/\(∀v∈e0.2.2.2.2.1,v.2.2.1.2.2.1.size<=20)/\e0.2.2.2.2.2.length<=2) ?_ (fun e0 h_e0=>?_)
  ·refine okW (fun(_:Nat) (_:Unit)=>True) (fun _ v0 _=>?_) 0 _ trivial
   unfold F.iG
   refine okD (fun c_3=>?_) (fun c_3=>?_)
   ·refine okG ?_
    refine okG ?_
    refine okG ?_
    refine aA fun r3 h_5_3_0 h_5_3_1 h_5_3_2 h_5_3_3=>?_
    refine okG ?_
    refine okG ?_
    refine aA fun r4 h_6_1_0 h_6_1_1 h_6_1_2 h_6_1_3=>?_
    refine okD (fun c_4=>?_) (fun c_4=>?_)
    ·refine okG ?_
     refine okG ?_
     refine aA fun r5 h_7_5_0 h_7_5_1 h_7_5_2 h_7_5_3=>?_
     exact fP ⟨au,au,au,au,au,au⟩
    ·exact fP ⟨au,au,au,au,au,au⟩
   ·refine okD (fun c_5=>?_) (fun c_5=>?_)
    ·refine okG ?_
     refine okG ?_
     refine okG ?_
     refine okG ?_
     refine okG ?_
     refine uT fun r6 h_9_2_0 h_9_2_1 h_9_2_2 h_9_2_3 h_9_2_4=>?_
     exact fP ⟨au,au,au,au,au,au⟩
    ·refine okD (fun c_6=>?_) (fun c_6=>?_)
     ·refine okB (A:=fun e1=>p<=e1.1/\e1.1<=p+200/\e1.2.2.1.length<=1/\e1.2.2.2.length<=1) ?_ (fun e1 h_e1=>?_)
      ·refine okW (fun(k:Nat) (v1:Int×Int×Int×(List Int)×(List Int))=>0<=v1.1/\v1.1<=12/\12<=v1.1+(k:Int)/\p<=v1.2.1/\v1.2.1<=p+100+3 * v1.1/\v1.2.2.2.1.length<=1/\v1.2.2.2.2.length<=1) (fun k v1 hI=>?_) (12:Nat) _ ⟨au,au,au,au,au,au,au⟩
       obtain⟨i_0,i_1,i_2,i_3,i_4,i_5,i_6⟩:=hI
       unfold F.iL
       refine Fk (fun c_0=>?_) (fun c_0=>?_)
       ·refine okD (fun c_1=>?_) (fun c_1=>?_)
        ·refine okG ?_
         refine okG ?_
         refine okG ?_
         refine aA fun r7 h_14_3_0 h_14_3_1 h_14_3_2 h_14_3_3=>?_
         have m_14_3:=cI (t:=ag) h_14_3_0 (h_14_3_1 (by omega))
         have x_14_3:=h_14_3_1 (by omega)
         have c_14_3:1<=(nth (t:=ag) tables r7.1).1.length:=p7 _ m_14_3
         refine okG ?_
         refine okG ?_
         refine aA fun r8 h_15_3_0 h_15_3_1 h_15_3_2 h_15_3_3=>?_
         have x_15_3:=h_15_3_1 (by omega)
         refine okG ?_
         refine okG ?_
         refine okG ?_
         refine okG ?_
         refine aA fun r9 h_16_8_0 h_16_8_1 h_16_8_2 h_16_8_3=>?_
         have x_16_8:=h_16_8_1 (by omega)
         refine okG ?_
         refine okG ?_
         refine okG ?_
         refine okG ?_
         refine okD (fun c_2=>?_) (fun c_2=>?_)
         ·exact ia ⟨k-1,by omega,au,au,au,au,au,au,au⟩
         ·exact ia ⟨k-1,by omega,au,au,au,au,au,au,au⟩
        ·exact fP ⟨au,au,au,au⟩
       ·exact fP ⟨au,au,au,au⟩
      ·obtain⟨e1_0,e1_1,e1_2,e1_3⟩:=h_e1
       refine okG ?_
       refine okG ?_
       refine okG ?_
       refine aA fun r10 h_20_1_0 h_20_1_1 h_20_1_2 h_20_1_3=>?_
       exact fP ⟨au,au,au,au,au,au⟩
     ·exact fP ⟨au,au,au,au,au,au⟩
  ·obtain⟨e0_0,e0_1,e0_2,e0_3,e0_4,e0_5⟩:=h_e0
   refine okG ?_
   refine okG ?_
   refine cC fun r11 h_21_2_0 h_21_2_1 h_21_2_2=>?_
   refine okC (fun c_7=>?_) (fun c_7=>?_)
   ·refine okG ?_
    refine okG ?_
    refine aA fun r12 h_22_1_0 h_22_1_1 h_22_1_2 h_22_1_3=>?_
    refine okD (fun c_8=>?_) (fun c_8=>?_)
    ·refine okG ?_
     refine okG ?_
     refine aA fun r13 h_25_1_0 h_25_1_1 h_25_1_2 h_25_1_3=>?_
     exact ni
    ·refine okD (fun c_9=>?_) (fun c_9=>?_)
     ·refine okG ?_
      refine okG ?_
      refine aA fun r14 h_27_1_0 h_27_1_1 h_27_1_2 h_27_1_3=>?_
      exact ni
     ·refine okD (fun c_10=>?_) (fun c_10=>?_)
      ·refine okG ?_
       refine okG ?_
       refine aA fun r15 h_29_3_0 h_29_3_1 h_29_3_2 h_29_3_3=>?_
       refine okG ?_
       exact ni
      ·exact ni
   ·exact ni
theorem F.wL (b:(List Int)) (p:Int) (tables:LTb) (n:Int) (h_b:Sm (Ty.sl (Ty.int .u8)) b) (h_tables:Sm (Ty.sl ag) tables) (p0:M.aj b) (p1:0<=p) (p2:p<=995000000000000) (p3:(∀t∈tables,M.dP t)) (p4:(∀t∈tables,M.eZ t)) (p5:1<=tables.length) (p6:tables.length<=3) (p7:(∀t∈tables,M.jb t)):F.jh b p tables n=some (M.mT b p tables n):=fS (F.pZ b p tables n h_b h_tables p0 p1 p2 p3 p4 p5 p6 p7)
theorem M.Bu (b:(List Int)) (p:Int) (tables:LTb) (n:Int) (h_b:Sm (Ty.sl (Ty.int .u8)) b) (h_tables:Sm (Ty.sl ag) tables) (p0:M.aj b) (p1:0<=p) (p2:p<=995000000000000) (p3:(∀t∈tables,M.dP t)) (p4:(∀t∈tables,M.eZ t)) (p5:1<=tables.length) (p6:tables.length<=3) (p7:(∀t∈tables,M.jb t)):M.bdD (M.mT b p tables n).1/\p<=(M.mT b p tables n).2/\(M.mT b p tables n).2<=p+3000:=fV (F.pZ b p tables n h_b h_tables p0 p1 p2 p3 p4 p5 p6 p7)
theorem vg {α:Type} {K:α->Prop} {f:ah.D×Int->Option α} {b:(List Int)} {p:Int} {tables:LTb} {n:Int} (k:∀r,(M.bdD r.1)->(p<=r.2)->(r.2<=p+3000)->ok (f r) K) (h_b:Sm (Ty.sl (Ty.int .u8)) b:=by exact au) (h_tables:Sm (Ty.sl ag) tables:=by exact au) (p0:M.aj b:=by exact au) (p1:0<=p:=by exact au) (p2:p<=995000000000000:=by exact au) (p3:(∀t∈tables,M.dP t):=by exact au) (p4:(∀t∈tables,M.eZ t):=by exact au) (p5:1<=tables.length:=by exact au) (p6:tables.length<=3:=by exact au) (p7:(∀t∈tables,M.jb t):=by exact au):ok (aL (M.mT b p tables n) f) K:=by
 have h:=M.Bu b p tables n h_b h_tables p0 p1 p2 p3 p4 p5 p6 p7
 obtain⟨h0,h1,h2⟩:=h
 exact k _ h0 h1 h2
theorem F.oz (b:(List Int)) (p:Int) (tables:LTb) (n:Int) (h_b:Sm (Ty.sl (Ty.int .u8)) b) (h_tables:Sm (Ty.sl ag) tables) (p0:M.aj b) (p1:0<=p) (p2:p<=994000000000000) (p3:(∀t∈tables,M.dP t)) (p4:(∀t∈tables,M.eZ t)) (p5:1<=tables.length) (p6:tables.length<=3) (p7:(∀t∈tables,M.jb t)):ok (F.iz b p tables n) (fun r=>r.1.length<=3/\(∀g∈r.1,M.bdD g)/\p<=r.2/\r.2<=p+10000):=by
  unfold F.iz
  refine okG ?_
  refine aA fun r1 h_2_1_0 h_2_1_1 h_2_1_2 h_2_1_3=>?_
  have x_2_1:=h_2_1_1 (by omega)
  refine okB (A:=fun e0=>p<=e0.1/\e0.1<=p+9500/\e0.2.length<=3/\(∀g∈e0.2,M.bdD g)) ?_ (fun e0 h_e0=>?_)
  ·refine okW (fun(k:Nat) (v0:Int×Int×(List ah.D))=>0<=v0.1/\v0.1<=(k:Int)/\(v0.2.2.length:Int)+v0.1<=3/\(∀g∈v0.2.2,M.bdD g)/\p<=v0.2.1/\v0.2.1+3000 * v0.1<=p+9500) (fun k v0 hI=>?_) (3:Nat) _ ⟨au,au,au,au,au,au⟩
   obtain⟨i_0,i_1,i_2,i_3,i_4,i_5⟩:=hI
   unfold F.hD
   refine okD (fun c_0=>?_) (fun c_0=>?_)
   ·refine okG ?_
    refine okG ?_
    refine okG ?_
    refine okG ?_
    refine okG ?_
    refine okG ?_
    refine okG ?_
    refine okG ?_
    refine vg fun r2 h_5_4_0 h_5_4_1 h_5_4_2=>?_
    refine okG ?_
    exact ia ⟨k-1,by omega,au,au,au,au,au,au⟩
   ·exact fP ⟨au,au,au,au⟩
  ·obtain⟨e0_0,e0_1,e0_2,e0_3⟩:=h_e0
   exact gC
theorem F.uU (b:(List Int)) (p:Int) (tables:LTb) (n:Int) (h_b:Sm (Ty.sl (Ty.int .u8)) b) (h_tables:Sm (Ty.sl ag) tables) (p0:M.aj b) (p1:0<=p) (p2:p<=994000000000000) (p3:(∀t∈tables,M.dP t)) (p4:(∀t∈tables,M.eZ t)) (p5:1<=tables.length) (p6:tables.length<=3) (p7:(∀t∈tables,M.jb t)):F.iz b p tables n=some (M.ju b p tables n):=fS (F.oz b p tables n h_b h_tables p0 p1 p2 p3 p4 p5 p6 p7)
theorem M.zR (b:(List Int)) (p:Int) (tables:LTb) (n:Int) (h_b:Sm (Ty.sl (Ty.int .u8)) b) (h_tables:Sm (Ty.sl ag) tables) (p0:M.aj b) (p1:0<=p) (p2:p<=994000000000000) (p3:(∀t∈tables,M.dP t)) (p4:(∀t∈tables,M.eZ t)) (p5:1<=tables.length) (p6:tables.length<=3) (p7:(∀t∈tables,M.jb t)):(M.ju b p tables n).1.length<=3/\(∀g∈(M.ju b p tables n).1,M.bdD g)/\p<=(M.ju b p tables n).2/\(M.ju b p tables n).2<=p+10000:=fV (F.oz b p tables n h_b h_tables p0 p1 p2 p3 p4 p5 p6 p7)
theorem tH {α:Type} {K:α->Prop} {f:(List ah.D)×Int->Option α} {b:(List Int)} {p:Int} {tables:LTb} {n:Int} (k:∀r,(r.1.length<=3)->(∀g∈r.1,M.bdD g)->(p<=r.2)->(r.2<=p+10000)->ok (f r) K) (h_b:Sm (Ty.sl (Ty.int .u8)) b:=by exact au) (h_tables:Sm (Ty.sl ag) tables:=by exact au) (p0:M.aj b:=by exact au) (p1:0<=p:=by exact au) (p2:p<=994000000000000:=by exact au) (p3:(∀t∈tables,M.dP t):=by exact au) (p4:(∀t∈tables,M.eZ t):=by exact au) (p5:1<=tables.length:=by exact au) (p6:tables.length<=3:=by exact au) (p7:(∀t∈tables,M.jb t):=by exact au):ok (aL (M.ju b p tables n) f) K:=by
 have h:=M.zR b p tables n h_b h_tables p0 p1 p2 p3 p4 p5 p6 p7
 obtain⟨h0,h1,h2,h3⟩:=h
 exact k _ h0 h1 h2 h3
theorem F.od (b:(List Int)) (p:Int) (h_b:Sm (Ty.sl (Ty.int .u8)) b) (p0:M.aj b) (p1:0<=p) (p2:p<=993000000000000):ok (F.iy b p) (fun r=>r.1.length<=3/\1<=r.1.length/\(∀t∈r.1,M.dP t)/\r.2.1.length<=3/\(∀g∈r.2.1,M.bdD g)/\p<=r.2.2/\r.2.2<=p+30000/\(∀t∈r.1,M.eZ t)/\(∀t∈r.1,M.jb t)):=by
  unfold F.iy
  refine okG ?_
  refine sK fun r1 h_1_1_0 h_1_1_1 h_1_1_2 h_1_1_3 h_1_1_4 h_1_1_5 h_1_1_6 h_1_1_7=>?_
  have q_a:=h_1_1_5 (by decide)
  have q_b:=h_1_1_6 (by decide)
  have q_c:=h_1_1_7 (by decide)
  refine okG ?_
  refine okG ?_
  refine okG ?_
  refine okG ?_
  refine okG ?_
  refine okG ?_
  refine okG ?_
  refine okG ?_
  refine tH fun r2 h_2_2_0 h_2_2_1 h_2_2_2 h_2_2_3=>?_
  refine okB (A:=fun e0=>e0.length<=3/\1<=e0.length/\(∀t∈e0,M.dP t)/\(∀t∈e0,M.eZ t)/\(∀t∈e0,M.jb t)) ?_ (fun e0 h_e0=>?_)
  ·refine okW (fun(k:Nat) (v0:Bool×LTb)=>v0.2.length<=3/\1<=v0.2.length/\(∀t∈v0.2,M.dP t)/\(∀t∈v0.2,M.eZ t)/\(∀t∈v0.2,M.jb t)/\(v0.1=true->M.size v0.2<k)/\M.size v0.2<=k) (fun k v0 hI=>?_) (M.size r1.1+1:Nat) _ ⟨au,au,au,au,au,au,au⟩
   obtain⟨i_0,i_1,i_2,i_3,i_4,i_5,i_6⟩:=hI
   unfold F.hU
   refine okC (fun c_3=>?_) (fun c_3=>?_)
   ·have s_a:=i_5 c_3
    refine okB (A:=fun e2=>e2.2.length<=3/\1<=e2.2.length/\(∀t∈e2.2,M.dP t)/\(∀t∈e2.2,M.eZ t)/\(∀t∈e2.2,M.jb t)/\(e2.1=true->M.size e2.2<M.size v0.2)/\M.size e2.2<=M.size v0.2) ?_ (fun e2 h_e2=>?_)
    ·refine okW (fun(k:Nat) (v2:Bool×Int×LTb)=>0<=v2.2.1/\v2.2.1<=3/\3<=v2.2.1+(k:Int)/\v2.2.2.length<=3/\1<=v2.2.2.length/\(∀t∈v2.2.2,M.dP t)/\(∀t∈v2.2.2,M.eZ t)/\(∀t∈v2.2.2,M.jb t)/\(v2.1=true->M.size v2.2.2<M.size v0.2)/\M.size v2.2.2<=M.size v0.2) (fun k v2 hI=>?_) (3:Nat) _ ⟨au,au,au,au,au,au,au,au,au,au⟩
     obtain⟨i_0,i_1,i_2,i_3,i_4,i_5,i_6,i_7,i_8,i_9⟩:=hI
     unfold F.gS
     refine Fk (fun c_0=>?_) (fun c_0=>?_)
     ·refine okC (fun c_1=>?_) (fun c_1=>?_)
      ·refine okG ?_
       refine okG ?_
       refine okG ?_
       refine okG ?_
       refine okD (fun c_2=>?_) (fun c_2=>?_)
       ·have b_a:=c_2
        obtain⟨b_1,b_2,b_3,b_4⟩:=M.rG b_a
        obtain⟨t_1,t_2,t_3,t_4,t_5,t_6⟩:=M.Bs b_a
        obtain⟨d_1,d_2,d_3,d_4,d_5⟩:=M.Dn b_a i_5 i_6 i_7
        refine okG ?_
        refine okG ?_
        refine okG ?_
        refine okG ?_
        refine okG ?_
        refine okG ?_
        refine okG ?_
        refine okG ?_
        refine okL fun y1 ey1=>?_
        subst ey1
        rw[M.ER b_a]
        exact ia ⟨k-1,by omega,au,au,au,au,au,au,au,au,au,au⟩
       ·exact ia ⟨k-1,by omega,au,au,au,au,au,au,au,au,au,au⟩
      ·exact fP ⟨au,au,au,au,au,au,au⟩
     ·exact fP ⟨au,au,au,au,au,au,au⟩
    ·obtain⟨e2_0,e2_1,e2_2,e2_3,e2_4,e2_5,e2_6⟩:=h_e2
     exact ia ⟨k-1,by omega,au,au,au,au,au,fun q=>by have:=e2_5 q;show M.size e2.2<k-1;omega,by show M.size e2.2<=k-1;omega⟩
   ·exact fP ⟨au,au,au,au,au⟩
  ·obtain⟨e0_0,e0_1,e0_2,e0_3,e0_4⟩:=h_e0
   exact Ji
theorem F.vR (b:(List Int)) (p:Int) (h_b:Sm (Ty.sl (Ty.int .u8)) b) (p0:M.aj b) (p1:0<=p) (p2:p<=993000000000000):F.iy b p=some (M.dU b p):=fS (F.od b p h_b p0 p1 p2)
theorem M.zA (b:(List Int)) (p:Int) (h_b:Sm (Ty.sl (Ty.int .u8)) b) (p0:M.aj b) (p1:0<=p) (p2:p<=993000000000000):(M.dU b p).1.length<=3/\1<=(M.dU b p).1.length/\(∀t∈(M.dU b p).1,M.dP t)/\(M.dU b p).2.1.length<=3/\(∀g∈(M.dU b p).2.1,M.bdD g)/\p<=(M.dU b p).2.2/\(M.dU b p).2.2<=p+30000/\(∀t∈(M.dU b p).1,M.eZ t)/\(∀t∈(M.dU b p).1,M.jb t):=fV (F.od b p h_b p0 p1 p2)
theorem nc {α:Type} {K:α->Prop} {f:LTb×(List ah.D)×Int->Option α} {b:(List Int)} {p:Int} (k:∀r,(r.1.length<=3)->(1<=r.1.length)->(∀t∈r.1,M.dP t)->(r.2.1.length<=3)->(∀g∈r.2.1,M.bdD g)->(p<=r.2.2)->(r.2.2<=p+30000)->(∀t∈r.1,M.eZ t)->(∀t∈r.1,M.jb t)->ok (f r) K) (h_b:Sm (Ty.sl (Ty.int .u8)) b:=by exact au) (p0:M.aj b:=by exact au) (p1:0<=p:=by exact au) (p2:p<=993000000000000:=by exact au):ok (aL (M.dU b p) f) K:=by
 have h:=M.zA b p h_b p0 p1 p2
 obtain⟨h0,h1,h2,h3,h4,h5,h6,h7,h8⟩:=h
 exact k _ h0 h1 h2 h3 h4 h5 h6 h7 h8
theorem F.mR (b:(List Int)) (p:Int) (tables:LTb) (n:Int) (h_b:Sm (Ty.sl (Ty.int .u8)) b) (h_tables:Sm (Ty.sl ag) tables) (p0:M.aj b) (p1:0<=p) (p2:p<=996000000000000) (p3:(∀t∈tables,M.dP t)) (p4:(∀t∈tables,M.eZ t)) (p5:1<=tables.length):ok (F.gA b p tables n) (fun r=>r.1.2.1.length<=5/\(∀v∈r.1.2.1,v.2.2.1.size<=20)/\p<=r.2/\r.2<=p+300):=by
  unfold F.gA
  refine okG ?_
  refine aA fun r1 h_1_3_0 h_1_3_1 h_1_3_2 h_1_3_3=>?_
  refine okG ?_
  refine okG ?_
  refine aA fun r2 h_1_5_0 h_1_5_1 h_1_5_2 h_1_5_3=>?_
  have t_a:=cI (t:=ag) h_1_3_0 (h_1_3_1 (by omega))
  obtain⟨t_e1,_,t_e2⟩:=p4 _ t_a
  refine okG ?_
  refine okG ?_
  refine okG ?_
  refine okG ?_
  refine kX fun r3 h_3_3_0 h_3_3_1 h_3_3_2 h_3_3_3 h_3_3_4=>?_
  have f_a:r3.1.length<=4:=by rw[h_3_3_4 (by decide)];exact t_e1
  refine okD (fun c_0=>?_) (fun c_0=>?_)
  ·refine okD (fun c_1=>?_) (fun c_1=>?_)
   ·refine okG ?_
    refine okG ?_
    refine aA fun r4 h_7_6_0 h_7_6_1 h_7_6_2 h_7_6_3=>?_
    refine okG ?_
    refine okG ?_
    refine okL fun r5 er5=>?_
    have u_a:=cI (t:=.sl aa) h_7_6_0 (h_7_6_1 (by omega))
    have f_b:r5.length<=4:=by rw[er5];exact t_e2 _ u_a
    have f_c:∀v∈r5,v.2.2.1.size<=20:=by rw[er5];exact((p3 _ t_a).2.2 _ u_a).2
    refine okG ?_
    refine okG ?_
    refine cC fun r6 h_10_2_0 h_10_2_1 h_10_2_2=>?_
    refine okC (fun c_2=>?_) (fun c_2=>?_)
    ·refine okG ?_
     refine okG ?_
     refine aA fun r7 h_11_1_0 h_11_1_1 h_11_1_2 h_11_1_3=>?_
     refine okD (fun c_3=>?_) (fun c_3=>?_)
     ·refine okG ?_
      refine okG ?_
      refine aA fun r8 h_14_1_0 h_14_1_1 h_14_1_2 h_14_1_3=>?_
      exact gC
     ·refine okD (fun c_4=>?_) (fun c_4=>?_)
      ·refine okG ?_
       exact gC
      ·exact gC
    ·exact gC
   ·refine okG ?_
    refine okG ?_
    refine cC fun r6 h_10_2_0 h_10_2_1 h_10_2_2=>?_
    refine okC (fun c_5=>?_) (fun c_5=>?_)
    ·refine okG ?_
     refine okG ?_
     refine aA fun r7 h_11_1_0 h_11_1_1 h_11_1_2 h_11_1_3=>?_
     refine okD (fun c_6=>?_) (fun c_6=>?_)
     ·refine okG ?_
      refine okG ?_
      refine aA fun r8 h_14_1_0 h_14_1_1 h_14_1_2 h_14_1_3=>?_
      exact gC
     ·refine okD (fun c_7=>?_) (fun c_7=>?_)
      ·refine okG ?_
       exact gC
      ·exact gC
    ·exact gC
  ·refine okC (fun c_8=>?_) (fun c_8=>?_)
   ·refine okD (fun c_9=>?_) (fun c_9=>?_)
    ·refine okG ?_
     refine okG ?_
     refine aA fun r4 h_7_6_0 h_7_6_1 h_7_6_2 h_7_6_3=>?_
     refine okG ?_
     refine okG ?_
     refine okL fun r5 er5=>?_
     have u_a:=cI (t:=.sl aa) h_7_6_0 (h_7_6_1 (by omega))
     have f_b:r5.length<=4:=by rw[er5];exact t_e2 _ u_a
     have f_c:∀v∈r5,v.2.2.1.size<=20:=by rw[er5];exact((p3 _ t_a).2.2 _ u_a).2
     refine okD (fun c_10=>?_) (fun c_10=>?_)
     ·refine okG ?_
      refine okG ?_
      refine cC fun r6 h_10_2_0 h_10_2_1 h_10_2_2=>?_
      refine okC (fun c_11=>?_) (fun c_11=>?_)
      ·refine okG ?_
       refine okG ?_
       refine aA fun r7 h_11_1_0 h_11_1_1 h_11_1_2 h_11_1_3=>?_
       refine okD (fun c_12=>?_) (fun c_12=>?_)
       ·refine okG ?_
        refine okG ?_
        refine aA fun r8 h_14_1_0 h_14_1_1 h_14_1_2 h_14_1_3=>?_
        exact gC
       ·refine okD (fun c_13=>?_) (fun c_13=>?_)
        ·refine okG ?_
         exact gC
        ·exact gC
      ·exact gC
     ·refine okG ?_
      refine okG ?_
      refine cC fun r6 h_10_2_0 h_10_2_1 h_10_2_2=>?_
      refine okC (fun c_14=>?_) (fun c_14=>?_)
      ·refine okG ?_
       refine okG ?_
       refine aA fun r7 h_11_1_0 h_11_1_1 h_11_1_2 h_11_1_3=>?_
       refine okD (fun c_15=>?_) (fun c_15=>?_)
       ·refine okG ?_
        refine okG ?_
        refine aA fun r8 h_14_1_0 h_14_1_1 h_14_1_2 h_14_1_3=>?_
        exact gC
       ·refine okD (fun c_16=>?_) (fun c_16=>?_)
        ·refine okG ?_
         exact gC
        ·exact gC
      ·exact gC
    ·refine okD (fun c_17=>?_) (fun c_17=>?_)
     ·refine okG ?_
      refine okG ?_
      refine cC fun r6 h_10_2_0 h_10_2_1 h_10_2_2=>?_
      refine okC (fun c_18=>?_) (fun c_18=>?_)
      ·refine okG ?_
       refine okG ?_
       refine aA fun r7 h_11_1_0 h_11_1_1 h_11_1_2 h_11_1_3=>?_
       refine okD (fun c_19=>?_) (fun c_19=>?_)
       ·refine okG ?_
        refine okG ?_
        refine aA fun r8 h_14_1_0 h_14_1_1 h_14_1_2 h_14_1_3=>?_
        exact gC
       ·refine okD (fun c_20=>?_) (fun c_20=>?_)
        ·refine okG ?_
         exact gC
        ·exact gC
      ·exact gC
     ·refine okG ?_
      refine okG ?_
      refine cC fun r6 h_10_2_0 h_10_2_1 h_10_2_2=>?_
      refine okC (fun c_21=>?_) (fun c_21=>?_)
      ·refine okG ?_
       refine okG ?_
       refine aA fun r7 h_11_1_0 h_11_1_1 h_11_1_2 h_11_1_3=>?_
       refine okD (fun c_22=>?_) (fun c_22=>?_)
       ·refine okG ?_
        refine okG ?_
        refine aA fun r8 h_14_1_0 h_14_1_1 h_14_1_2 h_14_1_3=>?_
        exact gC
       ·refine okD (fun c_23=>?_) (fun c_23=>?_)
        ·refine okG ?_
         exact gC
        ·exact gC
      ·exact gC
   ·refine okD (fun c_24=>?_) (fun c_24=>?_)
    ·refine okG ?_
     refine okG ?_
     refine cC fun r6 h_10_2_0 h_10_2_1 h_10_2_2=>?_
     refine okC (fun c_25=>?_) (fun c_25=>?_)
     ·refine okG ?_
      refine okG ?_
      refine aA fun r7 h_11_1_0 h_11_1_1 h_11_1_2 h_11_1_3=>?_
      refine okD (fun c_26=>?_) (fun c_26=>?_)
      ·refine okG ?_
       refine okG ?_
       refine aA fun r8 h_14_1_0 h_14_1_1 h_14_1_2 h_14_1_3=>?_
       exact gC
      ·refine okD (fun c_27=>?_) (fun c_27=>?_)
       ·refine okG ?_
        exact gC
       ·exact gC
     ·exact gC
    ·refine okG ?_
     refine okG ?_
     refine cC fun r6 h_10_2_0 h_10_2_1 h_10_2_2=>?_
     refine okC (fun c_28=>?_) (fun c_28=>?_)
     ·refine okG ?_
      refine okG ?_
      refine aA fun r7 h_11_1_0 h_11_1_1 h_11_1_2 h_11_1_3=>?_
      refine okD (fun c_29=>?_) (fun c_29=>?_)
      ·refine okG ?_
       refine okG ?_
       refine aA fun r8 h_14_1_0 h_14_1_1 h_14_1_2 h_14_1_3=>?_
       exact gC
      ·refine okD (fun c_30=>?_) (fun c_30=>?_)
       ·refine okG ?_
        exact gC
       ·exact gC
     ·exact gC
theorem F.tY (b:(List Int)) (p:Int) (tables:LTb) (n:Int) (h_b:Sm (Ty.sl (Ty.int .u8)) b) (h_tables:Sm (Ty.sl ag) tables) (p0:M.aj b) (p1:0<=p) (p2:p<=996000000000000) (p3:(∀t∈tables,M.dP t)) (p4:(∀t∈tables,M.eZ t)) (p5:1<=tables.length):F.gA b p tables n=some (M.fA b p tables n):=fS (F.mR b p tables n h_b h_tables p0 p1 p2 p3 p4 p5)
theorem M.xM (b:(List Int)) (p:Int) (tables:LTb) (n:Int) (h_b:Sm (Ty.sl (Ty.int .u8)) b) (h_tables:Sm (Ty.sl ag) tables) (p0:M.aj b) (p1:0<=p) (p2:p<=996000000000000) (p3:(∀t∈tables,M.dP t)) (p4:(∀t∈tables,M.eZ t)) (p5:1<=tables.length):(M.fA b p tables n).1.2.1.length<=5/\(∀v∈(M.fA b p tables n).1.2.1,v.2.2.1.size<=20)/\p<=(M.fA b p tables n).2/\(M.fA b p tables n).2<=p+300:=fV (F.mR b p tables n h_b h_tables p0 p1 p2 p3 p4 p5)
theorem mH {α:Type} {K:α->Prop} {f:aB.D×Int->Option α} {b:(List Int)} {p:Int} {tables:LTb} {n:Int} (k:∀r,(r.1.2.1.length<=5)->(∀v∈r.1.2.1,v.2.2.1.size<=20)->(p<=r.2)->(r.2<=p+300)->ok (f r) K) (h_b:Sm (Ty.sl (Ty.int .u8)) b:=by exact au) (h_tables:Sm (Ty.sl ag) tables:=by exact au) (p0:M.aj b:=by exact au) (p1:0<=p:=by exact au) (p2:p<=996000000000000:=by exact au) (p3:(∀t∈tables,M.dP t):=by exact au) (p4:(∀t∈tables,M.eZ t):=by exact au) (p5:1<=tables.length:=by exact au):ok (aL (M.fA b p tables n) f) K:=by
 have h:=M.xM b p tables n h_b h_tables p0 p1 p2 p3 p4 p5
 obtain⟨h0,h1,h2,h3⟩:=h
 exact k _ h0 h1 h2 h3
theorem F.jt (code:(List Int)) (h_code:Sm (Ty.sl (Ty.int .u8)) code) (p0:M.aj code):ok (F.dV code) (fun r=>r.1.length<=3/\1<=r.1.length/\(∀t∈r.1,M.dP t)/\r.2.1.length<=3/\(∀g∈r.2.1,M.bdD g)/\r.2.2.2.1.length<=5/\(∀v∈r.2.2.2.1,v.2.2.1.size<=20)):=by
  unfold F.dV
  refine okD (fun c_0=>?_) (fun c_0=>?_)
  ·refine okG ?_
   refine okG ?_
   refine okG ?_
   refine okG ?_
   refine okG ?_
   refine nc fun r1 h_2_1_0 h_2_1_1 h_2_1_2 h_2_1_3 h_2_1_4 h_2_1_5 h_2_1_6 h_2_1_7 h_2_1_8=>?_
   refine okG ?_
   refine okG ?_
   refine okG ?_
   refine okG ?_
   refine okG ?_
   refine okG ?_
   refine mH fun r2 h_3_4_0 h_3_4_1 h_3_4_2 h_3_4_3=>?_
   exact IW
  ·refine okG ?_
   refine okG ?_
   refine nc fun r1 h_2_1_0 h_2_1_1 h_2_1_2 h_2_1_3 h_2_1_4 h_2_1_5 h_2_1_6 h_2_1_7 h_2_1_8=>?_
   refine okG ?_
   refine okG ?_
   refine okG ?_
   refine okG ?_
   refine okG ?_
   refine okG ?_
   refine mH fun r2 h_3_4_0 h_3_4_1 h_3_4_2 h_3_4_3=>?_
   exact IW
theorem F.pX (code:(List Int)) (h_code:Sm (Ty.sl (Ty.int .u8)) code) (p0:M.aj code):F.dV code=some (M.bT code):=fS (F.jt code h_code p0)
theorem M.lF (code:(List Int)) (h_code:Sm (Ty.sl (Ty.int .u8)) code) (p0:M.aj code):(M.bT code).1.length<=3/\1<=(M.bT code).1.length/\(∀t∈(M.bT code).1,M.dP t)/\(M.bT code).2.1.length<=3/\(∀g∈(M.bT code).2.1,M.bdD g)/\(M.bT code).2.2.2.1.length<=5/\(∀v∈(M.bT code).2.2.2.1,v.2.2.1.size<=20):=fV (F.jt code h_code p0)
theorem Ao {α:Type} {K:α->Prop} {f:LTb×(List ah.D)×aB.D->Option α} {code:(List Int)} (k:∀r,(r.1.length<=3)->(1<=r.1.length)->(∀t∈r.1,M.dP t)->(r.2.1.length<=3)->(∀g∈r.2.1,M.bdD g)->(r.2.2.2.1.length<=5)->(∀v∈r.2.2.2.1,v.2.2.1.size<=20)->ok (f r) K) (h_code:Sm (Ty.sl (Ty.int .u8)) code:=by exact au) (p0:M.aj code:=by exact au):ok (aL (M.bT code) f) K:=by
 have h:=M.lF code h_code p0
 obtain⟨h0,h1,h2,h3,h4,h5,h6⟩:=h
 exact k _ h0 h1 h2 h3 h4 h5 h6
theorem F.wT (xs:(List Int)) (h_xs:Sm (Ty.sl (Ty.int .i64)) xs):F.tM xs=some xs:=by
 exact M.vM (t:=(Ty.int .i64))
theorem F.tr (tables:LTb) (bonds:(List ah.D)) (c:aB.D) (h_tables:Sm (Ty.sl ag) tables) (h_bonds:Sm (Ty.sl ah) bonds) (h_c:Sm aB c):F.kZ tables bonds c=some (M.ck tables bonds c):=by
 unfold F.kZ M.ck
 have hN:(aP (0:Int) (bonds.length:Int)).length=bonds.length:=by simp[aP]
 have hbl:=h_bonds.1
 have ha:aZ (F.ez tables bonds c) (aP (0:Int) (bonds.length:Int)) []=some (.inl ((aP (0:Int) (bonds.length:Int)).filter fun k=>M.fj c (nth (t:=ah) bonds k))):=by
  refine M.vU (fun k=>M.fj c (nth (t:=ah) bonds k)) fun i hi s hs=>?_
  unfold F.ez M.fj
  rw[hN] at hs
  have hg:(s.length+[i].length) * 8<=lim:=by simp only[List.length_cons,List.length_nil,lim];omega
  cases c.2.2.1 with
  | true=>
   by_cases e:(nth (t:=ah) bonds i).2.1=c.1
   ·rw[decide_eq_true e]
    simp only[cond_true,cond_false,show ((true:Bool)==true)=true from rfl,show ((true:Bool)==false)=false from rfl]
    rw[aq hg]
   ·rw[decide_eq_false e]
    rfl
  | false=>
   by_cases e:(nth (t:=ah) bonds i).1=(2:Int)
   ·rw[decide_eq_true e]
    by_cases e2:(nth (t:=ah) bonds i).2.2.2.1=c.1
    ·rw[decide_eq_true e2]
     simp only[cond_true,cond_false,show ((true:Bool)==true)=true from rfl,show ((false:Bool)==true)=false from rfl,Bool.and_self]
     rw[aq hg]
    ·rw[decide_eq_false e2]
     rfl
   ·rw[decide_eq_false e]
    rfl
 cases h1:M.aU tables c with
 | false=>cases M.aH tables&&List.all bonds (M.aO tables)<;>rfl
 | true=>
 have ht:=(M.gV h1).1
 rw[ht]
 cases List.all bonds (M.aO tables) with
 | false=>rfl
 | true=>
  simp only[Bool.true_and,Bool.not_true,cond_false,cond_true,show ((false:Bool)==false)=true from rfl]
  rw[ha,cD,aq ⟨Nat.le_trans (List.length_filter_le _ _) (by rw[hN];exact hbl),fun _ _=>trivial⟩,cq,M.uc]
theorem F.vq (a:(List Int)) (b:(List Int)) (h_a:Sm (Ty.sl (Ty.int .i64)) a) (h_b:Sm (Ty.sl (Ty.int .i64)) b) (p0:a=b):F.nu a b=some true:=by
 subst p0
 unfold F.nu
 exact M.eq_eq (fun i h0 h1=>by
  unfold F.hO
  rw[aq h1]
  simp only[decide_true,Bool.not_true,show ((false:Bool)==false)=true from rfl,cond_true,cond_false,eq_self,M.wk])
theorem F.wW (rows:LLV) (row:LV) (h_rows:Sm (Ty.sl (Ty.sl aa)) rows) (h_row:Sm (Ty.sl aa) row):F.pV rows row=some (M.pP rows row:Int):=by
 unfold F.pV M.pP
 have hl:=h_rows.1
 have key:∀(l:List (List aa.D)) (v:Int),0<=v->v+(l.length:Int)<=1048576->aZ (F.gb rows row) l v=some (.inl (v+(l.countP (fun r=>decide (r=row)):Int))):=by
  intro l
  induction l with
  | nil=>intro v _ _;show some (Sum.inl v)=some (Sum.inl (v+0));rw[Int.add_zero]
  | cons x l ih=>
   intro v h0 hb
   simp only[List.length_cons] at hb
   rw[dQ,List.countP_cons,show F.gb rows row x v=cond (decide (x=row)) (some (.inl (wrap64 (v+(1:Int))))) (some (.inl v)) from rfl]
   cases decide (x=row) with
   | true=>
    rw[cond_true,aQ (n:=v+(1:Int)) (by omega) (by omega),cD,ih _ (by omega) (by omega)]
    congr 2
    simp
    omega
   | false=>
    rw[cond_false,cD,ih _ h0 (by omega)]
    congr 2
 rw[key rows 0 (by omega) (by omega),cD,Int.zero_add]
theorem F.vC (tables:LTb) (c:aB.D) (h_tables:Sm (Ty.sl ag) tables) (h_c:Sm aB c):F.nF tables c=some (M.aU tables c):=by
 unfold F.nF M.aU
 have:=h_tables.1
 rw[aQ (n:=(tables.length:Int)-(1:Int)) (by omega) (by omega),M.HR]
 cases M.aH tables<;>cases M.inR c.1 0 ((tables.length:Int)-1)<;>cases M.bI (nth (t:=ag) tables c.1).1 c.2.1<;>cases c.2.2.1<;>cases decide (((nth (t:=ag) tables c.1).2.1.length:Int)<(6:Int))<;>rfl
theorem F.sx (tables:LTb) (bonds:(List ah.D)) (c:aB.D) (h_tables:Sm (Ty.sl ag) tables) (h_bonds:Sm (Ty.sl ah) bonds) (h_c:Sm aB c):F.lg tables bonds c=some (M.ck tables bonds c):=by
 unfold F.lg M.ck
 have hN:(aP (0:Int) (bonds.length:Int)).length=bonds.length:=by simp[aP]
 have hbl:=h_bonds.1
 have ha:aZ (F.ep tables bonds c) (aP (0:Int) (bonds.length:Int)) []=some (.inl ((aP (0:Int) (bonds.length:Int)).filter fun k=>M.fj c (nth (t:=ah) bonds k))):=by
  refine M.vU (fun k=>M.fj c (nth (t:=ah) bonds k)) fun i hi s hs=>?_
  unfold F.ep M.fj
  rw[hN] at hs
  have hg:(s.length+[i].length) * 8<=lim:=by simp only[List.length_cons,List.length_nil,lim];omega
  cases c.2.2.1 with
  | true=>
   by_cases e:(nth (t:=ah) bonds i).2.1=c.1
   ·rw[decide_eq_true e]
    simp only[cond_true,cond_false,show ((true:Bool)==true)=true from rfl,show ((true:Bool)==false)=false from rfl]
    rw[aq hg]
   ·rw[decide_eq_false e]
    rfl
  | false=>
   by_cases e:(nth (t:=ah) bonds i).1=(2:Int)
   ·rw[decide_eq_true e]
    by_cases e2:(nth (t:=ah) bonds i).2.2.2.1=c.1
    ·rw[decide_eq_true e2]
     simp only[cond_true,cond_false,show ((true:Bool)==true)=true from rfl,show ((false:Bool)==true)=false from rfl,Bool.and_self]
     rw[aq hg]
    ·rw[decide_eq_false e2]
     rfl
   ·rw[decide_eq_false e]
    rfl
 cases h1:M.aU tables c with
 | false=>rfl
 | true=>
 have ht:=(M.gV h1).1
 simp only[Bool.not_true,cond_false]
 rw[fO (fun b=>M.aO tables b) () (fun b _=>by
  unfold F.fY
  rw[ht]
  cases M.aO tables b<;>rfl)]
 cases List.all bonds (M.aO tables) with
 | false=>rfl
 | true=>
  rw[ha]
  rfl
theorem F.qN (code:(List Int)) (h_code:Ln (Ty.sl (Ty.int .u8)) code) (p0:M.aj code):F.jo code=some true:=by
 unfold F.jo
 by_cases hc:(1048576:Int)<(code.length:Int)
 ·rw[decide_eq_true hc]
  rfl
 rw[decide_eq_false hc,cond_false]
 have hs:Sm (.sl (.int .u8)) code:=⟨by omega,fun _ _=>trivial⟩
 rw[aq hs,cq]
 obtain⟨d0,d1,d2,d3,d4,d5,d6⟩:=M.lF code hs p0
 generalize M.bT code=r at *
 obtain⟨ts,bs,c⟩:=r
 simp only at d0 d1 d2 d3 d4 d5 d6 ⊢
 have st:Sm (.sl ag) ts:=M.EB d0 d2 (by decide)
 have sb:Sm (.sl ah) bs:=M.BM d3 d4 (by decide)
 have hbb:∀a:Bool,Ty.beq Ty.bool a a=true:=fun a=>by cases a<;>rfl
 have sc:Sm aB c:=M.EW ⟨d5,d6⟩
 have si:Sm (.sl (.int .i64)) (M.ck ts bs c):=M.zJ sb.1
 simp only[cq]
 rw[aq st,aq sb,aq sc,aq si,aq si,M.wk]
 cases hk:M.aU ts c with
 | false=>rfl
 | true=>
 cases hh:M.bQ ts bs with
 | false=>rfl
 | true=>
  have hsi:=si.1
  obtain⟨_,hb⟩:=M.yJ hh
  have sA:=M.FT st sc hk
  simp only[Bool.not_true,cond_false,cond_true,show ((false:Bool)==false)=true from rfl]
  rw[aq (show ((M.ck ts bs c).length:Int)<=om by unfold om;omega),ql (fun k=>nth (t:=ah) bs k) (fun i hi s hs=>by
   obtain⟨i0,i1⟩:=M.FO hi
   unfold F.eW
   rw[aq i0,aq i1,aq (by simp only[List.length_cons,List.length_nil,lim];omega)]),cD,M.CZ hk (fun b hm=>(hb b hm).2.1)]
  have sf:Sm (.sl ah) (bs.filter (M.fj c)):=⟨Nat.le_trans (List.length_filter_le _ _) sb.1,fun x hx=>sb.2 x (List.mem_filter.1 hx).1⟩
  rw[aq sA,aq sf,M.Fg hk hh,hbb]
end Go.AE
