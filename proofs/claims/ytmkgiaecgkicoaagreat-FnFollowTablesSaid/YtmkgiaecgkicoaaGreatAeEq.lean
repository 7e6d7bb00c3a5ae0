/- What the functions compute is what is said. -/
import Derived.Test.YtmkgiaecgkicoaaGreatAeF
import Derived.Test.YtmkgiaecgkicoaaGreatAeLem
import Derived.Test.YtmkgiaecgkicoaaGreatAeEqI
import Derived.Test.YtmkgiaecgkicoaaGreatAeEqI
import Derived.Test.YtmkgiaecgkicoaaGreatAeEqI
import Derived.Test.YtmkgiaecgkicoaaGreatAeEqI
import Derived.Test.YtmkgiaecgkicoaaGreatAeTB
import Derived.Test.YtmkgiaecgkicoaaGreatAeTC
namespace Go.AE
open Go Go.RowKit
set_option linter.unusedVariables false
set_option linter.unusedSimpArgs false
theorem F.xX (a:LV) (b:LV) (h_a:Sm (Ty.sl aa) a) (h_b:Sm (Ty.sl aa) b) (p0:a=b):F.qf a b=some true:=by
 subst p0
 unfold F.qf
 exact M.eq_eq (fun i h0 h1=>by
  unfold F.iW
  rw[ai h1,(beq_iff (t:=aa) rfl _ _).2 rfl]
  rfl)
theorem F.wu (a:LLV) (b:LLV) (h_a:Sm (Ty.sl (Ty.sl aa)) a) (h_b:Sm (Ty.sl (Ty.sl aa)) b) (p0:a=b):F.oS a b=some true:=by
 subst p0
 unfold F.oS
 exact M.eq_eq (fun i h0 h1=>by
  unfold F.ig
  rw[ai h1]
  simp only[decide_true,Bool.not_true,show ((false:Bool)==false)=true from rfl,cond_true,cond_false,eq_self,M.so])
theorem F.tW (a:LTb) (b:LTb) (h_a:Sm (Ty.sl ag) a) (h_b:Sm (Ty.sl ag) b) (p0:a=b):F.lV a b=some true:=by
 subst p0
 unfold F.lV
 exact M.eq_eq (fun i h0 h1=>by
  unfold F.ga
  have hw:bL (F.dg a a i) (0:Int)=some (.inl ()):=by
   refine M.zW (n:=((nth (t:=ag) a i).1:List ax.D).length) (aH h_a i).1.1 (fun v v0 v1=>?_) ?_ _ 0 (Nat.zero_add _)
   ·unfold F.dg
    rw[ai h0,ai h1,decide_eq_true v1,cond_true,ai v0,ai v1,ai h1,ai v1,(beq_iff (t:=ax) rfl _ _).2 rfl]
    rfl
   ·unfold F.dg
    rw[ai h0,ai h1,decide_eq_false (Int.lt_irrefl _)]
    rfl
  rw[ai h1,M.Ey,decide_eq_true rfl]
  show bD (bL (F.dg a a i) (0:Int)) _ _=_
  rw[hw]
  rfl)
theorem F.yz (n:Int) (low:Int) (high:Int)  : F.qo n low high=some (M.inR n low high):=by
 unfold F.qo M.inR
 cases decide (low<=n)<;>rfl
theorem F.yu (s:ByteArray) (h_s:Sm Ty.str s):F.qc s=some (M.lower (bX s)):=by
 unfold F.qc M.lower
 rw[fq (fun n=>M.inR n 97 122) () (fun x hx=>by
  obtain⟨h0,h1⟩:=GZ hx
  simp only[F.je,gC,bt,aO (n:=x) (by omega) (by omega)])]
 cases (bX s).all fun n=>M.inR n 97 122<;>rfl
theorem F.wJ (v:aa.D) (h_v:Sm aa v):F.oO v=some (M.aP v):=by
 unfold F.oO M.aP M.text
 simp only[fN]
 rw[show decide ((v.2.2.1.size:Int)<=6)=decide (v.2.2.1.size<=6) from decide_eq_decide.2 (by omega)]
 simp only[Ty.beq]
 cases h0:decide (v.1=(0:Int))
 ·generalize decide (v.1=(1:Int))=b1
  generalize decide (v.1=(2:Int))=b2
  generalize decide (v.1=(3:Int))=b3
  generalize decide (v.2.1=(0:Int))=c0
  generalize decide (v.2.2.1.size<=6)=c6
  generalize M.inR v.2.1 (-9999) 9999=c1
  generalize M.inR v.2.1 0 1=c3
  generalize decide (v.2.2.1=M.none_)=e0
  cases b1<;>cases b2<;>cases b3<;>cases c0<;>cases c6<;>cases c1<;>cases c3<;>cases e0<;>rfl
 ·simp only[cond_true,Bool.true_and,Bool.and_true]
theorem F.ym (v:aa.D) (h_v:Sm aa v):F.vu v=some (M.aP v):=by
 rfl
theorem F.AQ   : F.uq  = some true:=by
 unfold F.uq
 rw[show M.aP ((1:Int),((3:Int),((⟨#[]⟩:ByteArray),())))=true from rfl,show M.aP ((9:Int),((0:Int),((⟨#[]⟩:ByteArray),())))=false from rfl]
 rfl
theorem F.tj (c:ax.D)  : F.oT c=some (!M.eJ c):=by
 rfl
theorem F.lC (xs:LC) (h_xs:Sm (Ty.sl ax) xs):F.gZ xs=some (M.idx (t:=ax) (fun e=>!M.eJ e) xs):=by
 exact dc (t:=ax) (p:=(fun e=>!M.eJ e)) (fun i h0 h1=>by simp only[F.cT,bt])
theorem F.jV (xs:LC) (h_xs:Sm (Ty.sl ax) xs):F.eg xs=some (List.any xs (fun e=>!M.eJ e)):=by
 unfold F.eg
 exact cM (t:=ax)
theorem F.uT (columns:LC) (h_columns:Sm (Ty.sl ax) columns):F.ny columns=some (M.bM columns):=by
 unfold F.ny M.bM
 rw[fN,show decide ((columns.length:Int)<=4)=decide (columns.length<=4) from decide_eq_decide.2 (by omega)]
 rw[List.all_eq_not_any_not]
theorem F.qX (v:aa.D) (h_v:Sm aa v):F.mR v=some (decide (v.1=0)):=by
 rfl
theorem F.xS (v:aa.D) (h_v:Sm aa v):F.vO v=some (!M.aP v):=by
 rfl
theorem F.kf (xs:LV) (h_xs:Sm (Ty.sl aa) xs):F.gB xs=some (M.idx (t:=aa) (fun e=>decide (e.1=0)) xs):=by
 exact dc (t:=aa) (p:=(fun e=>decide (e.1=0))) (fun i h0 h1=>by simp only[F.cG,bt])
theorem F.nB (xs:LV) (h_xs:Sm (Ty.sl aa) xs):F.jE xs=some (M.idx (t:=aa) (fun e=>!M.aP e) xs):=by
 exact dc (t:=aa) (p:=(fun e=>!M.aP e)) (fun i h0 h1=>by simp only[F.dH,bt])
theorem F.jl (xs:LV) (h_xs:Sm (Ty.sl aa) xs):F.dG xs=some (List.any xs (fun e=>decide (e.1=0))):=by
 unfold F.dG
 exact cM (t:=aa)
theorem F.lO (xs:LV) (h_xs:Sm (Ty.sl aa) xs):F.eZ xs=some (List.any xs (fun e=>!M.aP e)):=by
 unfold F.eZ
 exact cM (t:=aa)
theorem F.Be (row:LV) (h_row:Sm (Ty.sl aa) row):F.tY row=some (M.pL row):=by
 unfold F.tY M.pL
 rw[fN,show decide ((row.length:Int)<=4)=decide (row.length<=4) from decide_eq_decide.2 (by omega)]
 rw[List.all_eq_not_any_not]
theorem F.yA (columns:LC) (row:LV) (h_columns:Sm (Ty.sl ax) columns) (h_row:Sm (Ty.sl aa) row):F.qm columns row=some (M.bU columns row):=by
 unfold F.qm M.bU
 cases M.bM columns
 ·rfl
 cases M.pL row
 ·rfl
 by_cases hl:row.length=columns.length
 ·rw[fq (M.tZ columns row) () (fun i hi=>by
   obtain⟨h0,h1⟩:=cS.1 hi
   have h2:i<(columns.length:Int):=by omega
   simp only[F.iZ,ai h2]
   unfold M.tZ
   cases decide ((nth (t:=aa) row i).1=(nth (t:=ax) columns i).1)<;>cases decide ((nth (t:=aa) row i).1=(0:Int))<;>cases (nth (t:=ax) columns i).2.1<;>rfl)]
  simp only[hl,Bool.not_true,decide_true,Bool.true_and,cond_true,cond_false]
  cases (aT 0 (columns.length:Int)).all (M.tZ columns row)<;>rfl
 ·have h3:¬(row.length:Int)=(columns.length:Int):=by omega
  simp[hl,h3]
theorem F.xd (r:LV) (columns:LC) (h_r:Sm (Ty.sl aa) r) (h_columns:Sm (Ty.sl ax) columns):F.tr r columns=some (!M.bU columns r):=by
 rfl
theorem F.yf (xs:LV) (ys:LV) (h_xs:Sm (Ty.sl aa) xs) (h_ys:Sm (Ty.sl aa) ys):F.uX xs ys=some (decide (xs=ys)):=by
 exact DD (t:=aa) (fun i h0 h1 h2=>by simp only[F.jc,ai h2,gC,bt,FQ (t:=aa) rfl])
theorem F.yy (r:LV) (row:LV) (h_r:Sm (Ty.sl aa) r) (h_row:Sm (Ty.sl aa) row):F.vr r row=some (decide (r=row)):=by
 rfl
theorem F.xQ (xs:LV) (h_xs:Sm (Ty.sl aa) xs):F.uF xs=some xs:=by
 exact M.BU (t:=aa)
theorem F.AF (row:LV) (list:(List Int)) (h_row:Sm (Ty.sl aa) row) (h_list:Sm (Ty.sl (Ty.int .i64)) list) (p0:M.fm row list):F.tJ row list=some (M.taken row list):=by
 unfold F.tJ
 rw[uE (fun i=>nth (t:=aa) row i) (fun x hx s hs=>by
  have hl:=h_list.1
  obtain⟨h0,h1⟩:=p0 x hx
  simp only[F.kW]
  rw[ai h0,ai h1,ai (by unfold lim;simp;omega)])]
 show af (Sm (.sl aa) (M.taken row list)) (aL (M.taken row list) fun r:List aa.D=>some (aC r (some ((0:Int),(r.length:Int)))))=_
 rw[ai (M.gv h_row h_list)]
 simp only[bW,M.vz]
theorem F.pG (r:LV) (list:(List Int)) (key:LV) (h_r:Sm (Ty.sl aa) r) (h_list:Sm (Ty.sl (Ty.int .i64)) list) (h_key:Sm (Ty.sl aa) key) (p0:M.fm r list):F.lA r list key=some (decide (M.taken r list=key)):=by
 rfl
theorem F.nD (xs:LLV) (k0:LV) (h_xs:Sm (Ty.sl (Ty.sl aa)) xs) (h_k0:Sm (Ty.sl aa) k0):F.jT xs k0=some (M.idx (t:=(Ty.sl aa)) (fun e=>decide (e=k0)) xs):=by
 exact dc (t:=(Ty.sl aa)) (p:=(fun e=>decide (e=k0))) (fun i h0 h1=>by simp only[F.dJ,bt])
theorem F.ng (xs:LLV) (k0:LC) (h_xs:Sm (Ty.sl (Ty.sl aa)) xs) (h_k0:Sm (Ty.sl ax) k0):F.jr xs k0=some (M.idx (t:=(Ty.sl aa)) (fun e=>!M.bU k0 e) xs):=by
 exact dc (t:=(Ty.sl aa)) (p:=(fun e=>!M.bU k0 e)) (fun i h0 h1=>by simp only[F.dw,bt])
theorem F.jA (xs:LLV) (k0:(List Int)) (k1:LV) (h_xs:Sm (Ty.sl (Ty.sl aa)) xs) (h_k0:Sm (Ty.sl (Ty.int .i64)) k0) (h_k1:Sm (Ty.sl aa) k1) (p0:∀e∈xs,M.fm e k0):F.fL xs k0 k1=some (M.idx (t:=(Ty.sl aa)) (fun e=>decide (M.taken e k0=k1)) xs):=by
 exact dc (t:=(Ty.sl aa)) (p:=(fun e=>decide (M.taken e k0=k1))) (fun i h0 h1=>by simp only[F.cA,ai (p0 (nth (t:=(Ty.sl aa)) xs i) (cF (t:=(Ty.sl aa)) h0 h1)),bt])
theorem F.lq (xs:LLV) (k0:LC) (h_xs:Sm (Ty.sl (Ty.sl aa)) xs) (h_k0:Sm (Ty.sl ax) k0):F.eU xs k0=some (List.any xs (fun e=>!M.bU k0 e)):=by
 unfold F.eU
 exact cM (t:=(Ty.sl aa))
theorem F.iJ (xs:LLV) (k0:(List Int)) (k1:LV) (h_xs:Sm (Ty.sl (Ty.sl aa)) xs) (h_k0:Sm (Ty.sl (Ty.int .i64)) k0) (h_k1:Sm (Ty.sl aa) k1) (p0:∀e∈xs,M.fm e k0):F.dn xs k0 k1=some (List.any xs (fun e=>decide (M.taken e k0=k1))):=by
 unfold F.dn
 exact cM (t:=(Ty.sl aa))
theorem F.zR (columns:LC) (rows:LLV) (h_columns:Sm (Ty.sl ax) columns) (h_rows:Sm (Ty.sl (Ty.sl aa)) rows):F.sg columns rows=some (M.gF columns rows):=by
 unfold F.sg M.gF
 rw[fN,List.all_eq_not_any_not]
theorem F.tE (t:ag.D) (h_t:Sm ag t):F.lH t=some (!M.dm t):=by
 unfold F.lH M.dm
 cases hc:M.bM t.1
 ·have:M.gF t.1 t.2.1=false:=by unfold M.gF;rw[hc];rfl
  rw[this]
  simp
 by_cases h:t.2.1.length<=6
 ·have h2:¬(6:Int)<(t.2.1.length:Int):=by omega
  simp[h2,h]
 ·have h2:(6:Int)<(t.2.1.length:Int):=by omega
  simp[h2,h]
theorem F.lU (xs:LTb) (h_xs:Sm (Ty.sl ag) xs):F.iF xs=some (M.idx (t:=ag) (fun e=>!M.dm e) xs):=by
 exact dc (t:=ag) (p:=(fun e=>!M.dm e)) (fun i h0 h1=>by simp only[F.cY,bt])
theorem F.jZ (xs:LTb) (h_xs:Sm (Ty.sl ag) xs):F.eG xs=some (List.any xs (fun e=>!M.dm e)):=by
 unfold F.eG
 exact cM (t:=ag)
theorem F.wT (tables:LTb) (h_tables:Sm (Ty.sl ag) tables):F.oD tables=some (M.aF tables):=by
 unfold F.oD M.aF
 rw[fN,show decide ((tables.length:Int)<=3)=decide (tables.length<=3) from decide_eq_decide.2 (by omega)]
 rw[List.all_eq_not_any_not]
theorem F.AR (rows:LLV) (row:LV) (h_rows:Sm (Ty.sl (Ty.sl aa)) rows) (h_row:Sm (Ty.sl aa) row):F.An rows row=some (M.rowAt rows row):=by
 rfl
theorem F.wR (tables:LTb) (c:ay.D) (h_tables:Sm (Ty.sl ag) tables) (h_c:Sm ay c):F.oF tables c=some (M.aR tables c):=by
 unfold F.oF M.aR
 have:=h_tables.1
 rw[aO (n:=(tables.length:Int)-(1:Int)) (by omega) (by omega)]
 cases M.aF tables<;>cases M.inR c.1 0 ((tables.length:Int)-1)<;>cases M.bU (nth (t:=ag) tables c.1).1 c.2.1<;>cases c.2.2.1<;>cases decide (((nth (t:=ag) tables c.1).2.1.length:Int)<(6:Int))<;>rfl
theorem F.wk (rows:LLV) (h_rows:Sm (Ty.sl (Ty.sl aa)) rows):F.oR rows=some rows:=by
 unfold F.oR
 rw[uE (fun r=>r) (fun x hx s hs=>by
  have hl:=h_rows.1
  simp only[F.iz,bW,M.vz]
  rw[ai (by unfold lim;simp;omega)]),M.DQ,bO,M.zq]
theorem F.xj (xs:LC) (h_xs:Sm (Ty.sl ax) xs):F.tB xs=some xs:=by
 exact M.BU (t:=ax)
theorem F.tH (tables:LTb) (h_tables:Sm (Ty.sl ag) tables):F.lY tables=some tables:=by
 unfold F.lY
 rw[uE (fun r=>r) (fun x hx s hs=>by
  have hl:=h_tables.1
  simp only[F.gm,bW,M.vz]
  rw[ai (by unfold lim;simp;omega)]),M.DQ,bO,M.zq]
theorem F.tc (tables:LTb) (c:ay.D) (h_tables:Sm (Ty.sl ag) tables) (h_c:Sm ay c) (p0:M.aR tables c):F.kG tables c=some (M.aQ tables c):=by
 unfold F.kG
 have hp:M.aR tables c=true:=p0
 unfold M.aR at hp
 obtain⟨_,hp⟩:=Bool.and_eq_true_iff.1 hp
 obtain⟨hi,hp⟩:=Bool.and_eq_true_iff.1 hp
 obtain⟨i0,i1⟩:=M.Jf.1 hi
 obtain⟨_,hp⟩:=Bool.and_eq_true_iff.1 hp
 have sr:Sm (.sl (.sl aa)) (nth (t:=ag) tables c.1).2.1:=(aH h_tables c.1).2.1
 have sv:Sm (.sl aa) c.2.1:=h_c.2.1
 simp only[bW,M.vz]
 rw[ai i0,ai i1]
 unfold M.aQ M.jt
 have i1':c.1<(tables.length:Int):=by omega
 have hl:=sr.1
 cases hc:c.2.2.1 with
 | true=>
  have s1:Sm (.sl (.sl aa)) ((nth (t:=ag) tables c.1).2.1++[c.2.1]):=by
   rw[hc,cond_true] at hp
   have:=of_decide_eq_true hp
   refine⟨by rw[List.length_append];simp only[List.length_cons,List.length_nil];omega,fun x hx=>(List.mem_append.1 hx).elim (sr.2 x) fun hx=>by rw[List.mem_singleton.1 hx];exact sv⟩
  simp only[cond_true]
  rw[ai (by simp only[List.length_cons,List.length_nil,lim];omega),M.IZ i0 i1',M.Kn i0 i1',M.sE i0 i1',ai s1]
 | false=>
  rw[hc,cond_false] at hp
  have r0:=of_decide_eq_true hp
  have r1:M.rowAt (nth (t:=ag) tables c.1).2.1 c.2.1<((nth (t:=ag) tables c.1).2.1.length:Int):=by
   rcases JZ (t:=.sl aa) (p:=fun e=>decide (e=c.2.1)) (xs:=(nth (t:=ag) tables c.1).2.1) with h | h
   ·exact h
   ·unfold M.rowAt at r0
    rw[h] at r0
    exact absurd (show (0:Int)<=-1 from r0) (by decide)
  generalize hr:M.rowAt (nth (t:=ag) tables c.1).2.1 c.2.1=k at *
  have hw:wrap64 (k+(1:Int))=k+1:=aO (by omega) (by omega)
  have s1:Sm (.sl (.sl aa)) ((nth (t:=ag) tables c.1).2.1.take k.toNat++(nth (t:=ag) tables c.1).2.1.drop (k.toNat+1)):=by
   refine⟨by simp;omega,fun x hx=>(List.mem_append.1 hx).elim (fun h=>sr.2 x (List.mem_of_mem_take h)) fun h=>sr.2 x (List.mem_of_mem_drop h)⟩
  simp only[cond_false]
  rw[hw,show (k+1).toNat=k.toNat+1 by omega,ai sr,ai r0,ai (by omega),ai (by omega),M.IZ i0 i1',M.Kn i0 i1',M.sE i0 i1',ai s1]
theorem F.tf (tables:LTb) (c:ay.D) (h_tables:Sm (Ty.sl ag) tables) (h_c:Sm ay c):F.kq tables c=some (cond (M.aR tables c) (M.aQ tables c) [],M.aR tables c):=by
 unfold F.kq
 cases h:M.aR tables c with
 | false=>rfl
 | true=>rw[ai rfl];rfl
theorem F.uo (p:aE.D) (h_p:Sm aE p):F.lZ p=some (M.takes p):=by
 unfold F.lZ M.takes
 generalize decide (p.1=(3:Int))=c3
 generalize decide (p.1=(4:Int))=c4
 generalize decide (p.1=(5:Int))=c5
 generalize decide (p.1=(6:Int))=c6
 generalize decide (p.1=(7:Int))=c7
 generalize decide (p.1=(8:Int))=c8
 cases c3<;>cases c4<;>cases c5<;>cases c6<;>cases c7<;>cases c8<;>rfl
theorem F.yb (truth:Int)  : F.pT truth=some (M.valueOf truth):=by
 unfold F.pT M.valueOf
 cases M.inR truth 0 1<;>rfl
theorem F.Bd (vals:(List Int)) (h_vals:Sm (Ty.sl (Ty.int .i64)) vals):F.tM vals=some (M.orI vals):=by
 unfold F.tM
 suffices h:∀(A B:List Int),bD (aW (F.iU A) B ()) (fun v0:Unit=>some (0:Int)) (fun q0:Int=>some q0)=some (M.orI B) from h vals vals
 intro A B
 induction B with
 | nil=>rfl
 | cons x l ih=>
  rw[dz]
  simp only[F.iU,M.orI]
  by_cases hx:x=0
  ·simp only[hx,decide_true,Bool.not_true,cond_false,cond_true,bO]
   exact ih
  ·simp[hx]
theorem F.wW (x:Int)  : F.cmp_isNaN_int x=some false:=by
 unfold F.cmp_isNaN_int
 simp
theorem F.uw (x:Int) (y:Int)  : F.lW x y=some (M.uM x y):=by
 unfold F.lW M.uM
 simp only[cond_false,bt]
theorem F.th (x:ByteArray) (h_x:Sm Ty.str x):F.cmp_isNaN_string x=some false:=by
 unfold F.cmp_isNaN_string
 simp
theorem F.qU (x:ByteArray) (y:ByteArray) (h_x:Sm Ty.str x) (h_y:Sm Ty.str y):F.jm x y=some (M.vN x y):=by
 unfold F.jm M.vN
 simp only[cond_false,bt]
theorem F.sZ (v:aa.D) (w:aa.D) (h_v:Sm aa v) (h_w:Sm aa w):F.kD v w=some (M.order v w):=by
 unfold F.kD
 rw[ai ⟨by simp,fun _ _=>trivial⟩]
 rfl
theorem F.yc (b:Bool)  : F.qw b=some (M.bool b):=by
 unfold F.qw M.bool
 rw[bt]
theorem F.ye (kind:Int) (a:aa.D) (b:aa.D) (h_a:Sm aa a) (h_b:Sm aa b):F.qn kind a b=some (M.compare kind a b):=by
 unfold F.qn M.compare M.zE
 cases hk:M.inR kind 1 4
 ·rfl
 cases M.aP a
 ·rfl
 cases M.aP b
 ·rfl
 have h4:decide (kind=1)=false->decide (kind=2)=false->decide (kind=3)=false->decide (kind=4)=true:=by
  unfold M.inR at hk
  simp at hk ⊢
  omega
 cases decide (a.1=(0:Int))<;>cases decide (b.1=(0:Int))<;>cases decide (a.1=b.1)<;>cases h1:decide (kind=1)<;>cases h2:decide (kind=2)<;>cases h3:decide (kind=3)<;>(try rw[h4 h1 h2 h3])<;>cases decide (M.order a b=0)<;>cases decide (M.order a b<0)<;>rfl
theorem F.yG (n:Int)  : F.uI n=some (M.inR n 0 2):=by
 rfl
theorem F.Cj (a:Int) (b:Int) (alone:Int) (p0:0<=alone/\alone<=1):F.wo a b alone=some (M.fold a b alone):=by
 unfold F.wo M.fold
 rw[aO (n:=1-alone) (by omega) (by omega)]
 cases M.inR a 0 2
 ·rfl
 cases M.inR b 0 2
 ·rfl
 cases decide (a=alone)<;>cases decide (b=alone)<;>cases decide (a=2)<;>cases decide (b=2)<;>rfl
theorem F.AN (a:Int) (b:Int)  : F.uz a b=some (M.rV a b):=by
 unfold F.uz M.rV
 rw[ai (by decide)]
theorem F.xY (v:aa.D) (h_v:Sm aa v):F.qz v=some (M.cv v):=by
 unfold F.qz M.cv
 cases M.aP v<;>simp only[Bool.not_true,Bool.not_false,cond_true,cond_false,bt]
theorem F.Ck (a:Int) (b:Int)  : F.wC a b=some (M.zU a b):=by
 unfold F.wC M.zU
 rw[ai (by decide)]
theorem F.AM (a:Int)  : F.tP a=some (M.rR a):=by
 unfold F.tP M.rR
 simp only[bt]
theorem F.uf (p:aE.D) (row:LV) (inp:LV) (h_p:Sm aE p) (h_row:Sm (Ty.sl aa) row) (h_inp:Sm (Ty.sl aa) inp) (p0:(inp.length:Int)=M.takes p) (p1:M.nR p row.length) (p2:1<=p.1/\p.1<=8):F.lX p row inp=some (M.iy p row inp):=by
 unfold F.lX M.iy
 have hz:(((0:Int),(0:Int),(⟨#[]⟩:ByteArray),()):aa.D)=M.zeroV:=rfl
 by_cases e1:p.1=(1:Int)
 ·simp only[e1,decide_true,cond_true]
 by_cases e2:p.1=(2:Int)
 ·obtain⟨c0,c1⟩:=p1 e2
  simp only[e2,decide_true,cond_true,Int.reduceEq,decide_false,cond_false]
  rw[ai c0,ai c1]
 by_cases e3:p.1=(3:Int)
 ·rw[fR (.inl e3)] at p0
  simp only[e3,decide_true,cond_true,Int.reduceEq,decide_false,cond_false]
  repeat rw[ai (by omega)]
  generalize nth (t:=aa) inp 0=a
  generalize nth (t:=aa) inp 1=b
  unfold M.sum
  have hv:M.aP ((1:Int),wrap64 (a.2.1+b.2.1),(⟨#[]⟩:ByteArray),())=M.inR (wrap64 (a.2.1+b.2.1)) (-9999) 9999:=by unfold M.aP;simp
  rw[hv]
  cases decide (a.1=(0:Int))<;>cases decide (b.1=(0:Int))<;>cases M.inR (wrap64 (a.2.1+b.2.1)) (-9999) 9999<;>rfl
 by_cases e4:p.1=(4:Int)
 ·rw[fR (.inr (.inl e4))] at p0
  simp only[e4,decide_true,cond_true,Int.reduceEq,decide_false,cond_false,bW]
  repeat rw[ai (by omega)]
 by_cases e5:p.1=(5:Int)
 ·rw[fR (.inr (.inr (.inl e5)))] at p0
  simp only[e5,decide_true,cond_true,Int.reduceEq,decide_false,cond_false,bW]
  repeat rw[ai (by omega)]
 by_cases e6:p.1=(6:Int)
 ·rw[fR (.inr (.inr (.inr e6)))] at p0
  simp only[e6,decide_true,cond_true,Int.reduceEq,decide_false,cond_false,bW]
  repeat rw[ai (by omega)]
 by_cases e7:p.1=(7:Int)
 ·rw[mH (.inl e7)] at p0
  simp only[e7,decide_true,cond_true,Int.reduceEq,decide_false,cond_false,bW]
  repeat rw[ai (by omega)]
 ·simp only[e1,e2,e3,e4,e5,e6,e7,decide_false,cond_false,bW]
  have e8:p.1=(8:Int):=by
   rcases Fv p2 with h | h | h | h | h | h | h | h<;>first | exact h | exact absurd h (by assumption)
  rw[mH (.inr e8)] at p0
  rw[ai (by omega)]
theorem F.vK (row:LV) (e:LPt) (h_row:Sm (Ty.sl aa) row) (h_e:Sm (Ty.sl aE) e) (p0:M.jG row.length e):F.mU row e=some (M.ff row e):=by
 unfold F.mU M.ff
 obtain⟨h1,h2⟩:=zA (f:=F.ez row e) h_row (fun p st hp hs hl h1 hk hc=>Bc p st hp hs hl h1 hk hc) e [] h_e.2 (jh aa) (by simp;have:=p0.1;omega) p0.2
 rw[h1,bO,ai (by omega)]
theorem F.qW (list:(List Int)) (key:LV) (h_list:Sm (Ty.sl (Ty.int .i64)) list) (h_key:Sm (Ty.sl aa) key):F.mT list key=some (list,key):=by
 rfl
theorem F.tg (b:ah.D) (tables:LTb) (n:Int) (h_b:Sm ah b) (h_tables:Sm (Ty.sl ag) tables) (p0:(M.aF tables&&M.aN tables b)=true) (p1:0<=n/\n<((M.dD tables b).length:Int)):F.kL b tables n=some (M.breaks tables b n):=by
 obtain⟨ht,hb⟩:=Bool.and_eq_true_iff.1 p0
 obtain⟨⟨b0,b1⟩,hk⟩:=kz hb
 obtain⟨n0,n1⟩:=p1
 have htm:=cF (t:=ag) b0 b1
 have hrm:=cF (t:=.sl aa) n0 n1
 have hrow:=yR ht htm hrm
 unfold M.dD at n1 hrm hrow
 unfold F.kL M.breaks
 unfold M.dD
 rcases hk with⟨e1,hl⟩ | ⟨e3,he⟩ | ⟨e2,hl,ho,hl2⟩
 ·have hir:=rM ht htm hrm hl
  simp only[e1,decide_true,decide_false,cond_true,cond_false,Int.reduceEq,bW,zI]
  repeat rw[ai (by first | exact b0 | exact b1 | exact n0 | exact n1 | exact hir | exact Int.le_of_lt n1)]
  rw[ai (fun r hr=>rM ht htm (List.mem_of_mem_take hr) hl),bt]
  rfl
 ·have hs:=Bx (columns:=(nth (t:=ag) tables b.2.1).1) (e:=b.2.2.2.2.2.2.1) (by rw[he];decide)
  rw[<-hrow] at hs
  simp only[e3,decide_true,decide_false,cond_true,cond_false,Int.reduceEq,bW]
  repeat rw[ai (by first | exact b0 | exact b1 | exact n0 | exact n1 | exact hs)]
 ·have hir:=rM ht htm hrm hl
  have hom:=cF (t:=ag) ho.1 ho.2
  simp only[e2,decide_true,decide_false,cond_true,cond_false,Int.reduceEq,bW]
  repeat rw[ai (by first | exact b0 | exact b1 | exact n0 | exact n1 | exact hir | exact ho.1 | exact ho.2)]
  rw[ai (fun r hr=>rM ht hom hr hl2),bt]
  rfl
theorem F.ta (b:ah.D) (tables:LTb) (h_b:Sm ah b) (h_tables:Sm (Ty.sl ag) tables) (p0:(M.aF tables&&M.aN tables b)=true):F.kA b tables=some (M.broken tables b):=by
 obtain⟨ht,hb⟩:=Bool.and_eq_true_iff.1 p0
 obtain⟨⟨b0,b1⟩,_⟩:=kz hb
 unfold F.kA M.broken
 rw[ai b0,ai b1]
 rw[BR (M.breaks tables b) (fun i hi=>by
  simp only[F.fH]
  rw[ai p0,ai (p:=0<=i/\i<((M.dD tables b).length:Int)) (cS.1 hi),bt])]
 unfold M.dD
 cases (aT 0 ((nth (t:=ag) tables b.2.1).2.1.length:Int)).find? (M.breaks tables b)<;>rfl
theorem F.qs (b:ah.D) (out:LTb) (h_b:Sm ah b) (h_out:Sm (Ty.sl ag) out) (p0:(M.aF out&&M.aN out b)=true):F.iK b out=some (M.loose out b):=by
 unfold F.iK M.loose
 cases b.2.2.2.2.2.1<;>rfl
theorem F.Aa (b:ah.D) (tables:LTb) (h_b:Sm ah b) (h_tables:Sm (Ty.sl ag) tables) (p0:(M.aF tables&&M.aN tables b)=true):F.xA b tables=some (decide (0<=M.broken tables b)):=by
 rfl
theorem F.uy (p:aE.D) (columns:LC) (h_p:Sm aE p) (h_columns:Sm (Ty.sl ax) columns):F.lK p columns=some (M.mg p columns):=by
 unfold F.lK M.mg M.noV
 rw[mC _ h_columns.1]
 simp only[fN,show Ty.beq aa p.2.2.1 ((0:Int),(0:Int),(⟨#[]⟩:ByteArray),())=Ty.beq aa p.2.2.1 M.zeroV from rfl]
 generalize Ty.beq aa p.2.2.1 M.zeroV=nv
 by_cases e1:p.1=(1:Int)
 ·simp only[e1,decide_true,cond_true]
 by_cases e2:p.1=(2:Int)
 ·simp only[e2,decide_true,cond_true,Int.reduceEq,decide_false,cond_false]
 by_cases e4:p.1=(4:Int)
 ·simp only[e4,decide_true,cond_true,Int.reduceEq,decide_false,cond_false]
 by_cases e3:p.1=(3:Int)
 ·simp only[e3,decide_true,cond_true,Int.reduceEq,decide_false,cond_false]
  rfl
 by_cases e5:p.1=(5:Int)
 ·simp only[e5,decide_true,cond_true,Int.reduceEq,decide_false,cond_false]
  rfl
 by_cases e6:p.1=(6:Int)
 ·simp only[e6,decide_true,cond_true,Int.reduceEq,decide_false,cond_false]
  rfl
 by_cases e7:p.1=(7:Int)
 ·simp only[e7,decide_true,cond_true,Int.reduceEq,decide_false,cond_false]
  rfl
 by_cases e8:p.1=(8:Int)
 ·simp only[e8,decide_true,cond_true,Int.reduceEq,decide_false,cond_false]
  rfl
 simp only[e1,e2,e3,e4,e5,e6,e7,e8,decide_false,cond_false,FB e3 e4 e5 e6 e7 e8]
theorem F.qV (k:Int) (kind:Int)  : F.mL k kind=some (!decide (k=kind)):=by
 rfl
theorem F.wv (n:Int) (t:ag.D) (h_t:Sm ag t):F.ot n t=some (!M.inR n 0 (t.1.length-1)):=by
 unfold F.ot
 rw[mC _ h_t.1.1]
theorem F.nj (xs:(List Int)) (k0:ag.D) (h_xs:Sm (Ty.sl (Ty.int .i64)) xs) (h_k0:Sm ag k0):F.jw xs k0=some (M.idx (t:=(Ty.int .i64)) (fun e=>!M.inR e 0 (k0.1.length-1)) xs):=by
 exact dc (t:=(Ty.int .i64)) (p:=(fun e=>!M.inR e 0 (k0.1.length-1))) (fun i h0 h1=>by simp only[F.dy,bt])
theorem F.ke (xs:(List Int)) (k0:Int) (h_xs:Sm (Ty.sl (Ty.int .i64)) xs):F.gz xs k0=some (M.idx (t:=(Ty.int .i64)) (fun e=>!decide (e=k0)) xs):=by
 exact dc (t:=(Ty.int .i64)) (p:=(fun e=>!decide (e=k0))) (fun i h0 h1=>by simp only[F.cH,bt])
theorem F.lg (xs:(List Int)) (k0:ag.D) (h_xs:Sm (Ty.sl (Ty.int .i64)) xs) (h_k0:Sm ag k0):F.eS xs k0=some (List.any xs (fun e=>!M.inR e 0 (k0.1.length-1))):=by
 unfold F.eS
 exact cM (t:=(Ty.int .i64))
theorem F.jj (xs:(List Int)) (k0:Int) (h_xs:Sm (Ty.sl (Ty.int .i64)) xs):F.dF xs k0=some (List.any xs (fun e=>!decide (e=k0))):=by
 unfold F.dF
 exact cM (t:=(Ty.int .i64))
theorem F.sY (kind:Int) (ins:(List Int)) (h_ins:Sm (Ty.sl (Ty.int .i64)) ins):F.kM kind ins=some (List.all ins (fun k=>decide (k=kind))):=by
 unfold F.kM
 rw[List.all_eq_not_any_not]
theorem F.vF (p:aE.D) (columns:LC) (inp:(List Int)) (h_p:Sm aE p) (h_columns:Sm (Ty.sl ax) columns) (h_inp:Sm (Ty.sl (Ty.int .i64)) inp) (p0:M.mg p columns=true) (p1:(inp.length:Int)=M.takes p):F.nx p columns inp=some (M.cV p columns inp):=by
 unfold F.nx M.cV
 obtain⟨_,hc⟩:=zD p0
 by_cases e1:p.1=(1:Int)
 ·simp only[e1,decide_true,cond_true]
 by_cases e2:p.1=(2:Int)
 ·obtain⟨c0,c1⟩:=hc e2
  simp only[e2,decide_true,cond_true,Int.reduceEq,decide_false,cond_false]
  rw[ai c0,ai c1]
 by_cases e4:p.1=(4:Int)
 ·rw[fR (.inr (.inl e4))] at p1
  simp only[e4,decide_true,cond_true,Int.reduceEq,decide_false,cond_false]
  repeat rw[ai (by omega)]
 cases decide (p.1=(3:Int))<;>cases decide (p.1=(8:Int))<;>simp[e1,e2,e4]
theorem F.wQ (columns:LC) (e:LPt) (h_columns:Sm (Ty.sl ax) columns) (h_e:Sm (Ty.sl aE) e):F.ou columns e=some (M.dL columns e):=by
 unfold F.ou M.dL
 cases M.bM columns
 ·rfl
 by_cases hl:e.length<=12
 ·rw[decide_eq_false (show ¬(12:Int)<(e.length:Int) by omega),decide_eq_true hl]
  rw[tA e [] (by simp;omega)]
  cases M.jS columns e [] with
  | none=>rfl
  | some s=>
   match s with
   | []=>rfl
   | [a]=>exact ai (by simp)
   | a::b::l=>
    have:¬((a::b::l).length:Int)=1:=by simp;omega
    simp only[this,decide_false]
    rfl
 ·rw[decide_eq_true (show (12:Int)<(e.length:Int) by omega),decide_eq_false hl]
  rfl
theorem F.Ab (t:ag.D) (list:(List Int)) (h_t:Sm ag t) (h_list:Sm (Ty.sl (Ty.int .i64)) list):F.sy t list=some (M.cz t.1 list):=by
 unfold F.sy M.cz
 rw[fN,List.all_eq_not_any_not]
theorem F.yV (tables:LTb) (b:ah.D) (h_tables:Sm (Ty.sl ag) tables) (h_b:Sm ah b):F.rO tables b=some (M.aN tables b):=by
 unfold F.rO M.aN
 rw[mC _ h_tables.1]
 cases hin:M.inR b.2.1 0 ((tables.length:Int)-1)
 ·rfl
 simp only[fN]
 simp only[CR,Ag,Ia,Fw]
 by_cases e1:b.1=(1:Int)
 ·simp only[e1,decide_true,cond_true,Bool.not_true,Bool.true_and,show ((false:Bool)==false)=true from rfl,cond_false]
  cases decide (b.2.2.2.1=(0:Int))<;>cases decide (b.2.2.2.2.1.length=0)<;>cases M.cz (nth (t:=ag) tables b.2.1).1 b.2.2.1<;>cases b.2.2.2.2.2.1<;>cases decide (b.2.2.2.2.2.2.1.length=0)<;>rfl
 by_cases e3:b.1=(3:Int)
 ·simp only[e3,decide_true,decide_false,cond_true,cond_false,Int.reduceEq,Bool.not_true,Bool.true_and,show ((false:Bool)==false)=true from rfl]
  cases decide (b.2.2.2.1=(0:Int))<;>cases decide (b.2.2.2.2.1.length=0)<;>cases decide (M.dL (nth (t:=ag) tables b.2.1).1 b.2.2.2.2.2.2.1=3)<;>cases b.2.2.2.2.2.1<;>cases decide (b.2.2.1.length=0)<;>rfl
 by_cases e2:b.1=(2:Int)
 ·have hc:∀(x y:Bool) (z:Option Bool),cond (x==true) (cond (y==true) z z) z=z:=fun x y z=>by cases x<;>cases y<;>rfl
  simp only[e2,decide_true,decide_false,cond_true,cond_false,Int.reduceEq,Bool.not_true,Bool.true_and,show ((false:Bool)==false)=true from rfl]
  rw[hc]
  cases hof:M.inR b.2.2.2.1 0 ((tables.length:Int)-1)
  ·rfl
  cases hl1:M.cz (nth (t:=ag) tables b.2.1).1 b.2.2.1
  ·simp
  cases hl2:M.cz (nth (t:=ag) tables b.2.2.2.1).1 b.2.2.2.2.1
  ·simp
  by_cases hle:b.2.2.1.length=b.2.2.2.2.1.length
  ·cases he:decide (b.2.2.2.2.2.2.1.length=0)
   ·simp[hle]
   simp only[hle,decide_true,Bool.not_true,Bool.not_false,Bool.true_and,cond_true,cond_false]
   rw[<-hle]
   rw[fq (fun i=>decide ((nth (t:=ax) (nth (t:=ag) tables b.2.1).1 (nth (t:=.int .i64) b.2.2.1 i)).1=(nth (t:=ax) (nth (t:=ag) tables b.2.2.2.1).1 (nth (t:=.int .i64) b.2.2.2.2.1 i)).1)) () (fun i hi=>by
    obtain⟨i0,i1⟩:=cS.1 hi
    have a1:=pM hl1 (yH (t:=.int .i64) hi)
    have i2:i<(b.2.2.2.2.1.length:Int):=by omega
    have a2:=pM hl2 (cF (t:=.int .i64) i0 i2)
    have a3:=wY hof
    simp only[F.fK]
    rw[ai a1.1,ai a1.2,ai a3.1,ai (Int.lt_of_le_sub_one a3.2),ai i2,ai a2.1,ai a2.2]
    rw[gC,bt])]
   simp only[Bool.not_true,Bool.true_and,show ((false:Bool)==false)=true from rfl,cond_true,cond_false]
   cases (aT 0 (b.2.2.1.length:Int)).all fun i=>decide ((nth (t:=ax) (nth (t:=ag) tables b.2.1).1 (nth (t:=.int .i64) b.2.2.1 i)).1=(nth (t:=ax) (nth (t:=ag) tables b.2.2.2.1).1 (nth (t:=.int .i64) b.2.2.2.2.1 i)).1)<;>rfl
  ·simp[hle,Ne.symm hle]
 ·have hc:∀(x y:Bool) (z:Option Bool),cond (x==true) (cond (y==true) z z) z=z:=fun x y z=>by cases x<;>cases y<;>rfl
  simp only[e1,e2,e3,decide_false,cond_false]
  rw[hc]
  rfl
theorem F.vJ (b:ah.D) (tables:LTb) (h_b:Sm ah b) (h_tables:Sm (Ty.sl ag) tables):F.rP b tables=some (!M.aN tables b):=by
 rfl
theorem F.jU (xs:(List ah.D)) (k0:LTb) (h_xs:Sm (Ty.sl ah) xs) (h_k0:Sm (Ty.sl ag) k0) (p0:∀e∈xs,(M.aF k0&&M.aN k0 e)=true):F.fZ xs k0=some (M.idx (t:=ah) (fun e=>M.loose k0 e) xs):=by
 exact dc (t:=ah) (p:=(fun e=>M.loose k0 e)) (fun i h0 h1=>by simp only[F.cE,ai (p0 (nth (t:=ah) xs i) (cF (t:=ah) h0 h1)),bt])
theorem F.oN (xs:(List ah.D)) (k0:LTb) (h_xs:Sm (Ty.sl ah) xs) (h_k0:Sm (Ty.sl ag) k0) (p0:∀e∈xs,(M.aF k0&&M.aN k0 e)=true):F.kj xs k0=some (M.idx (t:=ah) (fun e=>decide (0<=M.broken k0 e)) xs):=by
 exact dc (t:=ah) (p:=(fun e=>decide (0<=M.broken k0 e))) (fun i h0 h1=>by simp only[F.dW,ai (p0 (nth (t:=ah) xs i) (cF (t:=ah) h0 h1)),bt])
theorem F.mj (xs:(List ah.D)) (k0:LTb) (h_xs:Sm (Ty.sl ah) xs) (h_k0:Sm (Ty.sl ag) k0):F.iL xs k0=some (M.idx (t:=ah) (fun e=>!M.aN k0 e) xs):=by
 exact dc (t:=ah) (p:=(fun e=>!M.aN k0 e)) (fun i h0 h1=>by simp only[F.dj,bt])
theorem F.mh (xs:(List ah.D)) (k0:LTb) (h_xs:Sm (Ty.sl ah) xs) (h_k0:Sm (Ty.sl ag) k0) (p0:∀e∈xs,(M.aF k0&&M.aN k0 e)=true):F.fD xs k0=some (List.any xs (fun e=>decide (0<=M.broken k0 e))):=by
 unfold F.fD
 exact cM (t:=ah)
theorem F.kB (xs:(List ah.D)) (k0:LTb) (h_xs:Sm (Ty.sl ah) xs) (h_k0:Sm (Ty.sl ag) k0):F.eM xs k0=some (List.any xs (fun e=>!M.aN k0 e)):=by
 unfold F.eM
 exact cM (t:=ah)
theorem F.BW (tables:LTb) (bonds:(List ah.D)) (h_tables:Sm (Ty.sl ag) tables) (h_bonds:Sm (Ty.sl ah) bonds) (p0:∀e∈bonds,(M.aF tables&&M.aN tables e)=true):F.BF tables bonds=some (!List.any bonds (fun e=>decide (0<=M.broken tables e))):=by
 rfl
theorem F.yD (tables:LTb) (bonds:(List ah.D)) (h_tables:Sm (Ty.sl ag) tables) (h_bonds:Sm (Ty.sl ah) bonds):F.qy tables bonds=some (M.aF tables&&List.all bonds (M.aN tables)):=by
 unfold F.qy
 rw[fN,List.all_eq_not_any_not]
theorem F.vR (tables:LTb) (bonds:(List ah.D)) (h_tables:Sm (Ty.sl ag) tables) (h_bonds:Sm (Ty.sl ah) bonds):F.mW tables bonds=some (M.bS tables bonds):=by
 unfold F.mW
 exact CI tables bonds
theorem F.CE (n:Int) (low:Int) (high:Int)  : F.wP n low high=some (M.inR n low high):=by
 unfold F.wP M.inR
 cases decide (low<=n)<;>rfl
theorem F.vq (columns:LC) (h_columns:Sm (Ty.sl ax) columns):F.nt columns=some (M.bM columns):=by
 unfold F.nt M.bM
 rw[fq M.eJ () (fun x _=>by simp only[F.gI,gC,bt]<;>rfl),show decide ((columns.length:Int)<=4)=decide (columns.length<=4) from decide_eq_decide.2 (by omega)]
 cases columns.all M.eJ<;>simp
theorem F.zn (s:ByteArray) (h_s:Sm Ty.str s):F.rH s=some (M.text s):=by
 unfold F.rH M.text M.lower
 have key:∀c:Int,(cond ((decide (c<97))==false) (cond (decide (122<c)) (some (Sum.inr ())) (some (Sum.inl ()))) (some (Sum.inr ())):Option (Sum Unit Unit))=some (cond (M.inR c 97 122) (.inl ()) (.inr ())):=by
  intro c
  unfold M.inR
  by_cases h2:c<97
  ·simp[h2,show ¬ 97<=c by omega]
  ·by_cases h3:122<c
   ·simp[h2,h3,show 97<=c by omega,show ¬c<=122 by omega]
   ·simp[h2,h3,show 97<=c by omega,show c<=122 by omega]
 rw[fq (fun i=>M.inR (nth (t:=.int .u8) (bX s) i) 97 122) () (fun i hi=>by
  obtain⟨h0,h1⟩:=cS.1 hi
  simp only[F.jM,BX h0 h1]
  exact key _)]
 rw[<-lS,GB (t:=.int .u8) (bX s) (fun n=>M.inR n 97 122),show decide (((bX s).length:Int)<=6)=decide ((bX s).length<=6) from decide_eq_decide.2 (by omega)]
 cases (bX s).all fun n=>M.inR n 97 122<;>simp
theorem F.yj (v:aa.D) (h_v:Sm aa v):F.qE v=some (M.aP v):=by
 unfold F.qE M.aP
 simp only[fN]
 simp only[bt]
theorem F.Bk (row:LV) (h_row:Sm (Ty.sl aa) row):F.tI row=some (M.pL row):=by
 unfold F.tI M.pL
 rw[fq M.aP () (fun x _=>by simp only[F.kS,gC,bt]<;>rfl),show decide ((row.length:Int)<=4)=decide (row.length<=4) from decide_eq_decide.2 (by omega)]
 cases row.all M.aP<;>simp
theorem F.xZ (columns:LC) (row:LV) (h_columns:Sm (Ty.sl ax) columns) (h_row:Sm (Ty.sl aa) row):F.pU columns row=some (M.bU columns row):=by
 unfold F.pU M.bU
 cases M.bM columns
 ·rfl
 cases M.pL row
 ·rfl
 by_cases hl:row.length=columns.length
 ·rw[fq (M.tZ columns row) () (fun i hi=>by
   obtain⟨h0,h1⟩:=cS.1 hi
   have h2:i<(columns.length:Int):=by omega
   simp only[F.iX,ai h2]
   unfold M.tZ
   cases decide ((nth (t:=aa) row i).1=(nth (t:=ax) columns i).1)<;>cases decide ((nth (t:=aa) row i).1=(0:Int))<;>cases (nth (t:=ax) columns i).2.1<;>rfl)]
  simp only[hl,Bool.not_true,decide_true,Bool.true_and,cond_true,cond_false]
  cases (aT 0 (columns.length:Int)).all (M.tZ columns row)<;>rfl
 ·have h3:¬(row.length:Int)=(columns.length:Int):=by omega
  simp[hl,h3]
theorem F.yU (columns:LC) (rows:LLV) (h_columns:Sm (Ty.sl ax) columns) (h_rows:Sm (Ty.sl (Ty.sl aa)) rows):F.sx columns rows=some (M.gF columns rows):=by
 unfold F.sx M.gF
 rw[fq (M.bU columns) () (fun x _=>by simp only[F.jN,gC,bt])]
 cases rows.all (M.bU columns)<;>simp
theorem F.wZ (tables:LTb) (h_tables:Sm (Ty.sl ag) tables):F.oE tables=some (M.aF tables):=by
 unfold F.oE M.aF
 rw[fq M.dm () (fun x _=>by
  simp only[F.iB]
  unfold M.dm
  by_cases h:x.2.1.length<=6
  ·have h2:¬(6:Int)<(x.2.1.length:Int):=by omega
   simp only[h2,h,decide_true,decide_false,Bool.true_and]
   cases M.gF x.1 x.2.1<;>rfl
  ·have h2:(6:Int)<(x.2.1.length:Int):=by omega
   simp[h2,h]),show decide ((tables.length:Int)<=3)=decide (tables.length<=3) from decide_eq_decide.2 (by omega)]
 cases tables.all M.dm<;>simp
theorem F.uk (columns:LC) (list:(List Int)) (h_columns:Sm (Ty.sl ax) columns) (h_list:Sm (Ty.sl (Ty.int .i64)) list):F.lJ columns list=some (M.cz columns list):=by
 unfold F.lJ M.cz
 rw[fq (fun n=>M.inR n 0 ((columns.length:Int)-1)) () (fun x _=>by simp only[F.gp,gC,bt,mC _ h_columns.1])]
 cases list.all fun n=>M.inR n 0 ((columns.length:Int)-1)<;>simp
theorem F.za (columns:LC) (kinds:(List Int)) (p:aE.D) (h_columns:Sm (Ty.sl ax) columns) (h_kinds:Sm (Ty.sl (Ty.int .i64)) kinds) (h_p:Sm aE p) (p0:kinds.length<=1000):F.ld columns kinds p=some (M.wX columns kinds p):=by
 obtain⟨o,s,e,_⟩:=vM (columns:=columns) p p0 h_columns.1
 unfold M.wX
 rw[e]
 rfl
theorem F.wg (columns:LC) (e:LPt) (h_columns:Sm (Ty.sl ax) columns) (h_e:Sm (Ty.sl aE) e):F.om columns e=some (M.dL columns e):=by
 unfold F.om M.dL
 cases M.bM columns
 ·rfl
 by_cases hl:e.length<=12
 ·rw[decide_eq_false (show ¬(12:Int)<(e.length:Int) by omega),decide_eq_true hl]
  obtain⟨o,s,h1,h2⟩:=AH (columns:=columns) (E:=e) (by omega) h_columns.1 e.length 0 [] (by omega) (by omega) (by simp;omega)
  rw[show (0:Int)=((0:Nat):Int) from rfl,h1]
  rw[List.drop_zero] at h2
  unfold oz at h2
  cases hk:M.jS columns e [] with
  | none=>
   rw[hk] at h2
   simp only at h2
   subst h2
   rfl
  | some s'=>
   rw[hk] at h2
   obtain⟨rfl,rfl⟩:=h2
   match s with
   | []=>rfl
   | [a]=>exact ai (by simp)
   | a::b::l=>
    have:¬((a::b::l).length:Int)=1:=by simp;omega
    simp only[Option.bind_some,this,decide_false]
    rfl
 ·rw[decide_eq_true (show (12:Int)<(e.length:Int) by omega),decide_eq_false hl]
  rfl
theorem F.Av (tables:LTb) (b:ah.D) (h_tables:Sm (Ty.sl ag) tables) (h_b:Sm ah b):F.rS tables b=some (M.aF tables&&M.aN tables b):=by
 unfold F.rS M.aN
 rw[mC _ h_tables.1]
 cases M.aF tables
 ·rfl
 cases hin:M.inR b.2.1 0 ((tables.length:Int)-1)
 ·rfl
 simp only[fN]
 simp only[CR,Ag,Ia,Fw]
 by_cases e1:b.1=(1:Int)
 ·simp only[e1,decide_true,cond_true,Bool.not_true,Bool.true_and,show ((false:Bool)==false)=true from rfl,cond_false]
 by_cases e3:b.1=(3:Int)
 ·simp only[e3,decide_true,decide_false,cond_true,cond_false,Int.reduceEq,Bool.not_true,Bool.true_and,show ((false:Bool)==false)=true from rfl]
 by_cases e2:b.1=(2:Int)
 ·simp only[e2,decide_true,decide_false,cond_true,cond_false,Int.reduceEq,Bool.not_true,Bool.true_and,show ((false:Bool)==false)=true from rfl]
  cases hof:M.inR b.2.2.2.1 0 ((tables.length:Int)-1)
  ·rfl
  cases hl1:M.cz (nth (t:=ag) tables b.2.1).1 b.2.2.1
  ·rfl
  cases hl2:M.cz (nth (t:=ag) tables b.2.2.2.1).1 b.2.2.2.2.1
  ·rfl
  by_cases hle:b.2.2.1.length=b.2.2.2.2.1.length
  ·cases he:decide (b.2.2.2.2.2.2.1.length=0)
   ·simp[hle]
   simp only[hle,decide_true,Bool.not_true,Bool.not_false,Bool.true_and,cond_true,cond_false]
   rw[<-hle]
   rw[fq (fun i=>decide ((nth (t:=ax) (nth (t:=ag) tables b.2.1).1 (nth (t:=.int .i64) b.2.2.1 i)).1=(nth (t:=ax) (nth (t:=ag) tables b.2.2.2.1).1 (nth (t:=.int .i64) b.2.2.2.2.1 i)).1)) () (fun i hi=>by
    obtain⟨i0,i1⟩:=cS.1 hi
    have a1:=pM hl1 (yH (t:=.int .i64) hi)
    have i2:i<(b.2.2.2.2.1.length:Int):=by omega
    have a2:=pM hl2 (cF (t:=.int .i64) i0 i2)
    have a3:=wY hof
    simp only[F.jX]
    rw[ai a1.1,ai a1.2,ai a3.1,ai (Int.lt_of_le_sub_one a3.2),ai i2,ai a2.1,ai a2.2]
    rw[gC,bt])]
   simp only[Bool.not_true,Bool.true_and,show ((false:Bool)==false)=true from rfl,cond_true,cond_false]
   cases (aT 0 (b.2.2.1.length:Int)).all fun i=>decide ((nth (t:=ax) (nth (t:=ag) tables b.2.1).1 (nth (t:=.int .i64) b.2.2.1 i)).1=(nth (t:=ax) (nth (t:=ag) tables b.2.2.2.1).1 (nth (t:=.int .i64) b.2.2.2.2.1 i)).1)<;>rfl
  ·simp[hle,Ne.symm hle]
 ·simp[e1,e2,e3]
theorem F.xP (truth:Int)  : F.qp truth=some (M.valueOf truth):=by
 unfold F.qp M.valueOf M.inR
 by_cases h0:truth=0
 ·subst h0;rfl
 ·by_cases h1:truth=1
  ·subst h1;rfl
  ·have h2:¬(0<=truth/\truth<=1):=by omega
   simp only[h0,h1,decide_false]
   by_cases h3:0<=truth
   ·have h4:¬truth<=1:=by omega
    simp[h3,h4]
   ·simp[h3]
theorem F.AT (a:aa.D) (b:aa.D) (h_a:Sm aa a) (h_b:Sm aa b):F.tX a b=some (M.sum a b):=by
 unfold F.tX M.sum
 have e:(0:Int)-9999=-9999:=rfl
 cases decide (a.1=(0:Int))<;>cases decide (b.1=(0:Int))<;>cases M.inR (wrap64 (a.2.1+b.2.1)) (-9999) 9999<;>rfl
theorem F.Ay (b:Bool)  : F.si b=some (M.bool b):=by
 unfold F.si M.bool
 rw[bt]
theorem F.zk (a:Int) (b:Int)  : F.rq a b=some (M.less a b):=by
 unfold F.rq M.less
 rw[bt]
theorem F.AW (a:ByteArray) (b:ByteArray) (h_a:Sm Ty.str a) (h_b:Sm Ty.str b):F.uj a b=some (M.vN a b):=by
 unfold F.uj M.vN
 simp only[bt]
theorem F.ua (a:aa.D) (b:aa.D) (h_a:Sm aa a) (h_b:Sm aa b):F.lR a b=some (M.eH a b):=by
 unfold F.lR M.eH
 cases M.aP a
 ·rfl
 cases M.aP b
 ·rfl
 unfold M.order M.less M.uM
 by_cases h1:a.1=b.1
 ·by_cases h2:a.2.1=b.2.1
  ·simp[h1,h2,M.orI]
   generalize M.vN a.2.2.1 b.2.2.1=c
   by_cases hc:c=0<;>simp[hc]
  ·rcases Int.lt_or_gt_of_ne h2 with h | h
   ·have h3:¬b.2.1<a.2.1:=Int.lt_asymm h
    simp[h1,h2,h,h3,M.orI]
    rfl
   ·have h3:¬a.2.1<b.2.1:=Int.lt_asymm h
    simp[h1,h2,h,h3,M.orI]
    rfl
 ·rcases Int.lt_or_gt_of_ne h1 with h | h
  ·have h3:¬b.1<a.1:=Int.lt_asymm h
   simp[h1,h,h3,M.orI]
   rfl
  ·have h3:¬a.1<b.1:=Int.lt_asymm h
   simp[h1,h,h3,M.orI]
   rfl
theorem F.xV (kind:Int) (a:aa.D) (b:aa.D) (h_a:Sm aa a) (h_b:Sm aa b):F.pS kind a b=some (M.compare kind a b):=by
 unfold F.pS M.compare M.eH M.zE
 cases M.inR kind 1 4
 ·rfl
 cases M.aP a
 ·rfl
 cases M.aP b
 ·rfl
 cases decide (a.1=(0:Int))<;>cases decide (b.1=(0:Int))<;>cases decide (a.1=b.1)<;>cases decide (kind=1)<;>cases decide (kind=2)<;>cases decide (kind=3)<;>rfl
theorem F.yF (n:Int)  : F.ve n=some (M.inR n 0 2):=by
 rfl
theorem F.yX (n:Int) (p0:M.inR n 0 2=true):F.sq n=some (M.sure n):=by
 have h3:n=0\/n=1\/n=2:=by
  unfold M.inR at p0
  simp at p0
  omega
 rcases h3 with rfl | rfl | rfl<;>(unfold F.sq;(repeat rw[ai (by decide)]);rfl)
theorem F.AL (a:Int) (b:Int)  : F.uB a b=some (M.rV a b):=by
 unfold F.uB M.rV M.fold
 cases ha:M.inR a 0 2
 ·rfl
 cases hb:M.inR b 0 2
 ·rfl
 have h3:∀n,M.inR n 0 2=true->n=0\/n=1\/n=2:=by
  intro n hn
  unfold M.inR at hn
  simp at hn
  omega
 rcases h3 a ha with rfl | rfl | rfl<;>rcases h3 b hb with rfl | rfl | rfl<;>(repeat rw[ai (by rfl)])<;>rfl
theorem F.yx (v:aa.D) (h_v:Sm aa v):F.qk v=some (M.cv v):=by
 unfold F.qk M.cv
 cases hv:M.aP v
 ·rfl
 simp only[Bool.not_true,cond_true,cond_false]
 unfold M.aP at hv
 by_cases h0:v.1=(0:Int)
 ·simp[h0]
 ·by_cases h1:v.1=(1:Int)
  ·simp[h1]
  ·by_cases h2:v.1=(2:Int)
   ·simp[h2]
   ·by_cases h3:v.1=(3:Int)
    ·simp[h3]
    ·simp[h0,h1,h2,h3] at hv
theorem F.CC (a:Int) (b:Int)  : F.wA a b=some (M.zU a b):=by
 unfold F.wA M.zU M.fold
 cases ha:M.inR a 0 2
 ·rfl
 cases hb:M.inR b 0 2
 ·rfl
 have h3:∀n,M.inR n 0 2=true->n=0\/n=1\/n=2:=by
  intro n hn
  unfold M.inR at hn
  simp at hn
  omega
 rcases h3 a ha with rfl | rfl | rfl<;>rcases h3 b hb with rfl | rfl | rfl<;>(repeat rw[ai (by rfl)])<;>rfl
theorem F.Bi (a:Int)  : F.tN a=some (M.rR a):=by
 unfold F.tN M.rR
 cases ha:M.inR a 0 2
 ·unfold M.inR at ha
  simp at ha
  have h0:¬a=0:=by omega
  have h1:¬a=1:=by omega
  have h2:¬a=2:=by omega
  simp[h0,h1,h2]
 ·have h3:a=0\/a=1\/a=2:=by
   unfold M.inR at ha
   simp at ha
   omega
  rcases h3 with rfl | rfl | rfl<;>(repeat rw[ai (by rfl)])<;>rfl
theorem F.Cn (row:LV) (values:LV) (p:aE.D) (h_row:Sm (Ty.sl aa) row) (h_values:Sm (Ty.sl aa) values) (h_p:Sm aE p) (p0:values.length<=1000) (p1:M.takes p<=(values.length:Int)) (p2:1<=p.1/\p.1<=8) (p3:M.nR p row.length):F.sU row values p=some (M.fz row values p):=by
 exact Ew p values (show Sm aE p from h_p) h_values p0 p1 p2 p3
theorem F.xT (row:LV) (e:LPt) (h_row:Sm (Ty.sl aa) row) (h_e:Sm (Ty.sl aE) e) (p0:M.jG row.length e):F.qh row e=some (M.ff row e):=by
 unfold F.qh M.ff
 obtain⟨h1,h2⟩:=zA (f:=F.fh row e) h_row (fun p st hp hs hl h1 hk hc=>Bo p st hs hl h1 hk hc) e [] h_e.2 (jh aa) (by simp;have:=p0.1;omega) p0.2
 rw[h1,bO,ai (by omega)]
theorem F.yl (row:LV) (list:(List Int)) (h_row:Sm (Ty.sl aa) row) (h_list:Sm (Ty.sl (Ty.int .i64)) list) (p0:M.fm row list):F.pX row list=some (M.taken row list):=by
 unfold F.pX
 rw[uE (fun i=>nth (t:=aa) row i) (fun x hx s hs=>by
  have hl:=h_list.1
  obtain⟨h0,h1⟩:=p0 x hx
  simp only[F.jf]
  rw[ai h0,ai h1,ai (by unfold lim;simp;omega)])]
 rfl
theorem F.yp (values:LV) (h_values:Sm (Ty.sl aa) values):F.qu values=some (M.gn values):=by
 unfold F.qu M.gn
 rw[Hj (fun v:aa.D=>decide (v.1=(0:Int))) () (fun x _=>by simp only[F.ja,bt])]
 cases values.any fun v:aa.D=>decide (v.1=(0:Int))<;>rfl
theorem F.zG (a:LV) (b:LV) (h_a:Sm (Ty.sl aa) a) (h_b:Sm (Ty.sl aa) b):F.xF a b=some (decide (a=b)):=by
 exact DD (t:=aa) (fun i h0 h1 h2=>by simp only[F.jL,ai h2,gC,bt,FQ (t:=aa) rfl])
theorem F.vn (tables:LTb) (b:ah.D) (h_tables:Sm (Ty.sl ag) tables) (h_b:Sm ah b) (p0:(M.aF tables&&M.aN tables b)=true):F.nu tables b=some (M.broken tables b):=by
 obtain⟨ht,hb⟩:=Bool.and_eq_true_iff.1 p0
 obtain⟨⟨b0,b1⟩,hk⟩:=kz hb
 have htm:=cF (t:=ag) b0 b1
 unfold F.nu M.broken
 repeat rw[ai (by first | exact b0 | exact b1)]
 rw[BR (M.breaks tables b) (fun i hi=>by
  have hrm:=yH (t:=.sl aa) hi
  obtain⟨n0,n1⟩:=cS.1 hi
  have hrow:=yR ht htm hrm
  have hlen:(nth (t:=ag) tables b.2.1).2.1.length<=1048576:=(aH h_tables b.2.1).2.1.1
  simp only[F.gL]
  unfold M.breaks M.dD
  rcases hk with⟨e1,hl⟩ | ⟨e3,he⟩ | ⟨e2,hl,ho,hl2⟩
  ·have hir:=rM ht htm hrm hl
   simp only[e1,decide_true,decide_false,cond_true,cond_false,Int.reduceEq,bW]
   rw[ai hir]
   cases hn:M.gn (M.taken (nth (t:=.sl aa) (nth (t:=ag) tables b.2.1).2.1 i) b.2.2.1)
   ·rw[GF i (fun j=>decide (M.taken (nth (t:=.sl aa) (nth (t:=ag) tables b.2.1).2.1 j) b.2.2.1=M.taken (nth (t:=.sl aa) (nth (t:=ag) tables b.2.1).2.1 i) b.2.2.1)) (by omega) (fun j j0=>by
     unfold F.fj
     rw[hn]
     by_cases hj:j<i
     ·have hjm:=cF (t:=.sl aa) (xs:=(nth (t:=ag) tables b.2.1).2.1) j0 (by omega)
      rw[decide_eq_true hj,if_pos hj]
      simp only[Bool.not_false,cond_true,show ((true:Bool)==true)=true from rfl,bW]
      rw[ai j0,ai (show j<((nth (t:=ag) tables b.2.1).2.1.length:Int) by omega),ai (rM ht htm hjm hl)]
      generalize decide (M.taken (nth (t:=.sl aa) (nth (t:=ag) tables b.2.1).2.1 j) b.2.2.1=M.taken (nth (t:=.sl aa) (nth (t:=ag) tables b.2.1).2.1 i) b.2.2.1)=c
      cases c<;>rfl
     ·rw[decide_eq_false hj,if_neg hj]
      rfl) i.toNat 0 (by omega) (by omega)]
    rw[HR (t:=.sl aa) (nth (t:=ag) tables b.2.1).2.1 (fun r=>decide (M.taken r b.2.2.1=M.taken (nth (t:=.sl aa) (nth (t:=ag) tables b.2.1).2.1 i) b.2.2.1)) n0 (by omega)]
    generalize ((nth (t:=ag) tables b.2.1).2.1.take i.toNat).any (fun r=>decide (M.taken r b.2.2.1=M.taken (nth (t:=.sl aa) (nth (t:=ag) tables b.2.1).2.1 i) b.2.2.1))=c
    cases c<;>rfl
   ·rw[bQ]
    unfold F.fj
    rw[hn]
    cases decide ((0:Int)<i)<;>rfl
  ·have hs:=Bx (columns:=(nth (t:=ag) tables b.2.1).1) (e:=b.2.2.2.2.2.2.1) (by rw[he];decide)
   rw[<-hrow] at hs
   simp only[e3,decide_true,decide_false,cond_true,cond_false,Int.reduceEq,bW]
   rw[ai hs,bt]
  ·have hir:=rM ht htm hrm hl
   have hom:=cF (t:=ag) ho.1 ho.2
   have hlen2:(nth (t:=ag) tables b.2.2.2.1).2.1.length<=1048576:=(aH h_tables b.2.2.2.1).2.1.1
   simp only[e2,decide_true,decide_false,cond_true,cond_false,Int.reduceEq,bW]
   rw[ai hir]
   rw[CZ ((nth (t:=ag) tables b.2.2.2.1).2.1.length:Int) (fun j=>decide (M.taken (nth (t:=.sl aa) (nth (t:=ag) tables b.2.2.2.1).2.1 j) b.2.2.2.2.1=M.taken (nth (t:=.sl aa) (nth (t:=ag) tables b.2.1).2.1 i) b.2.2.1)) (by omega) (fun f j j0=>by
    unfold F.gJ
    simp only
    rw[ai ho.1,ai ho.2]
    by_cases hj:j<((nth (t:=ag) tables b.2.2.2.1).2.1.length:Int)
    ·have hjm:=cF (t:=.sl aa) (xs:=(nth (t:=ag) tables b.2.2.2.1).2.1) j0 hj
     rw[decide_eq_true hj,if_pos hj]
     cases f with
     | true=>rfl
     | false=>
      simp only[Bool.not_false,cond_true,cond_false,show ((true:Bool)==true)=true from rfl,bW]
      rw[ai j0]
      repeat rw[ai (by first | exact hj | exact rM ht hom hjm hl2)]
    ·rw[decide_eq_false hj,if_neg hj]
     rfl) _ _ 0 rfl (by omega)]
   rw[BC (t:=.sl aa) (nth (t:=ag) tables b.2.2.2.1).2.1 (fun r=>decide (M.taken r b.2.2.2.2.1=M.taken (nth (t:=.sl aa) (nth (t:=ag) tables b.2.1).2.1 i) b.2.2.1))]
   generalize (nth (t:=ag) tables b.2.2.2.1).2.1.any (fun r=>decide (M.taken r b.2.2.2.2.1=M.taken (nth (t:=.sl aa) (nth (t:=ag) tables b.2.1).2.1 i) b.2.2.1))=c
   generalize M.gn (M.taken (nth (t:=.sl aa) (nth (t:=ag) tables b.2.1).2.1 i) b.2.2.1)=d
   cases c<;>cases d<;>rfl)]
 unfold M.dD
 cases (aT 0 ((nth (t:=ag) tables b.2.1).2.1.length:Int)).find? (M.breaks tables b)<;>rfl
theorem F.uA (tables:LTb) (b:ah.D) (h_tables:Sm (Ty.sl ag) tables) (h_b:Sm ah b):F.lP tables b=some (M.aJ tables b):=by
 unfold F.lP M.aJ
 cases h:(M.aF tables&&M.aN tables b)<;>rfl
theorem F.vA (tables:LTb) (bonds:(List ah.D)) (h_tables:Sm (Ty.sl ag) tables) (h_bonds:Sm (Ty.sl ah) bonds):F.nA tables bonds=some (M.bS tables bonds):=by
 unfold F.nA M.bS
 rw[fq (fun b=>decide (M.aJ tables b=-1)) () (fun x _=>by simp only[F.gM,gC,bt]),show decide ((bonds.length:Int)<=4)=decide (bonds.length<=4) from decide_eq_decide.2 (by omega)]
 cases bonds.all fun b=>decide (M.aJ tables b=-1)<;>simp
theorem F.Bn (row:LV) (h_row:Sm (Ty.sl aa) row):F.zu row=some row:=by
 rfl
theorem F.vt (tables:LTb) (h_tables:Sm (Ty.sl ag) tables):F.mV tables=some tables:=by
 unfold F.mV
 rw[M.xR (t:=ag) tables (fun i s i0 i1 hs=>by
  have hl:=h_tables.1
  have hr:(nth (t:=ag) tables i).2.1.length<=1048576:=(aH h_tables i).2.1.1
  unfold F.gK
  rw[M.EM (t:=.sl aa) (nth (t:=ag) tables i).2.1 (fun j w j0 j1 hw=>by
   unfold F.fy
   simp only[bW]
   rw[ai i0,ai i1,decide_eq_true j1,cond_true,ai j0,ai j1,ai (by unfold lim;simp;omega),aO (n:=j+1) (by omega) (by omega)]) (fun j w j0 j1=>by
   unfold F.fy
   simp only
   rw[ai i0,ai i1,decide_eq_false (Int.not_lt.2 j1),cond_false])]
  show af _ _=_
  rw[ai (by unfold lim;simp;omega)]
  rfl)]
 rfl
theorem F.yo (rows:LLV) (row:LV) (h_rows:Sm (Ty.sl (Ty.sl aa)) rows) (h_row:Sm (Ty.sl aa) row):F.qB rows row=some (M.bq rows row:Int):=by
 unfold F.qB M.bq
 have hl:=h_rows.1
 have key:∀(l:List (List aa.D)) (v:Int),0<=v->v+(l.length:Int)<=1048576->aW (F.gu rows row) l v=some (.inl (v+(l.countP (fun r=>decide (r=row)):Int))):=by
  intro l
  induction l with
  | nil=>intro v _ _;show some (Sum.inl v)=some (Sum.inl (v+0));rw[Int.add_zero]
  | cons x l ih=>
   intro v h0 hb
   simp only[List.length_cons] at hb
   rw[dz,List.countP_cons,show F.gu rows row x v=cond (decide (x=row)) (some (.inl (wrap64 (v+(1:Int))))) (some (.inl v)) from rfl]
   cases decide (x=row) with
   | true=>
    rw[cond_true,aO (n:=v+(1:Int)) (by omega) (by omega),bO,ih _ (by omega) (by omega)]
    congr 2
    simp
    omega
   | false=>
    rw[cond_false,bO,ih _ h0 (by omega)]
    congr 2
 rw[key rows 0 (by omega) (by omega),bO,Int.zero_add]
theorem F.wz (tables:LTb) (c:ay.D) (h_tables:Sm (Ty.sl ag) tables) (h_c:Sm ay c):F.oP tables c=some (M.aR tables c):=by
 unfold F.oP M.aR
 have:=h_tables.1
 rw[aO (n:=(tables.length:Int)-(1:Int)) (by omega) (by omega),M.IV]
 cases M.aF tables<;>cases M.inR c.1 0 ((tables.length:Int)-1)<;>cases M.bU (nth (t:=ag) tables c.1).1 c.2.1<;>cases c.2.2.1<;>cases decide (((nth (t:=ag) tables c.1).2.1.length:Int)<(6:Int))<;>rfl
theorem F.wN (a:LLV) (b:LLV) (h_a:Sm (Ty.sl (Ty.sl aa)) a) (h_b:Sm (Ty.sl (Ty.sl aa)) b):F.og a b=some (M.dX a b):=by
 unfold F.og M.dX
 rw[M.DO (b:=b) h_a (fun z s hl h1 h2=>by
  have:=h_a.1
  unfold F.ij M.cW
  rw[ai h2]
  cases decide ((M.bq s.2 z:Int)<(M.bq b z:Int)) with
  | true=>
   rw[cond_true,cond_true,ai (by simp only[List.length_cons,List.length_nil,lim];omega)]
  | false=>
   rw[cond_false,cond_false]
   try rw[bW]
   rw[ai (by simp only[List.length_cons,List.length_nil,lim];omega)])]
 rfl
theorem F.sX (tables:LTb) (c:ay.D) (h_tables:Sm (Ty.sl ag) tables) (h_c:Sm ay c):F.kJ tables c=some (cond (M.aR tables c) (M.aQ tables c) [],M.aR tables c):=by
 unfold F.kJ
 cases h:M.aR tables c with
 | false=>rfl
 | true=>
  obtain⟨h1,⟨h2,h3⟩,h4,h5,h6⟩:=M.ir h
  have sr:Sm (.sl (.sl aa)) (nth (t:=ag) tables c.1).2.1:=(aH (t:=ag) h_tables c.1).2.1
  have hl:=(M.pZ h1 h2 h3).1
  unfold M.rowsOf at hl
  simp only[bW,Bool.not_true,cond_false,cond_true]
  unfold M.aQ M.jt
  cases hc:c.2.2.1 with
  | true=>
   simp only[cond_true]
   rw[ai h2,ai h3,ai (by simp only[List.length_cons,List.length_nil,lim];omega),ai (by rw[List.length_set];exact h3),M.IZ h2 h3]
  | false=>
   have h7:=h6 hc
   unfold M.rowsOf at h7
   simp only[cond_false]
   rw[ai h2,ai h3,ai sr,M.Hi _ _ h7]
theorem F.su (tables:LTb) (bonds:(List ah.D)) (c:ay.D) (h_tables:Sm (Ty.sl ag) tables) (h_bonds:Sm (Ty.sl ah) bonds) (h_c:Sm ay c):F.jF tables bonds c=some (M.aU tables bonds c):=by
 unfold F.jF M.aU
 have hbl:=h_bonds.1
 obtain⟨e0,_⟩:=vZ (f:=F.ep tables bonds c (cond (M.aR tables c) (M.aQ tables c) [])) (fun v b=>v&&(M.aF tables&&M.aN tables b)) (fun _=>True) (xs:=bonds) (s:=M.aR tables c) trivial (fun b _ v _=>by
  refine⟨?_,trivial⟩
  unfold F.ep
  cases v<;>rfl)
 rw[M.Dr (fun b=>M.aF tables&&M.aN tables b)] at e0
 simp only[bW]
 rw[e0,bO]
 cases hc:M.aR tables c with
 | false=>rfl
 | true=>
 have ht:=(M.ir hc).1
 rw[ht]
 simp only[Bool.true_and]
 cases ho:List.all bonds (M.aN tables) with
 | false=>
  rw[Bool.and_false]
  rfl
 | true=>
 rw[Bool.and_true]
 by_cases hl:bonds.length<=4
 case neg=>
  rw[decide_eq_true (show (4:Int)<(bonds.length:Int) by omega),decide_eq_false hl]
  rfl
 rw[decide_eq_false (show ¬(4:Int)<(bonds.length:Int) by omega),decide_eq_true hl]
 have hB:=M.nQ hc ho
 have sA:=M.uD h_tables h_c hc
 have hw0:=M.xN (bonds:=bonds) (f:=F.ee tables bonds c) (fun A=>rfl) (fun A hA hs=>by
  have hp0:=M.EE (bonds:=bonds) (A:=A) (f:=F.cK tables bonds c) hl (fun k k0 k1=>by
   have hb:nth (t:=ah) bonds k∈bonds:=cF (t:=ah) k0 k1
   generalize hbe:nth (t:=ah) bonds k=b at hb ⊢
   unfold F.cK
   simp only
   rw[hbe,decide_eq_true k1,ai k0,ai k1,ai hs,ai (show (M.aF A&&M.aN A b)=true by rw[hA.1,hA.2 b hb];rfl),aO (n:=k+1) (by omega) (by omega)]
   simp only[Bool.not_false,cond_true,show ((true:Bool)==true)=true from rfl]
   cases hf:b.2.2.2.2.2.1 with
   | false=>
    have:M.loose A b=false:=by unfold M.loose;rw[hf];rfl
    rw[this]
    rfl
   | true=>
    by_cases hk:(0:Int)<=M.broken A b
    ·have hp:M.loose A b=true:=by unfold M.loose;rw[hf,decide_eq_true hk];rfl
     obtain⟨h0,h1⟩:=M.mM hA hb
     obtain⟨l0,l1,l2,_⟩:=M.jv hp
     have hrl:=(M.pZ hA.1 h0 h1).1
     have sr:Sm (.sl (.sl aa)) (nth (t:=ag) A b.2.1).2.1:=(aH (t:=ag) hs b.2.1).2.1
     unfold M.dD at l2
     unfold M.rowsOf at hrl
     have hw:wrap64 (M.broken A b+1)=M.broken A b+1:=aO (by omega) (by omega)
     rw[hp,decide_eq_true hk]
     simp only[cond_true,show ((true:Bool)==true)=true from rfl]
     rw[ai h0,ai h1,ai hk,ai (by omega),zI,hw,vj _ (by omega) (by omega),show (M.broken A b+1).toNat=(M.broken A b).toNat+1 by omega]
     rw[ai (by simp only[List.length_nil,List.length_take,lim];omega),ai (by omega),ai (by omega),ai (by simp only[List.nil_append,List.length_take,List.length_drop,lim];omega)]
     rfl
    ·have hp:M.loose A b=false:=by unfold M.loose;rw[hf,decide_eq_false hk];rfl
     rw[hp,decide_eq_false hk]
     rfl) (fun k B=>by
   unfold F.cK
   simp only
   cases decide (k<(bonds.length:Int))<;>rfl) (fun k hk=>by
   unfold F.cK
   simp only
   rw[decide_eq_false hk]
   rfl) bonds.length 0 (by simp) (Int.le_refl _)
  unfold F.ee
  rw[show ((0:Int).toNat)=0 from rfl,List.drop_zero] at hp0
  simp only[cond_true]
  rw[hp0]
  cases bonds.find? (M.loose A)<;>rfl) 19 hB sA (Nat.lt_succ_of_le (M.size_le hB.1))
 have sF:=M.sP (bonds:=bonds) 19 sA
 simp only[cond_true,cond_false,Bool.not_true,show ((false:Bool)==false)=true from rfl,Bool.and_self,Bool.true_and]
 rw[hw0,Option.bind_some,ai sF]
 cases M.bS (M.follow bonds 19 (M.aQ tables c)) bonds<;>rfl
theorem F.rE (tables:LTb) (bonds:(List ah.D)) (c:ay.D) (h_tables:Sm (Ty.sl ag) tables) (h_bonds:Sm (Ty.sl ah) bonds) (h_c:Sm ay c):F.jO tables bonds c=some (M.aU tables bonds c):=by
 unfold F.jO M.aU
 cases hc:M.aR tables c with
 | false=>rfl
 | true=>
 by_cases hl:bonds.length<=4
 case neg=>
  rw[decide_eq_true (show (4:Int)<(bonds.length:Int) by omega),decide_eq_false hl]
  rfl
 rw[decide_eq_false (show ¬(4:Int)<(bonds.length:Int) by omega),decide_eq_true hl,(M.ir hc).1]
 cases ho:List.all bonds (M.aN tables) with
 | false=>rfl
 | true=>
 have hB:=M.nQ hc ho
 have sA:=M.uD h_tables h_c hc
 have hw0:=M.vI (bonds:=bonds) (f:=F.dZ tables bonds c) (fun A hA hs=>by
  have hi:=M.Dv (t:=ah) (M.loose A) bonds
  have hall:∀e∈bonds,(M.aF A&&M.aN A e)=true:=fun e he=>by rw[hA.1,hA.2 e he];rfl
  unfold F.dZ
  rw[ai hs,ai hall]
  cases hf:bonds.find? (M.loose A) with
  | none=>
   rw[hf] at hi
   simp only at hi
   rw[show (M.idx (t:=ah) (fun e=>M.loose A e) bonds)=-1 from hi]
   rfl
  | some b=>
   rw[hf] at hi
   simp only at hi
   obtain⟨i0,i1,i2⟩:=hi
   have hb:=List.mem_of_find?_eq_some hf
   have hp:=List.find?_some hf
   obtain⟨h0,h1⟩:=M.mM hA hb
   obtain⟨l0,l1,l2,_⟩:=M.jv hp
   have hrl:=(M.pZ hA.1 h0 h1).1
   have sr:Sm (.sl (.sl aa)) (nth (t:=ag) A b.2.1).2.1:=(aH (t:=ag) hs b.2.1).2.1
   unfold M.dD at l2
   unfold M.rowsOf at hrl
   have hw:wrap64 (M.broken A b+1)=M.broken A b+1:=aO (by omega) (by omega)
   rw[decide_eq_false (show ¬(M.idx (t:=ah) (fun e=>M.loose A e) bonds)<(0:Int) from Int.not_lt.2 i0),cond_false,ai i0,ai i1,show (nth (t:=ah) bonds (M.idx (t:=ah) (fun e=>M.loose A e) bonds))=b from i2]
   have hk:0<=M.broken A b:=l1
   rw[ai (hall b hb),ai h0,ai h1,ai hk,hw,ai (by omega),ai (by omega),show (M.broken A b+1).toNat=(M.broken A b).toNat+1 by omega,ai (M.oK sr _)]
   simp only[bW,M.vz]
   rw[ai (by rw[List.length_set];exact h1),M.IZ h0 h1]
   rfl) 19 hB sA (Nat.lt_succ_of_le (M.size_le hB.1))
 obtain⟨_,r2,_,_⟩:=M.jy 19 hB (Nat.lt_succ_of_le (M.size_le hB.1))
 have sF:=M.sP (bonds:=bonds) 19 sA
 simp only[bW,cond_true,cond_false,Bool.not_true,show ((false:Bool)==false)=true from rfl,Bool.and_self,Bool.true_and]
 rw[hw0,Option.bind_some,ai sF,ai (fun e he=>by rw[r2.1,r2.2 e he];rfl),M.Jl hl r2.1 r2.2]
 cases List.any bonds (fun e=>decide (0<=M.broken (M.follow bonds 19 (M.aQ tables c)) e))<;>rfl
theorem F.vG (b:(List Int)) (p:Int) (n:Int) (h_b:Sm (Ty.sl (Ty.int .u8)) b) (p0:M.ak b) (p1:0<=p) (p2:p<=1000000000000000):ok (F.oX b p n) (fun r=>0<=r.1/\(1<=n->r.1<n)/\(n<1->r.1=0)/\r.2=p+1):=by
 unfold F.oX
 have hw:wrap64 (p+1)=p+1:=aO (by omega) (by omega)
 have hw2:wrap64 (p+1-1)=p:=by rw[show p+1-1=p by omega];exact aO (by omega) (by omega)
 simp only[hw,hw2]
 refine Kr (fun c0=>?_) (fun c0=>?_)
 ·refine okD (fun c1=>?_) (fun c1=>?_)
  ·exact okS ⟨by dsimp only;omega,fun h=>by dsimp only;omega,fun h=>rfl,rfl⟩
  ·have hl:1<=(b.length:Int):=by omega
   refine okD (fun c2=>?_) (fun c2=>?_)
   ·refine okG (okG (okG (okS ?_)))
    have:=M.GM (M.wF p0 p) (n:=n) (by omega)
    exact⟨this.1,fun _=>this.2,fun h=>by omega,rfl⟩
   ·obtain⟨t0,t1⟩:=M.qH p1 hl
    have h7:wrap64 (wrap64 (p * 7)+3)=p * 7+3:=by rw[aO (n:=p * 7) (by omega) (by omega),aO (by omega) (by omega)]
    obtain⟨t2,t3⟩:=M.qH (a:=p * 7+3) (by omega) hl
    rw[h7]
    refine okG (okG (okG (okG (okG (okG (okS ?_))))))
    have:=M.Iv (M.wF p0 (p.tmod (b.length:Int))) (M.wF p0 ((p * 7+3).tmod (b.length:Int))) p1 p2 (M.FJ p1 hl) (n:=n) (by omega)
    exact⟨this.1,fun _=>this.2,fun h=>by omega,rfl⟩
 ·exact okS ⟨by dsimp only;omega,fun h=>by omega,fun h=>rfl,rfl⟩
theorem F.CF (b:(List Int)) (p:Int) (n:Int) (h_b:Sm (Ty.sl (Ty.int .u8)) b) (p0:M.ak b) (p1:0<=p) (p2:p<=1000000000000000):F.oX b p n=some (M.pick b p n):=gf (F.vG b p n h_b p0 p1 p2)
theorem M.FZ (b:(List Int)) (p:Int) (n:Int) (h_b:Sm (Ty.sl (Ty.int .u8)) b) (p0:M.ak b) (p1:0<=p) (p2:p<=1000000000000000):0<=(M.pick b p n).1/\(1<=n->(M.pick b p n).1<n)/\(n<1->(M.pick b p n).1=0)/\(M.pick b p n).2=p+1:=gr (F.vG b p n h_b p0 p1 p2)
theorem az {α:Type} {K:α->Prop} {f:Int×Int->Option α} {b:(List Int)} {p:Int} {n:Int} (k:∀r,(0<=r.1)->(1<=n->r.1<n)->(n<1->r.1=0)->(r.2=p+1)->ok (f r) K) (h_b:Sm (Ty.sl (Ty.int .u8)) b:=by exact au) (p0:M.ak b:=by exact au) (p1:0<=p:=by exact au) (p2:p<=1000000000000000:=by exact au):ok (aL (M.pick b p n) f) K:=by
 have h:=M.FZ b p n h_b p0 p1 p2
 obtain⟨h0,h1,h2,h3⟩:=h
 exact k _ h0 h1 h2 h3
theorem F.xH (b:(List Int)) (p:Int) (n:Int) (h_b:Sm (Ty.sl (Ty.int .u8)) b) (p0:M.ak b) (p1:0<=p) (p2:p<=999000000000000):ok (F.rX b p n) (fun r=>(n<1->r.1=false)/\p<=r.2/\r.2<=p+1):=by
  unfold F.rX
  refine Dz (fun c_0=>?_) (fun c_0=>?_)
  ·refine okG ?_
   refine az fun r1 h_1_5_0 h_1_5_1 h_1_5_2 h_1_5_3=>?_
   exact oB
  ·exact oB
theorem F.CQ (b:(List Int)) (p:Int) (n:Int) (h_b:Sm (Ty.sl (Ty.int .u8)) b) (p0:M.ak b) (p1:0<=p) (p2:p<=999000000000000):F.rX b p n=some (M.odd b p n):=gf (F.xH b p n h_b p0 p1 p2)
theorem M.Hz (b:(List Int)) (p:Int) (n:Int) (h_b:Sm (Ty.sl (Ty.int .u8)) b) (p0:M.ak b) (p1:0<=p) (p2:p<=999000000000000):(n<1->(M.odd b p n).1=false)/\p<=(M.odd b p n).2/\(M.odd b p n).2<=p+1:=gr (F.xH b p n h_b p0 p1 p2)
theorem cO {α:Type} {K:α->Prop} {f:Bool×Int->Option α} {b:(List Int)} {p:Int} {n:Int} (k:∀r,(n<1->r.1=false)->(p<=r.2)->(r.2<=p+1)->ok (f r) K) (h_b:Sm (Ty.sl (Ty.int .u8)) b:=by exact au) (p0:M.ak b:=by exact au) (p1:0<=p:=by exact au) (p2:p<=999000000000000:=by exact au):ok (aL (M.odd b p n) f) K:=by
 have h:=M.Hz b p n h_b p0 p1 p2
 obtain⟨h0,h1,h2⟩:=h
 exact k _ h0 h1 h2
theorem F.mQ (b:(List Int)) (p:Int) (n:Int) (h_b:Sm (Ty.sl (Ty.int .u8)) b) (p0:M.ak b) (p1:0<=p) (p2:p<=998000000000000):ok (F.gA b p n) (fun r=>1<=r.1.length/\r.1.length<=6/\p<=r.2/\r.2<=p+20):=by
  unfold F.gA
  refine okG ?_
  refine az fun r1 h_2_1_0 h_2_1_1 h_2_1_2 h_2_1_3=>?_
  refine okB (A:=fun e0=>p<=e0.1/\e0.1<=p+10/\1<=e0.2.length/\e0.2.length<=3) ?_ (fun e0 h_e0=>?_)
  ·refine okW (fun(k:Nat) (v0:Int×Int×LC)=>0<=v0.1/\v0.1<=(k:Int)/\(v0.2.2.length:Int)+v0.1<=3/\1<=(v0.2.2.length:Int)+v0.1/\p<=v0.2.1/\v0.2.1+2 * v0.1<=p+10) (fun k v0 hI=>?_) (3:Nat) _ ⟨au,au,au,au,au,au⟩
   obtain⟨i_0,i_1,i_2,i_3,i_4,i_5⟩:=hI
   unfold F.gi
   refine okD (fun c_0=>?_) (fun c_0=>?_)
   ·refine okG ?_
    refine okG ?_
    refine okG ?_
    refine az fun r2 h_5_3_0 h_5_3_1 h_5_3_2 h_5_3_3=>?_
    refine okG ?_
    refine okG ?_
    refine okG ?_
    refine okG ?_
    refine az fun r3 h_5_7_0 h_5_7_1 h_5_7_2 h_5_7_3=>?_
    refine okG ?_
    exact fc ⟨k-1,by omega,au,au,au,au,au,au⟩
   ·exact fF ⟨au,au,au,au⟩
  ·obtain⟨e0_0,e0_1,e0_2,e0_3⟩:=h_e0
   refine okG ?_
   refine okG ?_
   refine cO fun r4 h_6_2_0 h_6_2_1 h_6_2_2=>?_
   refine okC (fun c_1=>?_) (fun c_1=>?_)
   ·refine okG ?_
    refine okG ?_
    refine az fun r5 h_7_2_0 h_7_2_1 h_7_2_2 h_7_2_3=>?_
    refine okG ?_
    exact JW
   ·exact JW
theorem F.uc (b:(List Int)) (p:Int) (n:Int) (h_b:Sm (Ty.sl (Ty.int .u8)) b) (p0:M.ak b) (p1:0<=p) (p2:p<=998000000000000):F.gA b p n=some (M.gq b p n):=gf (F.mQ b p n h_b p0 p1 p2)
theorem M.xW (b:(List Int)) (p:Int) (n:Int) (h_b:Sm (Ty.sl (Ty.int .u8)) b) (p0:M.ak b) (p1:0<=p) (p2:p<=998000000000000):1<=(M.gq b p n).1.length/\(M.gq b p n).1.length<=6/\p<=(M.gq b p n).2/\(M.gq b p n).2<=p+20:=gr (F.mQ b p n h_b p0 p1 p2)
theorem sW {α:Type} {K:α->Prop} {f:LC×Int->Option α} {b:(List Int)} {p:Int} {n:Int} (k:∀r,(1<=r.1.length)->(r.1.length<=6)->(p<=r.2)->(r.2<=p+20)->ok (f r) K) (h_b:Sm (Ty.sl (Ty.int .u8)) b:=by exact au) (p0:M.ak b:=by exact au) (p1:0<=p:=by exact au) (p2:p<=998000000000000:=by exact au):ok (aL (M.gq b p n) f) K:=by
 have h:=M.xW b p n h_b p0 p1 p2
 obtain⟨h0,h1,h2,h3⟩:=h
 exact k _ h0 h1 h2 h3
theorem F.qR (b:(List Int)) (p:Int) (c:ax.D) (h_b:Sm (Ty.sl (Ty.int .u8)) b) (p0:M.ak b) (p1:0<=p) (p2:p<=998000000000000):ok (F.jW b p c) (fun r=>r.1.2.2.1.size<=20/\p<=r.2/\r.2<=p+3):=by
  unfold F.jW
  refine okC (fun c_0=>?_) (fun c_0=>?_)
  ·refine okG ?_
   refine az fun r1 h_1_4_0 h_1_4_1 h_1_4_2 h_1_4_3=>?_
   refine okD (fun c_1=>?_) (fun c_1=>?_)
   ·exact oB
   ·refine okD (fun c_2=>?_) (fun c_2=>?_)
    ·refine okG ?_
     refine okG ?_
     refine az fun r2 h_5_1_0 h_5_1_1 h_5_1_2 h_5_1_3=>?_
     exact oB
    ·refine okD (fun c_3=>?_) (fun c_3=>?_)
     ·refine okG ?_
      refine okG ?_
      refine az fun r3 h_7_2_0 h_7_2_1 h_7_2_2 h_7_2_3=>?_
      refine okG ?_
      refine okG ?_
      exact oB
     ·refine okG ?_
      refine okG ?_
      refine az fun r4 h_8_1_0 h_8_1_1 h_8_1_2 h_8_1_3=>?_
      exact oB
  ·refine okD (fun c_4=>?_) (fun c_4=>?_)
   ·refine okG ?_
    refine az fun r2 h_5_1_0 h_5_1_1 h_5_1_2 h_5_1_3=>?_
    exact oB
   ·refine okD (fun c_5=>?_) (fun c_5=>?_)
    ·refine okG ?_
     refine az fun r3 h_7_2_0 h_7_2_1 h_7_2_2 h_7_2_3=>?_
     refine okG ?_
     refine okG ?_
     exact oB
    ·refine okG ?_
     refine az fun r4 h_8_1_0 h_8_1_1 h_8_1_2 h_8_1_3=>?_
     exact oB
theorem F.yE (b:(List Int)) (p:Int) (c:ax.D) (h_b:Sm (Ty.sl (Ty.int .u8)) b) (p0:M.ak b) (p1:0<=p) (p2:p<=998000000000000):F.jW b p c=some (M.kX b p c):=gf (F.qR b p c h_b p0 p1 p2)
theorem M.Cp (b:(List Int)) (p:Int) (c:ax.D) (h_b:Sm (Ty.sl (Ty.int .u8)) b) (p0:M.ak b) (p1:0<=p) (p2:p<=998000000000000):(M.kX b p c).1.2.2.1.size<=20/\p<=(M.kX b p c).2/\(M.kX b p c).2<=p+3:=gr (F.qR b p c h_b p0 p1 p2)
theorem pn {α:Type} {K:α->Prop} {f:aa.D×Int->Option α} {b:(List Int)} {p:Int} {c:ax.D} (k:∀r,(r.1.2.2.1.size<=20)->(p<=r.2)->(r.2<=p+3)->ok (f r) K) (h_b:Sm (Ty.sl (Ty.int .u8)) b:=by exact au) (p0:M.ak b:=by exact au) (p1:0<=p:=by exact au) (p2:p<=998000000000000:=by exact au):ok (aL (M.kX b p c) f) K:=by
 have h:=M.Cp b p c h_b p0 p1 p2
 obtain⟨h0,h1,h2⟩:=h
 exact k _ h0 h1 h2
theorem F.pe (b:(List Int)) (p:Int) (n:Int) (h_b:Sm (Ty.sl (Ty.int .u8)) b) (p0:M.ak b) (p1:0<=p) (p2:p<=998000000000000):ok (F.iV b p n) (fun r=>r.1.2.2.1.size<=20/\p<=r.2/\r.2<=p+20):=by
  unfold F.iV
  refine okG ?_
  refine az fun r1 h_2_1_0 h_2_1_1 h_2_1_2 h_2_1_3=>?_
  refine okB (A:=fun e0=>p<=e0.1/\e0.1<=p+12/\e0.2.2.2.size<=3) ?_ (fun e0 h_e0=>?_)
  ·refine okW (fun(_:Nat) (_:Unit)=>True) (fun _ v0 _=>?_) 0 _ trivial
   unfold F.iq
   refine okD (fun c_1=>?_) (fun c_1=>?_)
   ·exact fF ⟨au,au,au⟩
   ·refine okD (fun c_2=>?_) (fun c_2=>?_)
    ·refine okG ?_
     refine okG ?_
     refine okG ?_
     refine az fun r2 h_8_1_0 h_8_1_1 h_8_1_2 h_8_1_3=>?_
     refine okG ?_
     refine okG ?_
     refine az fun r3 h_9_1_0 h_9_1_1 h_9_1_2 h_9_1_3=>?_
     refine okD (fun c_3=>?_) (fun c_3=>?_)
     ·refine okG ?_
      refine okG ?_
      refine az fun r4 h_10_2_0 h_10_2_1 h_10_2_2 h_10_2_3=>?_
      refine okG ?_
      refine okG ?_
      exact fF ⟨au,au,au⟩
     ·exact fF ⟨au,au,au⟩
    ·refine okD (fun c_4=>?_) (fun c_4=>?_)
     ·refine okG ?_
      refine okG ?_
      refine okG ?_
      refine az fun r2 h_8_1_0 h_8_1_1 h_8_1_2 h_8_1_3=>?_
      refine okG ?_
      refine okG ?_
      refine az fun r3 h_9_1_0 h_9_1_1 h_9_1_2 h_9_1_3=>?_
      refine okD (fun c_5=>?_) (fun c_5=>?_)
      ·refine okG ?_
       refine okG ?_
       refine az fun r4 h_10_2_0 h_10_2_1 h_10_2_2 h_10_2_3=>?_
       refine okG ?_
       refine okG ?_
       exact fF ⟨au,au,au⟩
      ·exact fF ⟨au,au,au⟩
     ·refine okD (fun c_6=>?_) (fun c_6=>?_)
      ·refine okG ?_
       refine okG ?_
       refine okG ?_
       refine az fun r2 h_8_1_0 h_8_1_1 h_8_1_2 h_8_1_3=>?_
       refine okG ?_
       refine okG ?_
       refine az fun r3 h_9_1_0 h_9_1_1 h_9_1_2 h_9_1_3=>?_
       refine okD (fun c_7=>?_) (fun c_7=>?_)
       ·refine okG ?_
        refine okG ?_
        refine az fun r4 h_10_2_0 h_10_2_1 h_10_2_2 h_10_2_3=>?_
        refine okG ?_
        refine okG ?_
        exact fF ⟨au,au,au⟩
       ·exact fF ⟨au,au,au⟩
      ·refine okD (fun c_8=>?_) (fun c_8=>?_)
       ·refine okG ?_
        refine okG ?_
        refine okG ?_
        refine az fun r5 h_14_1_0 h_14_1_1 h_14_1_2 h_14_1_3=>?_
        refine okB (A:=fun e1=>p<=e1.1/\e1.1<=p+8/\e1.2.size<=3) ?_ (fun e1 h_e1=>?_)
        ·refine okW (fun(k:Nat) (v1:Int×Int×ByteArray)=>0<=v1.1/\v1.1<=(k:Int)/\(v1.2.2.size:Int)+v1.1<=3/\p<=v1.2.1/\v1.2.1+v1.1<=p+8) (fun k v1 hI=>?_) (3:Nat) _ ⟨au,au,au,au,au⟩
         obtain⟨i_0,i_1,i_2,i_3,i_4⟩:=hI
         unfold F.eN
         refine okD (fun c_0=>?_) (fun c_0=>?_)
         ·refine okG ?_
          refine okG ?_
          refine okG ?_
          refine az fun r6 h_17_3_0 h_17_3_1 h_17_3_2 h_17_3_3=>?_
          refine okG ?_
          exact fc ⟨k-1,by omega,au,au,au,au,au⟩
         ·exact fF ⟨au,au,au⟩
        ·obtain⟨e1_0,e1_1,e1_2⟩:=h_e1
         exact fF ⟨au,au,au⟩
       ·refine okD (fun c_9=>?_) (fun c_9=>?_)
        ·refine okG ?_
         refine okG ?_
         refine okG ?_
         refine az fun r5 h_14_1_0 h_14_1_1 h_14_1_2 h_14_1_3=>?_
         refine okB (A:=fun e1=>p<=e1.1/\e1.1<=p+8/\e1.2.size<=3) ?_ (fun e1 h_e1=>?_)
         ·refine okW (fun(k:Nat) (v1:Int×Int×ByteArray)=>0<=v1.1/\v1.1<=(k:Int)/\(v1.2.2.size:Int)+v1.1<=3/\p<=v1.2.1/\v1.2.1+v1.1<=p+8) (fun k v1 hI=>?_) (3:Nat) _ ⟨au,au,au,au,au⟩
          obtain⟨i_0,i_1,i_2,i_3,i_4⟩:=hI
          unfold F.eN
          refine okD (fun c_0=>?_) (fun c_0=>?_)
          ·refine okG ?_
           refine okG ?_
           refine okG ?_
           refine az fun r6 h_17_3_0 h_17_3_1 h_17_3_2 h_17_3_3=>?_
           refine okG ?_
           exact fc ⟨k-1,by omega,au,au,au,au,au⟩
          ·exact fF ⟨au,au,au⟩
         ·obtain⟨e1_0,e1_1,e1_2⟩:=h_e1
          exact fF ⟨au,au,au⟩
        ·refine okG ?_
         refine okG ?_
         refine okG ?_
         refine az fun r7 h_3_1_0 h_3_1_1 h_3_1_2 h_3_1_3=>?_
         exact fF ⟨au,au,au⟩
  ·obtain⟨e0_0,e0_1,e0_2⟩:=h_e0
   refine okG ?_
   refine okG ?_
   refine cO fun r8 h_18_2_0 h_18_2_1 h_18_2_2=>?_
   refine okC (fun c_10=>?_) (fun c_10=>?_)
   ·refine okG ?_
    refine okG ?_
    refine az fun r9 h_19_1_0 h_19_1_1 h_19_1_2 h_19_1_3=>?_
    refine okD (fun c_11=>?_) (fun c_11=>?_)
    ·exact oB
    ·refine okD (fun c_12=>?_) (fun c_12=>?_)
     ·refine okG ?_
      exact oB
     ·refine okD (fun c_13=>?_) (fun c_13=>?_)
      ·refine okG ?_
       refine okG ?_
       refine az fun r10 h_26_1_0 h_26_1_1 h_26_1_2 h_26_1_3=>?_
       exact oB
      ·refine okG ?_
       exact oB
   ·exact oB
theorem F.wB (b:(List Int)) (p:Int) (n:Int) (h_b:Sm (Ty.sl (Ty.int .u8)) b) (p0:M.ak b) (p1:0<=p) (p2:p<=998000000000000):F.iV b p n=some (M.fA b p n):=gf (F.pe b p n h_b p0 p1 p2)
theorem M.AK (b:(List Int)) (p:Int) (n:Int) (h_b:Sm (Ty.sl (Ty.int .u8)) b) (p0:M.ak b) (p1:0<=p) (p2:p<=998000000000000):(M.fA b p n).1.2.2.1.size<=20/\p<=(M.fA b p n).2/\(M.fA b p n).2<=p+20:=gr (F.pe b p n h_b p0 p1 p2)
theorem gN {α:Type} {K:α->Prop} {f:aa.D×Int->Option α} {b:(List Int)} {p:Int} {n:Int} (k:∀r,(r.1.2.2.1.size<=20)->(p<=r.2)->(r.2<=p+20)->ok (f r) K) (h_b:Sm (Ty.sl (Ty.int .u8)) b:=by exact au) (p0:M.ak b:=by exact au) (p1:0<=p:=by exact au) (p2:p<=998000000000000:=by exact au):ok (aL (M.fA b p n) f) K:=by
 have h:=M.AK b p n h_b p0 p1 p2
 obtain⟨h0,h1,h2⟩:=h
 exact k _ h0 h1 h2
theorem F.sB (b:(List Int)) (p:Int) (columns:LC) (n:Int) (h_b:Sm (Ty.sl (Ty.int .u8)) b) (h_columns:Sm (Ty.sl ax) columns) (p0:M.ak b) (p1:0<=p) (p2:p<=997000000000000):ok (F.lD b p columns n) (fun r=>r.1.length<=columns.length+3/\(∀v∈r.1,v.2.2.1.size<=20)/\p<=r.2/\r.2<=p+3 * columns.length+70/\(n<1->r.1.length=columns.length)):=by
  unfold F.lD
  have hl:=h_columns.1
  refine okT (A:=fun v0=>p<=v0.1/\v0.1<=p+3 * (columns.length:Int)/\v0.2.length=columns.length/\(∀v∈v0.2,v.2.2.1.size<=20)) (B:=fun _=>False) ?_ (fun v0 h_v0=>?_) (fun _ h=>h.elim)
  ·refine KE (fun(k:Nat) (v0:Int×LV)=>p<=v0.1/\v0.1<=p+3 * (k:Int)/\v0.2.length=k/\(∀v∈v0.2,v.2.2.1.size<=20)) ⟨au,au,au,au⟩ (fun z0 hz k v0 hk hI=>?_)
   obtain⟨i_0,i_1,i_2,i_3⟩:=hI
   unfold F.jP
   refine okG ?_
   refine okG ?_
   refine okG ?_
   refine pn fun r1 h_5_6_0 h_5_6_1 h_5_6_2=>?_
   refine okG ?_
   exact fc ⟨au,au,au,au⟩
  ·obtain⟨v0_0,v0_1,v0_2,v0_3⟩:=h_v0
   refine okG ?_
   refine okG ?_
   refine cO fun r2 h_6_2_0 h_6_2_1 h_6_2_2=>?_
   refine okC (fun c_0=>?_) (fun c_0=>?_)
   ·have n_a:¬n<1:=fun q=>by rw[h_6_2_0 q] at c_0;cases c_0
    refine okG ?_
    refine okG ?_
    refine az fun r3 h_7_1_0 h_7_1_1 h_7_1_2 h_7_1_3=>?_
    refine okD (fun c_1=>?_) (fun c_1=>?_)
    ·refine okG ?_
     exact uG
    ·refine okD (fun c_2=>?_) (fun c_2=>?_)
     ·refine okD (fun c_3=>?_) (fun c_3=>?_)
      ·refine okG ?_
       refine okG ?_
       refine az fun r4 h_13_4_0 h_13_4_1 h_13_4_2 h_13_4_3=>?_
       refine okG ?_
       refine okG ?_
       refine gN fun r5 h_13_6_0 h_13_6_1 h_13_6_2=>?_
       refine okG ?_
       refine okG ?_
       exact uG
      ·exact uG
     ·refine okG ?_
      refine okG ?_
      refine gN fun r6 h_8_2_0 h_8_2_1 h_8_2_2=>?_
      refine okG ?_
      refine okG ?_
      refine gN fun r7 h_8_4_0 h_8_4_1 h_8_4_2=>?_
      refine okG ?_
      refine okG ?_
      refine gN fun r8 h_8_6_0 h_8_6_1 h_8_6_2=>?_
      refine okG ?_
      exact uG
   ·exact uG
theorem F.Aj (b:(List Int)) (p:Int) (columns:LC) (n:Int) (h_b:Sm (Ty.sl (Ty.int .u8)) b) (h_columns:Sm (Ty.sl ax) columns) (p0:M.ak b) (p1:0<=p) (p2:p<=997000000000000):F.lD b p columns n=some (M.jJ b p columns n):=gf (F.sB b p columns n h_b h_columns p0 p1 p2)
theorem M.Ed (b:(List Int)) (p:Int) (columns:LC) (n:Int) (h_b:Sm (Ty.sl (Ty.int .u8)) b) (h_columns:Sm (Ty.sl ax) columns) (p0:M.ak b) (p1:0<=p) (p2:p<=997000000000000):(M.jJ b p columns n).1.length<=columns.length+3/\(∀v∈(M.jJ b p columns n).1,v.2.2.1.size<=20)/\p<=(M.jJ b p columns n).2/\(M.jJ b p columns n).2<=p+3 * columns.length+70/\(n<1->(M.jJ b p columns n).1.length=columns.length):=gr (F.sB b p columns n h_b h_columns p0 p1 p2)
theorem lM {α:Type} {K:α->Prop} {f:LV×Int->Option α} {b:(List Int)} {p:Int} {columns:LC} {n:Int} (k:∀r,(r.1.length<=columns.length+3)->(∀v∈r.1,v.2.2.1.size<=20)->(p<=r.2)->(r.2<=p+3 * columns.length+70)->(n<1->r.1.length=columns.length)->ok (f r) K) (h_b:Sm (Ty.sl (Ty.int .u8)) b:=by exact au) (h_columns:Sm (Ty.sl ax) columns:=by exact au) (p0:M.ak b:=by exact au) (p1:0<=p:=by exact au) (p2:p<=997000000000000:=by exact au):ok (aL (M.jJ b p columns n) f) K:=by
 have h:=M.Ed b p columns n h_b h_columns p0 p1 p2
 obtain⟨h0,h1,h2,h3,h4⟩:=h
 exact k _ h0 h1 h2 h3 h4
theorem F.rj (b:(List Int)) (p:Int) (c:LC) (n:Int) (h_b:Sm (Ty.sl (Ty.int .u8)) b) (h_c:Sm (Ty.sl ax) c) (p0:M.ak b) (p1:0<=p) (p2:p<=996000000000000) (p3:c.length<=6) (p4:n=0):ok (F.lz b p c n) (fun r=>r.1.length<=6/\(∀w∈r.1,M.vV w)/\p<=r.2/\r.2<=p+1000/\(∀w∈r.1,w.length=c.length)):=by
  unfold F.lz
  have hl:=p3
  refine okG ?_
  refine az fun r1 h_2_1_0 h_2_1_1 h_2_1_2 h_2_1_3=>?_
  refine okB (A:=fun e0=>p<=e0.1/\e0.1<=p+700/\e0.2.length<=6/\(∀w∈e0.2,M.vV w)/\(∀w∈e0.2,w.length=c.length)) ?_ (fun e0 h_e0=>?_)
  ·refine okW (fun(k:Nat) (v0:Int×Int×LLV)=>0<=v0.1/\v0.1<=(k:Int)/\(v0.2.2.length:Int)+v0.1<=6/\(∀w∈v0.2.2,M.vV w)/\p<=v0.2.1/\v0.2.1+100 * v0.1<=p+700/\(∀w∈v0.2.2,w.length=c.length)) (fun k v0 hI=>?_) (6:Nat) _ ⟨au,au,au,au,au,au,au⟩
   obtain⟨i_0,i_1,i_2,i_3,i_4,i_5,i_6⟩:=hI
   unfold F.jI
   refine okD (fun c_0=>?_) (fun c_0=>?_)
   ·refine Dz (fun c_1=>?_) (fun c_1=>?_)
    ·refine okG ?_
     refine okG ?_
     refine okG ?_
     refine az fun r2 h_5_5_0 h_5_5_1 h_5_5_2 h_5_5_3=>?_
     refine okD (fun c_2=>?_) (fun c_2=>?_)
     ·refine okG ?_
      refine okG ?_
      refine az fun r3 h_6_5_0 h_6_5_1 h_6_5_2 h_6_5_3=>?_
      refine okG ?_
      refine okG ?_
      refine okG ?_
      refine okL fun r4 er4=>?_
      have w_a:M.vV r4:=er4▸M.zy i_3 _
      have w_b:r4.length=c.length:=by rw[er4];exact i_6 _ (cF (t:=.sl aa) h_6_5_0 (h_6_5_1 (by omega)))
      refine okG ?_
      exact fc ⟨k-1,by omega,au,au,au,au,au,au,au⟩
     ·refine okG ?_
      refine okG ?_
      refine lM fun r5 h_7_4_0 h_7_4_1 h_7_4_2 h_7_4_3 h_7_4_4=>?_
      have w_c:r5.1.length=c.length:=h_7_4_4 (by omega)
      refine okG ?_
      exact fc ⟨k-1,by omega,au,au,au,au,au,au,au⟩
    ·refine okG ?_
     refine okG ?_
     refine okG ?_
     refine lM fun r5 h_7_4_0 h_7_4_1 h_7_4_2 h_7_4_3 h_7_4_4=>?_
     have w_c:r5.1.length=c.length:=h_7_4_4 (by omega)
     refine okG ?_
     exact fc ⟨k-1,by omega,au,au,au,au,au,au,au⟩
   ·exact fF ⟨au,au,au,au,au⟩
  ·obtain⟨e0_0,e0_1,e0_2,e0_3,e0_4⟩:=h_e0
   exact uG
theorem F.zH (b:(List Int)) (p:Int) (c:LC) (n:Int) (h_b:Sm (Ty.sl (Ty.int .u8)) b) (h_c:Sm (Ty.sl ax) c) (p0:M.ak b) (p1:0<=p) (p2:p<=996000000000000) (p3:c.length<=6) (p4:n=0):F.lz b p c n=some (M.oe b p c n):=gf (F.rj b p c n h_b h_c p0 p1 p2 p3 p4)
theorem M.CP (b:(List Int)) (p:Int) (c:LC) (n:Int) (h_b:Sm (Ty.sl (Ty.int .u8)) b) (h_c:Sm (Ty.sl ax) c) (p0:M.ak b) (p1:0<=p) (p2:p<=996000000000000) (p3:c.length<=6) (p4:n=0):(M.oe b p c n).1.length<=6/\(∀w∈(M.oe b p c n).1,M.vV w)/\p<=(M.oe b p c n).2/\(M.oe b p c n).2<=p+1000/\(∀w∈(M.oe b p c n).1,w.length=c.length):=gr (F.rj b p c n h_b h_c p0 p1 p2 p3 p4)
theorem yd {α:Type} {K:α->Prop} {f:LLV×Int->Option α} {b:(List Int)} {p:Int} {c:LC} {n:Int} (k:∀r,(r.1.length<=6)->(∀w∈r.1,M.vV w)->(p<=r.2)->(r.2<=p+1000)->(∀w∈r.1,w.length=c.length)->ok (f r) K) (h_b:Sm (Ty.sl (Ty.int .u8)) b:=by exact au) (h_c:Sm (Ty.sl ax) c:=by exact au) (p0:M.ak b:=by exact au) (p1:0<=p:=by exact au) (p2:p<=996000000000000:=by exact au) (p3:c.length<=6:=by exact au) (p4:n=0:=by exact au):ok (aL (M.oe b p c n) f) K:=by
 have h:=M.CP b p c n h_b h_c p0 p1 p2 p3 p4
 obtain⟨h0,h1,h2,h3,h4⟩:=h
 exact k _ h0 h1 h2 h3 h4
theorem F.nF (b:(List Int)) (p:Int) (n:Int) (h_b:Sm (Ty.sl (Ty.int .u8)) b) (p0:M.ak b) (p1:0<=p) (p2:p<=995000000000000):ok (F.hG b p n) (fun r=>r.1.length<=6/\1<=r.1.length/\(∀t∈r.1,M.eC t)/\p<=r.2/\r.2<=p+10000/\(n<1->r.1.length<=3)/\(n<1->(∀t∈r.1,M.fu t))/\(n<1->(∀t∈r.1,M.jC t))):=by
  unfold F.hG
  refine okG ?_
  refine az fun r1 h_2_1_0 h_2_1_1 h_2_1_2 h_2_1_3=>?_
  refine okB (A:=fun e0=>p<=e0.1/\e0.1<=p+6100/\e0.2.length<=3/\1<=e0.2.length/\(∀t∈e0.2,M.eC t)/\(∀t∈e0.2,M.fu t)/\(∀t∈e0.2,M.jC t)) ?_ (fun e0 h_e0=>?_)
  ·refine okW (fun(k:Nat) (v0:Int×Int×LTb)=>0<=v0.1/\v0.1<=(k:Int)/\(v0.2.2.length:Int)+v0.1<=3/\1<=(v0.2.2.length:Int)+v0.1/\(∀t∈v0.2.2,M.eC t)/\p<=v0.2.1/\v0.2.1+2000 * v0.1<=p+6100/\(∀t∈v0.2.2,M.fu t)/\(∀t∈v0.2.2,M.jC t)) (fun k v0 hI=>?_) (3:Nat) _ ⟨au,au,au,au,au,au,au,au,au⟩
   obtain⟨i_0,i_1,i_2,i_3,i_4,i_5,i_6,i_7,i_8⟩:=hI
   unfold F.gP
   refine okD (fun c_0=>?_) (fun c_0=>?_)
   ·refine okG ?_
    refine okG ?_
    refine okG ?_
    refine sW fun r2 h_5_1_0 h_5_1_1 h_5_1_2 h_5_1_3=>?_
    refine okG ?_
    refine okG ?_
    refine az fun r3 h_6_2_0 h_6_2_1 h_6_2_2 h_6_2_3=>?_
    refine okG ?_
    refine okG ?_
    refine okG ?_
    refine okG ?_
    refine okG ?_
    refine okG ?_
    refine okG ?_
    refine okG ?_
    refine yd fun r4 h_7_3_0 h_7_3_1 h_7_3_2 h_7_3_3 h_7_3_4=>?_
    have q_a:=M.Kv h_6_2_0 (h_6_2_1 (by decide)) (n:=(r2.1.length:Int)) (by omega)
    have q_b:(aC r2.1 (some ((0:Int),wrap64 ((1:Int)+(r3.1.tmod (r2.1.length:Int)))))).length<=2:=M.JP q_a
    have q_c:M.fu ((aC r2.1 (some ((0:Int),wrap64 ((1:Int)+(r3.1.tmod (r2.1.length:Int)))))),(r4.1,())):=⟨Nat.le_trans q_b (by decide),by omega,fun w hw=>by rw[h_7_3_4 w hw];omega⟩
    have q_d:M.jC ((aC r2.1 (some ((0:Int),wrap64 ((1:Int)+(r3.1.tmod (r2.1.length:Int)))))),(r4.1,())):=M.IB (M.JY h_6_2_0 (by omega) (by omega)).1 (by omega) (M.Ku h_6_2_0 (by omega) (by omega))
    refine okG ?_
    exact fc ⟨k-1,by omega,au,au,au,au,au,au,au,au,au⟩
   ·exact fF ⟨au,au,au,au,au,au,au⟩
  ·obtain⟨e0_0,e0_1,e0_2,e0_3,e0_4,e0_5,e0_6⟩:=h_e0
   refine okG ?_
   refine okG ?_
   refine cO fun r5 h_9_2_0 h_9_2_1 h_9_2_2=>?_
   refine okC (fun c_1=>?_) (fun c_1=>?_)
   ·have n_a:¬n<1:=fun q=>by rw[h_9_2_0 q] at c_1;cases c_1
    obtain⟨t_1,t_2,_⟩:=M.Af e0_5 (0:Int)
    refine okG ?_
    refine okG ?_
    refine az fun r6 h_10_1_0 h_10_1_1 h_10_1_2 h_10_1_3=>?_
    refine okD (fun c_2=>?_) (fun c_2=>?_)
    ·refine okG ?_
     exact IE
    ·refine okD (fun c_3=>?_) (fun c_3=>?_)
     ·have t_a:=M.FW (i:=0) (k:=(0:Int).toNat) (w:=[[((9:Int),((0:Int),((⟨#[]⟩:ByteArray),())))]]) e0_4 e0_5 (by exact cl) (by decide)
      refine okG ?_
      refine okG ?_ (by simp only[List.length_cons,List.length_nil,List.length_append,lim];omega)
      refine okG ?_ (by rw[List.length_set];omega)
      refine okL fun y1 ey1=>?_
      subst ey1
      exact IE
     ·have t_a:=M.Gf (i:=0) (k:=(0:Int).toNat) (w:=[((1:Int),(false,()))]) e0_4 e0_5 (by decide)
      refine okG ?_
      refine okG ?_ (by simp only[List.length_cons,List.length_nil,List.length_append,lim];omega)
      refine okG ?_ (by rw[List.length_set];omega)
      refine okL fun y2 ey2=>?_
      subst ey2
      exact IE
   ·have t_b:n<1->∀t∈e0.2,M.fu t:=fun _=>e0_5
    have t_c:n<1->∀t∈e0.2,M.jC t:=fun _=>e0_6
    exact IE
theorem F.uV (b:(List Int)) (p:Int) (n:Int) (h_b:Sm (Ty.sl (Ty.int .u8)) b) (p0:M.ak b) (p1:0<=p) (p2:p<=995000000000000):F.hG b p n=some (M.eO b p n):=gf (F.nF b p n h_b p0 p1 p2)
theorem M.zB (b:(List Int)) (p:Int) (n:Int) (h_b:Sm (Ty.sl (Ty.int .u8)) b) (p0:M.ak b) (p1:0<=p) (p2:p<=995000000000000):(M.eO b p n).1.length<=6/\1<=(M.eO b p n).1.length/\(∀t∈(M.eO b p n).1,M.eC t)/\p<=(M.eO b p n).2/\(M.eO b p n).2<=p+10000/\(n<1->(M.eO b p n).1.length<=3)/\(n<1->(∀t∈(M.eO b p n).1,M.fu t))/\(n<1->(∀t∈(M.eO b p n).1,M.jC t)):=gr (F.nF b p n h_b p0 p1 p2)
theorem tK {α:Type} {K:α->Prop} {f:LTb×Int->Option α} {b:(List Int)} {p:Int} {n:Int} (k:∀r,(r.1.length<=6)->(1<=r.1.length)->(∀t∈r.1,M.eC t)->(p<=r.2)->(r.2<=p+10000)->(n<1->r.1.length<=3)->(n<1->(∀t∈r.1,M.fu t))->(n<1->(∀t∈r.1,M.jC t))->ok (f r) K) (h_b:Sm (Ty.sl (Ty.int .u8)) b:=by exact au) (p0:M.ak b:=by exact au) (p1:0<=p:=by exact au) (p2:p<=995000000000000:=by exact au):ok (aL (M.eO b p n) f) K:=by
 have h:=M.zB b p n h_b p0 p1 p2
 obtain⟨h0,h1,h2,h3,h4,h5,h6,h7⟩:=h
 exact k _ h0 h1 h2 h3 h4 h5 h6 h7
theorem F.qQ (b:(List Int)) (p:Int) (columns:LC) (kind:Int) (h_b:Sm (Ty.sl (Ty.int .u8)) b) (h_columns:Sm (Ty.sl ax) columns) (p0:M.ak b) (p1:0<=p) (p2:p<=997000000000000):ok (F.jH b p columns kind) (fun r=>r.1.2.2.1.2.2.1.size<=20/\p<=r.2/\r.2<=p+20):=by
  unfold F.jH
  have hl:=h_columns.1
  refine okT (A:=fun e0=>p<=e0/\e0<=p+8) (B:=fun q0=>p<=q0.1/\q0.1<=p+10) ?_ (fun e0 h_e0=>?_) (fun q0 h_q0=>?_)
  ·refine okW (fun(k:Nat) (v0:Int×Int)=>0<=v0.1/\v0.1<=4/\4<=v0.1+(k:Int)/\p<=v0.2/\v0.2<=p+2 * v0.1) (fun k v0 hI=>?_) (4:Nat) _ ⟨au,au,au,au,au⟩
   obtain⟨i_0,i_1,i_2,i_3,i_4⟩:=hI
   unfold F.jd
   refine Dz (fun c_0=>?_) (fun c_0=>?_)
   ·refine okD (fun c_1=>?_) (fun c_1=>?_)
    ·refine okG ?_
     refine okG ?_
     refine okG ?_
     refine az fun r1 h_4_3_0 h_4_3_1 h_4_3_2 h_4_3_3=>?_
     refine okG ?_
     refine okG ?_
     refine Dz (fun c_2=>?_) (fun c_2=>?_)
     ·refine okG ?_
      refine okG ?_
      refine az fun r2 h_5_9_0 h_5_9_1 h_5_9_2 h_5_9_3=>?_
      refine okD (fun c_3=>?_) (fun c_3=>?_)
      ·exact JD ⟨au,au⟩
      ·exact fc ⟨k-1,by omega,au,au,au,au,au⟩
     ·exact fc ⟨k-1,by omega,au,au,au,au,au⟩
    ·exact Hl ⟨au,au⟩
   ·exact Hl ⟨au,au⟩
  ·obtain⟨e0_0,e0_1⟩:=h_e0
   refine okG ?_
   refine okG ?_
   refine pn fun r3 h_7_3_0 h_7_3_1 h_7_3_2=>?_
   exact oB
  ·obtain⟨q0_0,q0_1⟩:=h_q0
   exact oB
theorem F.yB (b:(List Int)) (p:Int) (columns:LC) (kind:Int) (h_b:Sm (Ty.sl (Ty.int .u8)) b) (h_columns:Sm (Ty.sl ax) columns) (p0:M.ak b) (p1:0<=p) (p2:p<=997000000000000):F.jH b p columns kind=some (M.dR b p columns kind):=gf (F.qQ b p columns kind h_b h_columns p0 p1 p2)
theorem M.Cw (b:(List Int)) (p:Int) (columns:LC) (kind:Int) (h_b:Sm (Ty.sl (Ty.int .u8)) b) (h_columns:Sm (Ty.sl ax) columns) (p0:M.ak b) (p1:0<=p) (p2:p<=997000000000000):(M.dR b p columns kind).1.2.2.1.2.2.1.size<=20/\p<=(M.dR b p columns kind).2/\(M.dR b p columns kind).2<=p+20:=gr (F.qQ b p columns kind h_b h_columns p0 p1 p2)
theorem fX {α:Type} {K:α->Prop} {f:aE.D×Int->Option α} {b:(List Int)} {p:Int} {columns:LC} {kind:Int} (k:∀r,(r.1.2.2.1.2.2.1.size<=20)->(p<=r.2)->(r.2<=p+20)->ok (f r) K) (h_b:Sm (Ty.sl (Ty.int .u8)) b:=by exact au) (h_columns:Sm (Ty.sl ax) columns:=by exact au) (p0:M.ak b:=by exact au) (p1:0<=p:=by exact au) (p2:p<=997000000000000:=by exact au):ok (aL (M.dR b p columns kind) f) K:=by
 have h:=M.Cw b p columns kind h_b h_columns p0 p1 p2
 obtain⟨h0,h1,h2⟩:=h
 exact k _ h0 h1 h2
theorem dA {α:Type} {K:α->Prop} {f:LPt×Int->Option α} {n_:Nat} (ih:∀(b:(List Int)),∀(p:Int),∀(columns:LC),∀(kind:Int),∀(deep:Int),(Sm (Ty.sl (Ty.int .u8)) b)->(Sm (Ty.sl ax) columns)->(M.ak b)->(0<=p)->(p+40 * (M.eB deep:Int)<=996000000000000)->(deep<=3)->(deep.toNat<n_)->1<=(M.bP n_ b p columns kind deep).1.length/\(M.bP n_ b p columns kind deep).1.length<=M.eB deep/\(∀v∈(M.bP n_ b p columns kind deep).1,v.2.2.1.2.2.1.size<=20)/\p<=(M.bP n_ b p columns kind deep).2/\(M.bP n_ b p columns kind deep).2<=p+40 * M.eB deep) {b:(List Int)} {p:Int} {columns:LC} {kind:Int} {deep:Int} (k:∀r,(1<=r.1.length)->(r.1.length<=M.eB deep)->(∀v∈r.1,v.2.2.1.2.2.1.size<=20)->(p<=r.2)->(r.2<=p+40 * M.eB deep)->ok (f r) K) (h_b:Sm (Ty.sl (Ty.int .u8)) b:=by exact au) (h_columns:Sm (Ty.sl ax) columns:=by exact au) (p0:M.ak b:=by exact au) (p1:0<=p:=by exact au) (p2:p+40 * (M.eB deep:Int)<=996000000000000:=by exact au) (p3:deep<=3:=by exact au) (p4:deep.toNat<n_:=by exact au):ok (aL (M.bP n_ b p columns kind deep) f) K:=by
 have h:=ih b p columns kind deep h_b h_columns p0 p1 p2 p3 p4
 obtain⟨h0,h1,h2,h3,h4⟩:=h
 exact k _ h0 h1 h2 h3 h4
theorem F.qS (n_:Nat) (ih:∀(b:(List Int)),∀(p:Int),∀(columns:LC),∀(kind:Int),∀(deep:Int),(Sm (Ty.sl (Ty.int .u8)) b)->(Sm (Ty.sl ax) columns)->(M.ak b)->(0<=p)->(p+40 * (M.eB deep:Int)<=996000000000000)->(deep<=3)->(deep.toNat<n_)->1<=(M.bP n_ b p columns kind deep).1.length/\(M.bP n_ b p columns kind deep).1.length<=M.eB deep/\(∀v∈(M.bP n_ b p columns kind deep).1,v.2.2.1.2.2.1.size<=20)/\p<=(M.bP n_ b p columns kind deep).2/\(M.bP n_ b p columns kind deep).2<=p+40 * M.eB deep) (b:(List Int)) (p:Int) (columns:LC) (kind:Int) (deep:Int) (h_b:Sm (Ty.sl (Ty.int .u8)) b) (h_columns:Sm (Ty.sl ax) columns) (p0:M.ak b) (p1:0<=p) (p2:p+40 * (M.eB deep:Int)<=996000000000000) (p3:deep<=3) (p4:deep.toNat<(n_+1)):ok (F.mB n_ b p columns kind deep) (fun r=>1<=r.1.length/\r.1.length<=M.eB deep/\(∀v∈r.1,v.2.2.1.2.2.1.size<=20)/\p<=r.2/\r.2<=p+40 * M.eB deep):=by
  unfold F.mB
  have hE0:=M.HJ (d:=deep)
  have hE1:=M.HJ (d:=wrap64 (deep-(1:Int)))
  have hE2:=M.HJ (d:=wrap64 (deep-(2:Int)))
  have hE3:=M.Kl (d:=deep) p3
  have hE4:=M.Kq (d:=deep) p3
  refine Kr (fun c_0=>?_) (fun c_0=>?_)
  ·refine okG ?_
   refine az fun r1 h_1_4_0 h_1_4_1 h_1_4_2 h_1_4_3=>?_
   refine okD (fun c_1=>?_) (fun c_1=>?_)
   ·refine okG ?_
    refine okG ?_
    refine fX fun r2 h_2_3_0 h_2_3_1 h_2_3_2=>?_
    exact uG
   ·refine okD (fun c_2=>?_) (fun c_2=>?_)
    ·refine okG ?_
     refine okG ?_
     refine okG ?_
     refine okG ?_
     refine dA ih fun r3 h_4_5_0 h_4_5_1 h_4_5_2 h_4_5_3 h_4_5_4=>?_
     refine okG ?_
     refine okG ?_
     refine fX fun r4 h_4_9_0 h_4_9_1 h_4_9_2=>?_
     refine okG ?_
     refine okG ?_
     exact uG
    ·refine okD (fun c_3=>?_) (fun c_3=>?_)
     ·refine okG ?_
      refine okG ?_
      refine fX fun r5 h_6_3_0 h_6_3_1 h_6_3_2=>?_
      exact uG
     ·refine okG ?_
      refine okG ?_
      refine az fun r6 h_7_1_0 h_7_1_1 h_7_1_2 h_7_1_3=>?_
      refine okD (fun c_4=>?_) (fun c_4=>?_)
      ·refine okG ?_
       refine okG ?_
       refine okG ?_
       refine okG ?_
       refine dA ih fun r7 h_9_4_0 h_9_4_1 h_9_4_2 h_9_4_3 h_9_4_4=>?_
       refine okG ?_
       refine okG ?_
       refine okG ?_
       refine okG ?_
       refine dA ih fun r8 h_9_9_0 h_9_9_1 h_9_9_2 h_9_9_3 h_9_9_4=>?_
       refine okG ?_
       refine okG ?_
       refine okG ?_
       refine az fun r9 h_9_12_0 h_9_12_1 h_9_12_2 h_9_12_3=>?_
       refine okG ?_
       exact uG
      ·refine okD (fun c_5=>?_) (fun c_5=>?_)
       ·refine okG ?_
        refine okG ?_
        refine okG ?_
        refine okG ?_
        refine dA ih fun r10 h_11_4_0 h_11_4_1 h_11_4_2 h_11_4_3 h_11_4_4=>?_
        refine okG ?_
        exact uG
       ·refine okD (fun c_6=>?_) (fun c_6=>?_)
        ·refine okG ?_
         refine okG ?_
         refine az fun r11 h_13_3_0 h_13_3_1 h_13_3_2 h_13_3_3=>?_
         refine okG ?_
         refine okG ?_
         refine okG ?_
         refine okG ?_
         refine dA ih fun r12 h_13_7_0 h_13_7_1 h_13_7_2 h_13_7_3 h_13_7_4=>?_
         refine okG ?_
         exact uG
        ·refine okG ?_
         refine okG ?_
         refine az fun r13 h_14_1_0 h_14_1_1 h_14_1_2 h_14_1_3=>?_
         refine okG ?_
         refine okG ?_
         refine okG ?_
         refine okG ?_
         refine dA ih fun r14 h_15_5_0 h_15_5_1 h_15_5_2 h_15_5_3 h_15_5_4=>?_
         refine okG ?_
         refine okG ?_
         refine fX fun r15 h_15_9_0 h_15_9_1 h_15_9_2=>?_
         refine okG ?_
         refine okG ?_
         refine okG ?_
         refine az fun r16 h_15_13_0 h_15_13_1 h_15_13_2 h_15_13_3=>?_
         refine okG ?_
         exact uG
  ·refine okG ?_
   refine fX fun r2 h_2_3_0 h_2_3_1 h_2_3_2=>?_
   exact uG
theorem M.qb:∀(n_:Nat),∀(b:(List Int)),∀(p:Int),∀(columns:LC),∀(kind:Int),∀(deep:Int),(Sm (Ty.sl (Ty.int .u8)) b)->(Sm (Ty.sl ax) columns)->(M.ak b)->(0<=p)->(p+40 * (M.eB deep:Int)<=996000000000000)->(deep<=3)->(deep.toNat<n_)->1<=(M.bP n_ b p columns kind deep).1.length/\(M.bP n_ b p columns kind deep).1.length<=M.eB deep/\(∀v∈(M.bP n_ b p columns kind deep).1,v.2.2.1.2.2.1.size<=20)/\p<=(M.bP n_ b p columns kind deep).2/\(M.bP n_ b p columns kind deep).2<=p+40 * M.eB deep
 | 0,b,p,columns,kind,deep,h_b,h_columns,p0,p1,p2,p3,p4=>absurd p4 (Nat.not_lt_zero _)
 | n_+1,b,p,columns,kind,deep,h_b,h_columns,p0,p1,p2,p3,p4=>gr (F.qS n_ (M.qb n_) b p columns kind deep h_b h_columns p0 p1 p2 p3 p4)
theorem F.xO (n_:Nat) (b:(List Int)) (p:Int) (columns:LC) (kind:Int) (deep:Int) (h_b:Sm (Ty.sl (Ty.int .u8)) b) (h_columns:Sm (Ty.sl ax) columns) (p0:M.ak b) (p1:0<=p) (p2:p+40 * (M.eB deep:Int)<=996000000000000) (p3:deep<=3) (p4:deep.toNat<(n_+1)):F.mB n_ b p columns kind deep=some (M.bP (n_+1) b p columns kind deep):=gf (F.qS n_ (M.qb n_) b p columns kind deep h_b h_columns p0 p1 p2 p3 p4)
theorem wM {α:Type} {K:α->Prop} {f:LPt×Int->Option α} {n_:Nat} {b:(List Int)} {p:Int} {columns:LC} {kind:Int} {deep:Int} (k:∀r,(1<=r.1.length)->(r.1.length<=M.eB deep)->(∀v∈r.1,v.2.2.1.2.2.1.size<=20)->(p<=r.2)->(r.2<=p+40 * M.eB deep)->ok (f r) K) (h_b:Sm (Ty.sl (Ty.int .u8)) b:=by exact au) (h_columns:Sm (Ty.sl ax) columns:=by exact au) (p0:M.ak b:=by exact au) (p1:0<=p:=by exact au) (p2:p+40 * (M.eB deep:Int)<=996000000000000:=by exact au) (p3:deep<=3:=by exact au) (p4:deep.toNat<n_:=by exact au):ok (aL (M.bP n_ b p columns kind deep) f) K:=by
 have h:=M.qb n_ b p columns kind deep h_b h_columns p0 p1 p2 p3 p4
 obtain⟨h0,h1,h2,h3,h4⟩:=h
 exact k _ h0 h1 h2 h3 h4
theorem F.qO (b:(List Int)) (p:Int) (tables:LTb) (n:Int) (h_b:Sm (Ty.sl (Ty.int .u8)) b) (h_tables:Sm (Ty.sl ag) tables) (p0:M.ak b) (p1:0<=p) (p2:p<=995000000000000) (p3:(∀t∈tables,M.eC t)) (p4:(∀t∈tables,M.fu t)) (p5:1<=tables.length) (p6:tables.length<=3) (p7:(∀t∈tables,M.jC t)):ok (F.jY b p tables n) (fun r=>M.bdD r.1/\p<=r.2/\r.2<=p+3000):=by
  unfold F.jY
  have hE2:M.eB (2:Int)=27:=by decide
  refine okG ?_
  refine az fun r1 h_1_1_0 h_1_1_1 h_1_1_2 h_1_1_3=>?_
  refine okG ?_
  refine okG ?_
  refine az fun r2 h_1_6_0 h_1_6_1 h_1_6_2 h_1_6_3=>?_
  have m_1_6:=cF (t:=ag) h_1_6_0 (h_1_6_1 (by omega))
  have x_1_6:=h_1_6_1 (by omega)
  have c_1_6:1<=(nth (t:=ag) tables r2.1).1.length:=p7 _ m_1_6
  refine okG ?_
  refine okG ?_
  refine okB (A:=fun e0=>p<=e0.1/\e0.1<=p+2000/\e0.2.2.1.length<=1/\e0.2.2.2.2.1.length<=27/\(∀v∈e0.2.2.2.2.1,v.2.2.1.2.2.1.size<=20)/\e0.2.2.2.2.2.length<=2) ?_ (fun e0 h_e0=>?_)
  ·refine okW (fun(_:Nat) (_:Unit)=>True) (fun _ v0 _=>?_) 0 _ trivial
   unfold F.iY
   refine okD (fun c_3=>?_) (fun c_3=>?_)
   ·refine okG ?_
    refine okG ?_
    refine okG ?_
    refine az fun r3 h_5_3_0 h_5_3_1 h_5_3_2 h_5_3_3=>?_
    refine okG ?_
    refine okG ?_
    refine az fun r4 h_6_1_0 h_6_1_1 h_6_1_2 h_6_1_3=>?_
    refine okD (fun c_4=>?_) (fun c_4=>?_)
    ·refine okG ?_
     refine okG ?_
     refine az fun r5 h_7_5_0 h_7_5_1 h_7_5_2 h_7_5_3=>?_
     exact fF ⟨au,au,au,au,au,au⟩
    ·exact fF ⟨au,au,au,au,au,au⟩
   ·refine okD (fun c_5=>?_) (fun c_5=>?_)
    ·refine okG ?_
     refine okG ?_
     refine okG ?_
     refine okG ?_
     refine okG ?_
     refine wM fun r6 h_9_2_0 h_9_2_1 h_9_2_2 h_9_2_3 h_9_2_4=>?_
     exact fF ⟨au,au,au,au,au,au⟩
    ·refine okD (fun c_6=>?_) (fun c_6=>?_)
     ·refine okB (A:=fun e1=>p<=e1.1/\e1.1<=p+200/\e1.2.2.1.length<=1/\e1.2.2.2.length<=1) ?_ (fun e1 h_e1=>?_)
      ·refine okW (fun(k:Nat) (v1:Int×Int×Int×(List Int)×(List Int))=>0<=v1.1/\v1.1<=12/\12<=v1.1+(k:Int)/\p<=v1.2.1/\v1.2.1<=p+100+3 * v1.1/\v1.2.2.2.1.length<=1/\v1.2.2.2.2.length<=1) (fun k v1 hI=>?_) (12:Nat) _ ⟨au,au,au,au,au,au,au⟩
       obtain⟨i_0,i_1,i_2,i_3,i_4,i_5,i_6⟩:=hI
       unfold F.jb
       refine Dz (fun c_0=>?_) (fun c_0=>?_)
       ·refine okD (fun c_1=>?_) (fun c_1=>?_)
        ·refine okG ?_
         refine okG ?_
         refine okG ?_
         refine az fun r7 h_14_3_0 h_14_3_1 h_14_3_2 h_14_3_3=>?_
         have m_14_3:=cF (t:=ag) h_14_3_0 (h_14_3_1 (by omega))
         have x_14_3:=h_14_3_1 (by omega)
         have c_14_3:1<=(nth (t:=ag) tables r7.1).1.length:=p7 _ m_14_3
         refine okG ?_
         refine okG ?_
         refine az fun r8 h_15_3_0 h_15_3_1 h_15_3_2 h_15_3_3=>?_
         have x_15_3:=h_15_3_1 (by omega)
         refine okG ?_
         refine okG ?_
         refine okG ?_
         refine okG ?_
         refine az fun r9 h_16_8_0 h_16_8_1 h_16_8_2 h_16_8_3=>?_
         have x_16_8:=h_16_8_1 (by omega)
         refine okG ?_
         refine okG ?_
         refine okG ?_
         refine okG ?_
         refine okD (fun c_2=>?_) (fun c_2=>?_)
         ·exact fc ⟨k-1,by omega,au,au,au,au,au,au,au⟩
         ·exact fc ⟨k-1,by omega,au,au,au,au,au,au,au⟩
        ·exact fF ⟨au,au,au,au⟩
       ·exact fF ⟨au,au,au,au⟩
      ·obtain⟨e1_0,e1_1,e1_2,e1_3⟩:=h_e1
       refine okG ?_
       refine okG ?_
       refine okG ?_
       refine az fun r10 h_20_1_0 h_20_1_1 h_20_1_2 h_20_1_3=>?_
       exact fF ⟨au,au,au,au,au,au⟩
     ·exact fF ⟨au,au,au,au,au,au⟩
  ·obtain⟨e0_0,e0_1,e0_2,e0_3,e0_4,e0_5⟩:=h_e0
   refine okG ?_
   refine okG ?_
   refine cO fun r11 h_21_2_0 h_21_2_1 h_21_2_2=>?_
   refine okC (fun c_7=>?_) (fun c_7=>?_)
   ·refine okG ?_
    refine okG ?_
    refine az fun r12 h_22_1_0 h_22_1_1 h_22_1_2 h_22_1_3=>?_
    refine okD (fun c_8=>?_) (fun c_8=>?_)
    ·refine okG ?_
     refine okG ?_
     refine az fun r13 h_25_1_0 h_25_1_1 h_25_1_2 h_25_1_3=>?_
     exact oB
    ·refine okD (fun c_9=>?_) (fun c_9=>?_)
     ·refine okG ?_
      refine okG ?_
      refine az fun r14 h_27_1_0 h_27_1_1 h_27_1_2 h_27_1_3=>?_
      exact oB
     ·refine okD (fun c_10=>?_) (fun c_10=>?_)
      ·refine okG ?_
       refine okG ?_
       refine az fun r15 h_29_3_0 h_29_3_1 h_29_3_2 h_29_3_3=>?_
       refine okG ?_
       exact oB
      ·exact oB
   ·exact oB
theorem F.yh (b:(List Int)) (p:Int) (tables:LTb) (n:Int) (h_b:Sm (Ty.sl (Ty.int .u8)) b) (h_tables:Sm (Ty.sl ag) tables) (p0:M.ak b) (p1:0<=p) (p2:p<=995000000000000) (p3:(∀t∈tables,M.eC t)) (p4:(∀t∈tables,M.fu t)) (p5:1<=tables.length) (p6:tables.length<=3) (p7:(∀t∈tables,M.jC t)):F.jY b p tables n=some (M.od b p tables n):=gf (F.qO b p tables n h_b h_tables p0 p1 p2 p3 p4 p5 p6 p7)
theorem M.Cm (b:(List Int)) (p:Int) (tables:LTb) (n:Int) (h_b:Sm (Ty.sl (Ty.int .u8)) b) (h_tables:Sm (Ty.sl ag) tables) (p0:M.ak b) (p1:0<=p) (p2:p<=995000000000000) (p3:(∀t∈tables,M.eC t)) (p4:(∀t∈tables,M.fu t)) (p5:1<=tables.length) (p6:tables.length<=3) (p7:(∀t∈tables,M.jC t)):M.bdD (M.od b p tables n).1/\p<=(M.od b p tables n).2/\(M.od b p tables n).2<=p+3000:=gr (F.qO b p tables n h_b h_tables p0 p1 p2 p3 p4 p5 p6 p7)
theorem xo {α:Type} {K:α->Prop} {f:ah.D×Int->Option α} {b:(List Int)} {p:Int} {tables:LTb} {n:Int} (k:∀r,(M.bdD r.1)->(p<=r.2)->(r.2<=p+3000)->ok (f r) K) (h_b:Sm (Ty.sl (Ty.int .u8)) b:=by exact au) (h_tables:Sm (Ty.sl ag) tables:=by exact au) (p0:M.ak b:=by exact au) (p1:0<=p:=by exact au) (p2:p<=995000000000000:=by exact au) (p3:(∀t∈tables,M.eC t):=by exact au) (p4:(∀t∈tables,M.fu t):=by exact au) (p5:1<=tables.length:=by exact au) (p6:tables.length<=3:=by exact au) (p7:(∀t∈tables,M.jC t):=by exact au):ok (aL (M.od b p tables n) f) K:=by
 have h:=M.Cm b p tables n h_b h_tables p0 p1 p2 p3 p4 p5 p6 p7
 obtain⟨h0,h1,h2⟩:=h
 exact k _ h0 h1 h2
theorem F.pq (b:(List Int)) (p:Int) (tables:LTb) (n:Int) (h_b:Sm (Ty.sl (Ty.int .u8)) b) (h_tables:Sm (Ty.sl ag) tables) (p0:M.ak b) (p1:0<=p) (p2:p<=994000000000000) (p3:(∀t∈tables,M.eC t)) (p4:(∀t∈tables,M.fu t)) (p5:1<=tables.length) (p6:tables.length<=3) (p7:(∀t∈tables,M.jC t)):ok (F.iM b p tables n) (fun r=>r.1.length<=3/\(∀g∈r.1,M.bdD g)/\p<=r.2/\r.2<=p+10000):=by
  unfold F.iM
  refine okG ?_
  refine az fun r1 h_2_1_0 h_2_1_1 h_2_1_2 h_2_1_3=>?_
  have x_2_1:=h_2_1_1 (by omega)
  refine okB (A:=fun e0=>p<=e0.1/\e0.1<=p+9500/\e0.2.length<=3/\(∀g∈e0.2,M.bdD g)) ?_ (fun e0 h_e0=>?_)
  ·refine okW (fun(k:Nat) (v0:Int×Int×(List ah.D))=>0<=v0.1/\v0.1<=(k:Int)/\(v0.2.2.length:Int)+v0.1<=3/\(∀g∈v0.2.2,M.bdD g)/\p<=v0.2.1/\v0.2.1+3000 * v0.1<=p+9500) (fun k v0 hI=>?_) (3:Nat) _ ⟨au,au,au,au,au,au⟩
   obtain⟨i_0,i_1,i_2,i_3,i_4,i_5⟩:=hI
   unfold F.iA
   refine okD (fun c_0=>?_) (fun c_0=>?_)
   ·refine okG ?_
    refine okG ?_
    refine okG ?_
    refine okG ?_
    refine okG ?_
    refine okG ?_
    refine okG ?_
    refine okG ?_
    refine xo fun r2 h_5_4_0 h_5_4_1 h_5_4_2=>?_
    refine okG ?_
    exact fc ⟨k-1,by omega,au,au,au,au,au,au⟩
   ·exact fF ⟨au,au,au,au⟩
  ·obtain⟨e0_0,e0_1,e0_2,e0_3⟩:=h_e0
   exact JW
theorem F.wH (b:(List Int)) (p:Int) (tables:LTb) (n:Int) (h_b:Sm (Ty.sl (Ty.int .u8)) b) (h_tables:Sm (Ty.sl ag) tables) (p0:M.ak b) (p1:0<=p) (p2:p<=994000000000000) (p3:(∀t∈tables,M.eC t)) (p4:(∀t∈tables,M.fu t)) (p5:1<=tables.length) (p6:tables.length<=3) (p7:(∀t∈tables,M.jC t)):F.iM b p tables n=some (M.jD b p tables n):=gf (F.pq b p tables n h_b h_tables p0 p1 p2 p3 p4 p5 p6 p7)
theorem M.Bf (b:(List Int)) (p:Int) (tables:LTb) (n:Int) (h_b:Sm (Ty.sl (Ty.int .u8)) b) (h_tables:Sm (Ty.sl ag) tables) (p0:M.ak b) (p1:0<=p) (p2:p<=994000000000000) (p3:(∀t∈tables,M.eC t)) (p4:(∀t∈tables,M.fu t)) (p5:1<=tables.length) (p6:tables.length<=3) (p7:(∀t∈tables,M.jC t)):(M.jD b p tables n).1.length<=3/\(∀g∈(M.jD b p tables n).1,M.bdD g)/\p<=(M.jD b p tables n).2/\(M.jD b p tables n).2<=p+10000:=gr (F.pq b p tables n h_b h_tables p0 p1 p2 p3 p4 p5 p6 p7)
theorem vT {α:Type} {K:α->Prop} {f:(List ah.D)×Int->Option α} {b:(List Int)} {p:Int} {tables:LTb} {n:Int} (k:∀r,(r.1.length<=3)->(∀g∈r.1,M.bdD g)->(p<=r.2)->(r.2<=p+10000)->ok (f r) K) (h_b:Sm (Ty.sl (Ty.int .u8)) b:=by exact au) (h_tables:Sm (Ty.sl ag) tables:=by exact au) (p0:M.ak b:=by exact au) (p1:0<=p:=by exact au) (p2:p<=994000000000000:=by exact au) (p3:(∀t∈tables,M.eC t):=by exact au) (p4:(∀t∈tables,M.fu t):=by exact au) (p5:1<=tables.length:=by exact au) (p6:tables.length<=3:=by exact au) (p7:(∀t∈tables,M.jC t):=by exact au):ok (aL (M.jD b p tables n) f) K:=by
 have h:=M.Bf b p tables n h_b h_tables p0 p1 p2 p3 p4 p5 p6 p7
 obtain⟨h0,h1,h2,h3⟩:=h
 exact k _ h0 h1 h2 h3
theorem F.pI (b:(List Int)) (p:Int) (h_b:Sm (Ty.sl (Ty.int .u8)) b) (p0:M.ak b) (p1:0<=p) (p2:p<=993000000000000):ok (F.iN b p) (fun r=>r.1.length<=3/\1<=r.1.length/\(∀t∈r.1,M.eC t)/\r.2.1.length<=3/\(∀g∈r.2.1,M.bdD g)/\p<=r.2.2/\r.2.2<=p+30000/\(∀t∈r.1,M.fu t)/\(∀t∈r.1,M.jC t)):=by
  unfold F.iN
  refine okG ?_
  refine tK fun r1 h_1_1_0 h_1_1_1 h_1_1_2 h_1_1_3 h_1_1_4 h_1_1_5 h_1_1_6 h_1_1_7=>?_
  have q_a:=h_1_1_5 (by decide)
  have q_b:=h_1_1_6 (by decide)
  have q_c:=h_1_1_7 (by decide)
  refine okG ?_
  refine okG ?_
  refine okG ?_
  refine okG ?_
  refine okG ?_
  refine okG ?_
  refine okG ?_
  refine okG ?_
  refine vT fun r2 h_2_2_0 h_2_2_1 h_2_2_2 h_2_2_3=>?_
  refine okB (A:=fun e0=>e0.length<=3/\1<=e0.length/\(∀t∈e0,M.eC t)/\(∀t∈e0,M.fu t)/\(∀t∈e0,M.jC t)) ?_ (fun e0 h_e0=>?_)
  ·refine okW (fun(k:Nat) (v0:Bool×LTb)=>v0.2.length<=3/\1<=v0.2.length/\(∀t∈v0.2,M.eC t)/\(∀t∈v0.2,M.fu t)/\(∀t∈v0.2,M.jC t)/\(v0.1=true->M.size v0.2<k)/\M.size v0.2<=k) (fun k v0 hI=>?_) (M.size r1.1+1:Nat) _ ⟨au,au,au,au,au,au,au⟩
   obtain⟨i_0,i_1,i_2,i_3,i_4,i_5,i_6⟩:=hI
   unfold F.iC
   refine okC (fun c_3=>?_) (fun c_3=>?_)
   ·have s_a:=i_5 c_3
    refine okB (A:=fun e2=>e2.2.length<=3/\1<=e2.2.length/\(∀t∈e2.2,M.eC t)/\(∀t∈e2.2,M.fu t)/\(∀t∈e2.2,M.jC t)/\(e2.1=true->M.size e2.2<M.size v0.2)/\M.size e2.2<=M.size v0.2) ?_ (fun e2 h_e2=>?_)
    ·refine okW (fun(k:Nat) (v2:Bool×Int×LTb)=>0<=v2.2.1/\v2.2.1<=3/\3<=v2.2.1+(k:Int)/\v2.2.2.length<=3/\1<=v2.2.2.length/\(∀t∈v2.2.2,M.eC t)/\(∀t∈v2.2.2,M.fu t)/\(∀t∈v2.2.2,M.jC t)/\(v2.1=true->M.size v2.2.2<M.size v0.2)/\M.size v2.2.2<=M.size v0.2) (fun k v2 hI=>?_) (3:Nat) _ ⟨au,au,au,au,au,au,au,au,au,au⟩
     obtain⟨i_0,i_1,i_2,i_3,i_4,i_5,i_6,i_7,i_8,i_9⟩:=hI
     unfold F.ic
     refine Dz (fun c_0=>?_) (fun c_0=>?_)
     ·refine okC (fun c_1=>?_) (fun c_1=>?_)
      ·refine okG ?_
       refine okG ?_
       refine okG ?_
       refine okG ?_
       refine okD (fun c_2=>?_) (fun c_2=>?_)
       ·have b_a:=c_2
        obtain⟨b_1,b_2,b_3,b_4⟩:=M.sN b_a
        obtain⟨t_1,t_2,t_3,t_4,t_5,t_6⟩:=M.CJ b_a
        obtain⟨d_1,d_2,d_3,d_4,d_5⟩:=M.Ee b_a i_5 i_6 i_7
        refine okG ?_
        refine okG ?_
        refine okG ?_
        refine okG ?_
        refine okG ?_
        refine okG ?_
        refine okG ?_
        refine okG ?_
        refine okL fun y1 ey1=>?_
        subst ey1
        rw[M.Gp b_a]
        exact fc ⟨k-1,by omega,au,au,au,au,au,au,au,au,au,au⟩
       ·exact fc ⟨k-1,by omega,au,au,au,au,au,au,au,au,au,au⟩
      ·exact fF ⟨au,au,au,au,au,au,au⟩
     ·exact fF ⟨au,au,au,au,au,au,au⟩
    ·obtain⟨e2_0,e2_1,e2_2,e2_3,e2_4,e2_5,e2_6⟩:=h_e2
     exact fc ⟨k-1,by omega,au,au,au,au,au,fun q=>by have:=e2_5 q;show M.size e2.2<k-1;omega,by show M.size e2.2<=k-1;omega⟩
   ·exact fF ⟨au,au,au,au,au⟩
  ·obtain⟨e0_0,e0_1,e0_2,e0_3,e0_4⟩:=h_e0
   exact KD
theorem F.wI (b:(List Int)) (p:Int) (h_b:Sm (Ty.sl (Ty.int .u8)) b) (p0:M.ak b) (p1:0<=p) (p2:p<=993000000000000):F.iN b p=some (M.eI b p):=gf (F.pI b p h_b p0 p1 p2)
theorem M.AZ (b:(List Int)) (p:Int) (h_b:Sm (Ty.sl (Ty.int .u8)) b) (p0:M.ak b) (p1:0<=p) (p2:p<=993000000000000):(M.eI b p).1.length<=3/\1<=(M.eI b p).1.length/\(∀t∈(M.eI b p).1,M.eC t)/\(M.eI b p).2.1.length<=3/\(∀g∈(M.eI b p).2.1,M.bdD g)/\p<=(M.eI b p).2.2/\(M.eI b p).2.2<=p+30000/\(∀t∈(M.eI b p).1,M.fu t)/\(∀t∈(M.eI b p).1,M.jC t):=gr (F.pI b p h_b p0 p1 p2)
theorem nH {α:Type} {K:α->Prop} {f:LTb×(List ah.D)×Int->Option α} {b:(List Int)} {p:Int} (k:∀r,(r.1.length<=3)->(1<=r.1.length)->(∀t∈r.1,M.eC t)->(r.2.1.length<=3)->(∀g∈r.2.1,M.bdD g)->(p<=r.2.2)->(r.2.2<=p+30000)->(∀t∈r.1,M.fu t)->(∀t∈r.1,M.jC t)->ok (f r) K) (h_b:Sm (Ty.sl (Ty.int .u8)) b:=by exact au) (p0:M.ak b:=by exact au) (p1:0<=p:=by exact au) (p2:p<=993000000000000:=by exact au):ok (aL (M.eI b p) f) K:=by
 have h:=M.AZ b p h_b p0 p1 p2
 obtain⟨h0,h1,h2,h3,h4,h5,h6,h7,h8⟩:=h
 exact k _ h0 h1 h2 h3 h4 h5 h6 h7 h8
theorem F.nU (b:(List Int)) (p:Int) (tables:LTb) (n:Int) (h_b:Sm (Ty.sl (Ty.int .u8)) b) (h_tables:Sm (Ty.sl ag) tables) (p0:M.ak b) (p1:0<=p) (p2:p<=996000000000000) (p3:(∀t∈tables,M.eC t)) (p4:(∀t∈tables,M.fu t)) (p5:1<=tables.length):ok (F.hD b p tables n) (fun r=>r.1.2.1.length<=5/\(∀v∈r.1.2.1,v.2.2.1.size<=20)/\p<=r.2/\r.2<=p+300/\(n<1->0<=r.1.1)/\(n<1->r.1.1<(tables.length:Int))):=by
  unfold F.hD
  refine okG ?_
  refine az fun r1 h_1_3_0 h_1_3_1 h_1_3_2 h_1_3_3=>?_
  refine okG ?_
  refine okG ?_
  refine az fun r2 h_1_5_0 h_1_5_1 h_1_5_2 h_1_5_3=>?_
  have t_x:=h_1_3_1 (by omega)
  have t_a:=cF (t:=ag) h_1_3_0 (h_1_3_1 (by omega))
  obtain⟨t_e1,_,t_e2⟩:=p4 _ t_a
  refine okG ?_
  refine okG ?_
  refine okG ?_
  refine okG ?_
  refine lM fun r3 h_3_3_0 h_3_3_1 h_3_3_2 h_3_3_3 h_3_3_4=>?_
  have f_a:r3.1.length<=4:=by rw[h_3_3_4 (by decide)];exact t_e1
  refine okD (fun c_0=>?_) (fun c_0=>?_)
  ·refine okD (fun c_1=>?_) (fun c_1=>?_)
   ·refine okG ?_
    refine okG ?_
    refine az fun r4 h_7_6_0 h_7_6_1 h_7_6_2 h_7_6_3=>?_
    refine okG ?_
    refine okG ?_
    refine okL fun r5 er5=>?_
    have u_a:=cF (t:=.sl aa) h_7_6_0 (h_7_6_1 (by omega))
    have f_b:r5.length<=4:=by rw[er5];exact t_e2 _ u_a
    have f_c:∀v∈r5,v.2.2.1.size<=20:=by rw[er5];exact((p3 _ t_a).2.2 _ u_a).2
    refine okG ?_
    refine okG ?_
    refine cO fun r6 h_10_2_0 h_10_2_1 h_10_2_2=>?_
    refine okC (fun c_2=>?_) (fun c_2=>?_)
    ·have n_a:¬n<1:=fun q=>by rw[h_10_2_0 q] at c_2;cases c_2
     refine okG ?_
     refine okG ?_
     refine az fun r7 h_11_1_0 h_11_1_1 h_11_1_2 h_11_1_3=>?_
     refine okD (fun c_3=>?_) (fun c_3=>?_)
     ·refine okG ?_
      refine okG ?_
      refine az fun r8 h_14_1_0 h_14_1_1 h_14_1_2 h_14_1_3=>?_
      exact iO
     ·refine okD (fun c_4=>?_) (fun c_4=>?_)
      ·refine okG ?_
       exact iO
      ·exact iO
    ·exact iO
   ·refine okG ?_
    refine okG ?_
    refine cO fun r6 h_10_2_0 h_10_2_1 h_10_2_2=>?_
    refine okC (fun c_5=>?_) (fun c_5=>?_)
    ·have n_a:¬n<1:=fun q=>by rw[h_10_2_0 q] at c_5;cases c_5
     refine okG ?_
     refine okG ?_
     refine az fun r7 h_11_1_0 h_11_1_1 h_11_1_2 h_11_1_3=>?_
     refine okD (fun c_6=>?_) (fun c_6=>?_)
     ·refine okG ?_
      refine okG ?_
      refine az fun r8 h_14_1_0 h_14_1_1 h_14_1_2 h_14_1_3=>?_
      exact iO
     ·refine okD (fun c_7=>?_) (fun c_7=>?_)
      ·refine okG ?_
       exact iO
      ·exact iO
    ·exact iO
  ·refine okC (fun c_8=>?_) (fun c_8=>?_)
   ·refine okD (fun c_9=>?_) (fun c_9=>?_)
    ·refine okG ?_
     refine okG ?_
     refine az fun r4 h_7_6_0 h_7_6_1 h_7_6_2 h_7_6_3=>?_
     refine okG ?_
     refine okG ?_
     refine okL fun r5 er5=>?_
     have u_a:=cF (t:=.sl aa) h_7_6_0 (h_7_6_1 (by omega))
     have f_b:r5.length<=4:=by rw[er5];exact t_e2 _ u_a
     have f_c:∀v∈r5,v.2.2.1.size<=20:=by rw[er5];exact((p3 _ t_a).2.2 _ u_a).2
     refine okD (fun c_10=>?_) (fun c_10=>?_)
     ·refine okG ?_
      refine okG ?_
      refine cO fun r6 h_10_2_0 h_10_2_1 h_10_2_2=>?_
      refine okC (fun c_11=>?_) (fun c_11=>?_)
      ·have n_a:¬n<1:=fun q=>by rw[h_10_2_0 q] at c_11;cases c_11
       refine okG ?_
       refine okG ?_
       refine az fun r7 h_11_1_0 h_11_1_1 h_11_1_2 h_11_1_3=>?_
       refine okD (fun c_12=>?_) (fun c_12=>?_)
       ·refine okG ?_
        refine okG ?_
        refine az fun r8 h_14_1_0 h_14_1_1 h_14_1_2 h_14_1_3=>?_
        exact iO
       ·refine okD (fun c_13=>?_) (fun c_13=>?_)
        ·refine okG ?_
         exact iO
        ·exact iO
      ·exact iO
     ·refine okG ?_
      refine okG ?_
      refine cO fun r6 h_10_2_0 h_10_2_1 h_10_2_2=>?_
      refine okC (fun c_14=>?_) (fun c_14=>?_)
      ·have n_a:¬n<1:=fun q=>by rw[h_10_2_0 q] at c_14;cases c_14
       refine okG ?_
       refine okG ?_
       refine az fun r7 h_11_1_0 h_11_1_1 h_11_1_2 h_11_1_3=>?_
       refine okD (fun c_15=>?_) (fun c_15=>?_)
       ·refine okG ?_
        refine okG ?_
        refine az fun r8 h_14_1_0 h_14_1_1 h_14_1_2 h_14_1_3=>?_
        exact iO
       ·refine okD (fun c_16=>?_) (fun c_16=>?_)
        ·refine okG ?_
         exact iO
        ·exact iO
      ·exact iO
    ·refine okD (fun c_17=>?_) (fun c_17=>?_)
     ·refine okG ?_
      refine okG ?_
      refine cO fun r6 h_10_2_0 h_10_2_1 h_10_2_2=>?_
      refine okC (fun c_18=>?_) (fun c_18=>?_)
      ·have n_a:¬n<1:=fun q=>by rw[h_10_2_0 q] at c_18;cases c_18
       refine okG ?_
       refine okG ?_
       refine az fun r7 h_11_1_0 h_11_1_1 h_11_1_2 h_11_1_3=>?_
       refine okD (fun c_19=>?_) (fun c_19=>?_)
       ·refine okG ?_
        refine okG ?_
        refine az fun r8 h_14_1_0 h_14_1_1 h_14_1_2 h_14_1_3=>?_
        exact iO
       ·refine okD (fun c_20=>?_) (fun c_20=>?_)
        ·refine okG ?_
         exact iO
        ·exact iO
      ·exact iO
     ·refine okG ?_
      refine okG ?_
      refine cO fun r6 h_10_2_0 h_10_2_1 h_10_2_2=>?_
      refine okC (fun c_21=>?_) (fun c_21=>?_)
      ·have n_a:¬n<1:=fun q=>by rw[h_10_2_0 q] at c_21;cases c_21
       refine okG ?_
       refine okG ?_
       refine az fun r7 h_11_1_0 h_11_1_1 h_11_1_2 h_11_1_3=>?_
       refine okD (fun c_22=>?_) (fun c_22=>?_)
       ·refine okG ?_
        refine okG ?_
        refine az fun r8 h_14_1_0 h_14_1_1 h_14_1_2 h_14_1_3=>?_
        exact iO
       ·refine okD (fun c_23=>?_) (fun c_23=>?_)
        ·refine okG ?_
         exact iO
        ·exact iO
      ·exact iO
   ·refine okD (fun c_24=>?_) (fun c_24=>?_)
    ·refine okG ?_
     refine okG ?_
     refine cO fun r6 h_10_2_0 h_10_2_1 h_10_2_2=>?_
     refine okC (fun c_25=>?_) (fun c_25=>?_)
     ·have n_a:¬n<1:=fun q=>by rw[h_10_2_0 q] at c_25;cases c_25
      refine okG ?_
      refine okG ?_
      refine az fun r7 h_11_1_0 h_11_1_1 h_11_1_2 h_11_1_3=>?_
      refine okD (fun c_26=>?_) (fun c_26=>?_)
      ·refine okG ?_
       refine okG ?_
       refine az fun r8 h_14_1_0 h_14_1_1 h_14_1_2 h_14_1_3=>?_
       exact iO
      ·refine okD (fun c_27=>?_) (fun c_27=>?_)
       ·refine okG ?_
        exact iO
       ·exact iO
     ·exact iO
    ·refine okG ?_
     refine okG ?_
     refine cO fun r6 h_10_2_0 h_10_2_1 h_10_2_2=>?_
     refine okC (fun c_28=>?_) (fun c_28=>?_)
     ·have n_a:¬n<1:=fun q=>by rw[h_10_2_0 q] at c_28;cases c_28
      refine okG ?_
      refine okG ?_
      refine az fun r7 h_11_1_0 h_11_1_1 h_11_1_2 h_11_1_3=>?_
      refine okD (fun c_29=>?_) (fun c_29=>?_)
      ·refine okG ?_
       refine okG ?_
       refine az fun r8 h_14_1_0 h_14_1_1 h_14_1_2 h_14_1_3=>?_
       exact iO
      ·refine okD (fun c_30=>?_) (fun c_30=>?_)
       ·refine okG ?_
        exact iO
       ·exact iO
     ·exact iO
theorem F.uY (b:(List Int)) (p:Int) (tables:LTb) (n:Int) (h_b:Sm (Ty.sl (Ty.int .u8)) b) (h_tables:Sm (Ty.sl ag) tables) (p0:M.ak b) (p1:0<=p) (p2:p<=996000000000000) (p3:(∀t∈tables,M.eC t)) (p4:(∀t∈tables,M.fu t)) (p5:1<=tables.length):F.hD b p tables n=some (M.eR b p tables n):=gf (F.nU b p tables n h_b h_tables p0 p1 p2 p3 p4 p5)
theorem M.As (b:(List Int)) (p:Int) (tables:LTb) (n:Int) (h_b:Sm (Ty.sl (Ty.int .u8)) b) (h_tables:Sm (Ty.sl ag) tables) (p0:M.ak b) (p1:0<=p) (p2:p<=996000000000000) (p3:(∀t∈tables,M.eC t)) (p4:(∀t∈tables,M.fu t)) (p5:1<=tables.length):(M.eR b p tables n).1.2.1.length<=5/\(∀v∈(M.eR b p tables n).1.2.1,v.2.2.1.size<=20)/\p<=(M.eR b p tables n).2/\(M.eR b p tables n).2<=p+300/\(n<1->0<=(M.eR b p tables n).1.1)/\(n<1->(M.eR b p tables n).1.1<(tables.length:Int)):=gr (F.nU b p tables n h_b h_tables p0 p1 p2 p3 p4 p5)
theorem nr {α:Type} {K:α->Prop} {f:ay.D×Int->Option α} {b:(List Int)} {p:Int} {tables:LTb} {n:Int} (k:∀r,(r.1.2.1.length<=5)->(∀v∈r.1.2.1,v.2.2.1.size<=20)->(p<=r.2)->(r.2<=p+300)->(n<1->0<=r.1.1)->(n<1->r.1.1<(tables.length:Int))->ok (f r) K) (h_b:Sm (Ty.sl (Ty.int .u8)) b:=by exact au) (h_tables:Sm (Ty.sl ag) tables:=by exact au) (p0:M.ak b:=by exact au) (p1:0<=p:=by exact au) (p2:p<=996000000000000:=by exact au) (p3:(∀t∈tables,M.eC t):=by exact au) (p4:(∀t∈tables,M.fu t):=by exact au) (p5:1<=tables.length:=by exact au):ok (aL (M.eR b p tables n) f) K:=by
 have h:=M.As b p tables n h_b h_tables p0 p1 p2 p3 p4 p5
 obtain⟨h0,h1,h2,h3,h4,h5⟩:=h
 exact k _ h0 h1 h2 h3 h4 h5
theorem F.iP (code:(List Int)) (h_code:Sm (Ty.sl (Ty.int .u8)) code) (p0:M.ak code):ok (F.dM code) (fun r=>r.1.length<=3/\1<=r.1.length/\(∀t∈r.1,M.eC t)/\r.2.1.length<=3/\(∀g∈r.2.1,M.bdD g)/\r.2.2.2.1.length<=5/\(∀v∈r.2.2.2.1,v.2.2.1.size<=20)):=by
  unfold F.dM
  refine okD (fun c_3=>?_) (fun c_3=>?_)
  ·refine okG ?_
   refine okG ?_
   refine okG ?_
   refine okG ?_
   refine okG ?_
   refine nH fun r1 h_2_1_0 h_2_1_1 h_2_1_2 h_2_1_3 h_2_1_4 h_2_1_5 h_2_1_6 h_2_1_7 h_2_1_8=>?_
   refine okB (A:=fun e0=>0<=e0.1/\e0.1<=200000/\e0.2.length<=3/\(∀g∈e0.2,M.bdD g)) ?_ (fun e0 h_e0=>?_)
   ·refine okW (fun(k:Nat) (v0:Int×Int×(List ah.D))=>0<=v0.1/\v0.1<=3/\3<=v0.1+(k:Int)/\v0.2.2.length<=3/\(∀g∈v0.2.2,M.bdD g)/\0<=v0.2.1/\v0.2.1<=100000+v0.1) (fun k v0 hI=>?_) (3:Nat) _ ⟨au,au,au,au,au,au,au⟩
    obtain⟨i_0,i_1,i_2,i_3,i_4,i_5,i_6⟩:=hI
    unfold F.cn
    refine okD (fun c_0=>?_) (fun c_0=>?_)
    ·refine okG ?_
     refine okG ?_
     refine Dz (fun c_1=>?_) (fun c_1=>?_)
     ·refine okG ?_
      refine okG ?_
      refine okG ?_
      refine az fun r2 h_6_8_0 h_6_8_1 h_6_8_2 h_6_8_3=>?_
      refine okD (fun c_2=>?_) (fun c_2=>?_)
      ·refine okL fun y1 ey1=>?_
       subst ey1
       exact fc ⟨k-1,by omega,au,au,au,au,au,au,au⟩
      ·exact fc ⟨k-1,by omega,au,au,au,au,au,au,au⟩
     ·exact fc ⟨k-1,by omega,au,au,au,au,au,au,au⟩
    ·exact fF ⟨au,au,au,au⟩
   ·obtain⟨e0_0,e0_1,e0_2,e0_3⟩:=h_e0
    refine okG ?_
    refine okG ?_
    refine okG ?_
    refine okG ?_
    refine okG ?_
    refine okG ?_
    refine nr fun r3 h_8_4_0 h_8_4_1 h_8_4_2 h_8_4_3 h_8_4_4 h_8_4_5=>?_
    exact Ks
  ·refine okG ?_
   refine okG ?_
   refine nH fun r1 h_2_1_0 h_2_1_1 h_2_1_2 h_2_1_3 h_2_1_4 h_2_1_5 h_2_1_6 h_2_1_7 h_2_1_8=>?_
   refine okB (A:=fun e0=>0<=e0.1/\e0.1<=200000/\e0.2.length<=3/\(∀g∈e0.2,M.bdD g)) ?_ (fun e0 h_e0=>?_)
   ·refine okW (fun(k:Nat) (v0:Int×Int×(List ah.D))=>0<=v0.1/\v0.1<=3/\3<=v0.1+(k:Int)/\v0.2.2.length<=3/\(∀g∈v0.2.2,M.bdD g)/\0<=v0.2.1/\v0.2.1<=100000+v0.1) (fun k v0 hI=>?_) (3:Nat) _ ⟨au,au,au,au,au,au,au⟩
    obtain⟨i_0,i_1,i_2,i_3,i_4,i_5,i_6⟩:=hI
    unfold F.cn
    refine okD (fun c_0=>?_) (fun c_0=>?_)
    ·refine okG ?_
     refine okG ?_
     refine Dz (fun c_1=>?_) (fun c_1=>?_)
     ·refine okG ?_
      refine okG ?_
      refine okG ?_
      refine az fun r2 h_6_8_0 h_6_8_1 h_6_8_2 h_6_8_3=>?_
      refine okD (fun c_2=>?_) (fun c_2=>?_)
      ·refine okL fun y1 ey1=>?_
       subst ey1
       exact fc ⟨k-1,by omega,au,au,au,au,au,au,au⟩
      ·exact fc ⟨k-1,by omega,au,au,au,au,au,au,au⟩
     ·exact fc ⟨k-1,by omega,au,au,au,au,au,au,au⟩
    ·exact fF ⟨au,au,au,au⟩
   ·obtain⟨e0_0,e0_1,e0_2,e0_3⟩:=h_e0
    refine okG ?_
    refine okG ?_
    refine okG ?_
    refine okG ?_
    refine okG ?_
    refine okG ?_
    refine nr fun r3 h_8_4_0 h_8_4_1 h_8_4_2 h_8_4_3 h_8_4_4 h_8_4_5=>?_
    exact Ks
theorem F.oI (code:(List Int)) (h_code:Sm (Ty.sl (Ty.int .u8)) code) (p0:M.ak code):F.dM code=some (M.bR code):=gf (F.iP code h_code p0)
theorem M.ko (code:(List Int)) (h_code:Sm (Ty.sl (Ty.int .u8)) code) (p0:M.ak code):(M.bR code).1.length<=3/\1<=(M.bR code).1.length/\(∀t∈(M.bR code).1,M.eC t)/\(M.bR code).2.1.length<=3/\(∀g∈(M.bR code).2.1,M.bdD g)/\(M.bR code).2.2.2.1.length<=5/\(∀v∈(M.bR code).2.2.2.1,v.2.2.1.size<=20):=gr (F.iP code h_code p0)
theorem Az {α:Type} {K:α->Prop} {f:LTb×(List ah.D)×ay.D->Option α} {code:(List Int)} (k:∀r,(r.1.length<=3)->(1<=r.1.length)->(∀t∈r.1,M.eC t)->(r.2.1.length<=3)->(∀g∈r.2.1,M.bdD g)->(r.2.2.2.1.length<=5)->(∀v∈r.2.2.2.1,v.2.2.1.size<=20)->ok (f r) K) (h_code:Sm (Ty.sl (Ty.int .u8)) code:=by exact au) (p0:M.ak code:=by exact au):ok (aL (M.bR code) f) K:=by
 have h:=M.ko code h_code p0
 obtain⟨h0,h1,h2,h3,h4,h5,h6⟩:=h
 exact k _ h0 h1 h2 h3 h4 h5 h6
theorem F.yg (rows:LLV) (row:LV) (h_rows:Sm (Ty.sl (Ty.sl aa)) rows) (h_row:Sm (Ty.sl aa) row):F.qC rows row=some (M.bq rows row:Int):=by
 unfold F.qC M.bq
 have hl:=h_rows.1
 have key:∀(l:List (List aa.D)) (v:Int),0<=v->v+(l.length:Int)<=1048576->aW (F.gy rows row) l v=some (.inl (v+(l.countP (fun r=>decide (r=row)):Int))):=by
  intro l
  induction l with
  | nil=>intro v _ _;show some (Sum.inl v)=some (Sum.inl (v+0));rw[Int.add_zero]
  | cons x l ih=>
   intro v h0 hb
   simp only[List.length_cons] at hb
   rw[dz,List.countP_cons,show F.gy rows row x v=cond (decide (x=row)) (some (.inl (wrap64 (v+(1:Int))))) (some (.inl v)) from rfl]
   cases decide (x=row) with
   | true=>
    rw[cond_true,aO (n:=v+(1:Int)) (by omega) (by omega),bO,ih _ (by omega) (by omega)]
    congr 2
    simp
    omega
   | false=>
    rw[cond_false,bO,ih _ h0 (by omega)]
    congr 2
 rw[key rows 0 (by omega) (by omega),bO,Int.zero_add]
theorem F.wq (a:LLV) (b:LLV) (h_a:Sm (Ty.sl (Ty.sl aa)) a) (h_b:Sm (Ty.sl (Ty.sl aa)) b):F.ow a b=some (M.dX a b):=by
 unfold F.ow M.dX
 rw[M.DO (b:=b) h_a (fun z s hl h1 h2=>by
  have:=h_a.1
  unfold F.iD M.cW
  rw[ai h2]
  cases decide ((M.bq s.2 z:Int)<(M.bq b z:Int)) with
  | true=>
   rw[cond_true,cond_true,ai (by simp only[List.length_cons,List.length_nil,lim];omega)]
  | false=>
   rw[cond_false,cond_false]
   try rw[bW]
   rw[ai (by simp only[List.length_cons,List.length_nil,lim];omega)])]
 have hs:Sm (.sl (.sl aa)) (List.foldl (M.cW b) ([],[]) a).1:=M.Ix (b:=b) h_a
 rw[bO,ai hs,bW]
 show some (List.take _ _)=_
 rw[List.take_of_length_le (by omega)]
theorem F.qI (code:(List Int)) (h_code:Ln (Ty.sl (Ty.int .u8)) code) (p0:M.ak code):F.iH code=some true:=by
 unfold F.iH
 by_cases hc:(1048576:Int)<(code.length:Int)
 ·rw[decide_eq_true hc]
  rfl
 rw[decide_eq_false hc,cond_false]
 have hs:Sm (.sl (.int .u8)) code:=⟨by omega,fun _ _=>trivial⟩
 rw[ai hs,bW]
 obtain⟨d0,d1,d2,d3,d4,d5,d6⟩:=M.ko code hs p0
 generalize M.bR code=r at *
 obtain⟨ts,bs,c⟩:=r
 simp only at d0 d1 d2 d3 d4 d5 d6 ⊢
 have st:Sm (.sl ag) ts:=M.FK d0 d2 (by decide)
 have sb:Sm (.sl ah) bs:=M.Dm d3 d4 (by decide)
 have hbb:∀a:Bool,Ty.beq Ty.bool a a=true:=fun a=>by cases a<;>rfl
 have sc:Sm ay c:=M.Gs ⟨d5,d6⟩
 have sF:Sm (.sl ag) (M.aU ts bs c).1:=M.yw (bonds:=bs) st sc
 have hbl:=sb.1
 have hin:∀(n:Nat) (u:List ah.D),n<=bs.length->u.length+n<=bs.length →
   bL (F.cw code ts bs c (M.aU ts bs c).1 (M.aU ts bs c).2) ((n:Int)-1,u)=some (u++(bs.take n).reverse):=by
  intro n
  induction n with
  | zero=>
   intro u _ _
   rw[bQ]
   unfold F.cw
   simp[bD]
  | succ n ih=>
   intro u h1 h2
   rw[bQ]
   have e:F.cw code ts bs c (M.aU ts bs c).1 (M.aU ts bs c).2 (((n+1:Nat):Int)-1,u)=some (.inl ((n:Int)-1,u++[nth (t:=ah) bs (n:Int)])):=by
    unfold F.cw
    have e1:((n+1:Nat):Int)-1=(n:Int):=by omega
    simp only[e1]
    rw[decide_eq_true (show (0:Int)<=(n:Int) by omega),cond_true,ai (show (0:Int)<=(n:Int) by omega),ai (show (n:Int)<(bs.length:Int) by omega),ai (by simp only[List.length_cons,List.length_nil,lim];omega),aO (by omega) (by omega)]
   rw[e,bO,ih _ (by omega) (by simp;omega),M.Gv (t:=ah) (by omega),List.reverse_append]
   simp
 have hw:=hin bs.length [] (Nat.le_refl _) (by simp)
 rw[List.take_length,List.nil_append] at hw
 have sr:Sm (.sl ah) bs.reverse:=⟨by rw[List.length_reverse];exact sb.1,fun x hx=>sb.2 x (List.mem_reverse.1 hx)⟩
 simp only[bW,hbb,Bool.not_true,cond_true,cond_false,show ((false:Bool)==false)=true from rfl]
 rw[ai st,ai sb,ai sc,ai sF,ai sF,M.so,aO (n:=(bs.length:Int)-1) (by omega) (by omega),hw,Option.bind_some,ai sr,M.uP,hbb]
 simp only[Bool.not_true,cond_true,show ((false:Bool)==false)=true from rfl]
 rw[ai sF,M.so]
 cases h:(M.aU ts bs c).2 with
 | false=>rfl
 | true=>
  obtain⟨f1,f2,f3,f4⟩:=M.uu h
  have sA:=M.uD st sc f1
  have hfl:=sF.1
  rw[f1]
  simp only[Bool.not_true,cond_false,cond_true,show ((false:Bool)==false)=true from rfl]
  rw[decide_eq_true (show ((M.aQ ts c).length:Int)=((M.aU ts bs c).1.length:Int) by rw[f3]),Bool.not_true,cond_false,ai (show ((M.aU ts bs c).1.length:Int)<=oV by unfold oV;omega),fq (fun _=>true) () (fun i hi=>by
   obtain⟨i0,i1⟩:=cS.1 hi
   unfold F.eL
   have f5:=f4 i i0
   unfold M.rowsOf at f5
   rw[ai (show i<((M.aQ ts c).length:Int) by rw[<-f3];exact i1),ai (aH (t:=ag) sF i).2.1,ai (aH (t:=ag) sA i).2.1,bW,f5]
   rfl),List.all_eq_true.2 (fun _ _=>rfl),f2]
  rfl
end Go.AE
