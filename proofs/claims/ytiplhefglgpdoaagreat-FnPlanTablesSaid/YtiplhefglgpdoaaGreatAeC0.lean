/- Contracts. -/
import Derived.Test.YtiplhefglgpdoaaGreatAeY
import Derived.Test.YtiplhefglgpdoaaGreatAeEq
namespace Go.AE
open Go Go.RowKit Go.Proofs.Tryz
set_option maxRecDepth 100000
set_option maxHeartbeats 2000000
set_option linter.unusedVariables false
abbrev Q0 (p:Prop):Prop:=(p/\p)
theorem q0 {p:Prop} (h:p):Q0 p:=⟨h,h⟩
abbrev Q1 (p:Prop):Prop:=((p/\p)/\p)
theorem q1 {p:Prop} (h:p):Q1 p:=⟨⟨h,h⟩,h⟩
abbrev Q2 (p:Prop):Prop:=((p/\p)/\(p/\(p/\p))/\(p/\(p/\p)))
theorem q2 {p:Prop} (h:p):Q2 p:=⟨⟨h,h⟩,⟨h,⟨h,h⟩⟩,⟨h,⟨h,h⟩⟩⟩
abbrev Q3 (p:Prop):Prop:=(p/\(p/\p))
theorem q3 {p:Prop} (h:p):Q3 p:=⟨h,⟨h,h⟩⟩
abbrev Q4 (p:Prop):Prop:=(p/\(p/\(p/\p)))
theorem q4 {p:Prop} (h:p):Q4 p:=⟨h,⟨h,⟨h,h⟩⟩⟩
abbrev Q5 (p:Prop):Prop:=((p/\(p/\p))/\((p/\p)/\p))
theorem q5 {p:Prop} (h:p):Q5 p:=⟨⟨h,⟨h,h⟩⟩,⟨⟨h,h⟩,h⟩⟩
def c67:Con:=⟨[.dat ay,.dat ay,.dat ay],fun args hp K=>g3 (pD ay) (pD ay) (pD ay) (fun n low high=>K (dB (M.inR n low high)) []) args hp,.plain,false⟩
abbrev C67:Ctx:=cx [] 15 [] 0 false
def ann67:=an [[kp 7],[kp 64]] []
theorem vc67 (n:Int) (low:Int) (high:Int) (K:KA):vcT C67 aC ann67 f67 [dI n,dI low,dI high] [] (.dat Ty.bool) K =
 (cond ((decide (low<=n))==true) (K (dB (decide (n<=high))) []) (K (dB false) [])):=by kernel_rfl
theorem con67_ok:bp P 67 c67:=bt C67 func67 kN fun args hp K h0=>by
 obtain⟨n,low,high,rfl,rfl,hK⟩:=g3e h0
 have h:ok (F.oS n low high) (fun r=>K (dB r) []):=aA (F.xg n low high) hK
 refine⟨rfl,ann67,aC,(.dat Ty.bool),(aH (by kernel_rfl)),?_⟩
 ·rw[vc67]
  exact(oC h (fun _ h=>h) fun _ h=>h)
def c147:Con:=⟨[.dat Ty.str],fun args hp K=>g1 (pD Ty.str) (fun s=>(Sm Ty.str s)/\K (dB (M.lower (bM s))) []) args hp,.plain,false⟩
abbrev C147:Ctx:=cx [(67,c67)] 17 [] 0 false
def ann147:=an [[kp 1],[kp 448],[kp 960],[kp 464],[kp 33216],[kp 4],[kp 448],[kp 4]] [[kp 0]]
abbrev s147_0 (s:ByteArray) (i0:Int) (v0:Unit):St:=⟨[(6,.data TBy (bM s)),(7,dI ((bM s).length:Int)),(8,dI i0)],[]⟩
abbrev LP147_0 (s:ByteArray) (m:Nat) (st_:St) (K:KX):Prop:=True/\bU (t:=(Ty.int .u8)) (s147_0 s) (bM s) (F.iE s) (fun v0:Unit=>True) (bn (fun v0:Unit=>True->K (.exit 0) (⟨[],[]⟩:St)) (fun q0:Unit=>K .ret (⟨[(2,dB false)],[]⟩:St))) m st_
def L147 (s:ByteArray):bF:=lp1 0 (LP147_0 s)
theorem vc147 (s:ByteArray) (K:KA):vcT C147 (L147 s) ann147 f147 [.data Ty.str s] [] (.dat Ty.bool) K =
 (∃m_,True/\bU (t:=(Ty.int .u8)) (s147_0 s) (bM s) (F.iE s) (fun v0:Unit=>True) (bn (fun v0:Unit=>True->K (dB true) []) (fun q0:Unit=>K (dB false) [])) m_ (s147_0 s Z0 ())):=by kernel_rfl
theorem lvc147_0 (s:ByteArray)  (i0:Int) (v0:Unit) (m:Nat) (K:KX):lvT C147 (L147 s) ann147 f147 0 0 (s147_0 s i0 v0) m K =
 (cond (decide (i0<((bM s).length:Int))) ((0<=i0)/\(i0<((bM s).length:Int))/\cond (!(M.inR (wrap64 (nth (t:=(Ty.int .u8)) (bM s) i0)) (97:Int) (122:Int))) (K .ret (⟨[(2,dB false)],[]⟩:St)) (nxT (LP147_0 s) m K (s147_0 s (wrap64 (i0+Z1)) ()))) (K (.exit 0) (⟨[],[]⟩:St))):=by kernel_rfl
theorem con147_ok:bp P 147 c147:=bt C147 func147 (kC con67_ok kN) fun args hp K h0=>by
 obtain⟨s,rfl,rfl,h_s,hK⟩:=g1e h0
 have h:ok (F.oR s) (fun r=>K (dB r) []):=aA (F.xm s h_s) hK
 refine⟨rfl,ann147,(L147 s),(.dat Ty.bool),(bK (i0:=0) (by kernel_rfl) ?_),?_⟩
 ·rintro _ _ K ⟨hc0,i0,v0,rfl,hl0,rfl,hv0,h⟩
  exact cast (lvc147_0 _ _ _ _ _).symm (bz (t:=(Ty.int .u8)) hl0 h (fun ht0 h=>⟨hl0,⟨ht0,(oC h (fun _ h=>h) fun _ h=>(aY (t:=(Ty.int .u8)) (fun _ hm=>⟨hc0,hm⟩) _ rfl hl0 ht0 (bD (Hs h_s)) trivial h))⟩⟩) fun h=>(h trivial))
 ·rw[vc147]
  exact(bf (t:=(Ty.int .u8)) (fun m hm=>⟨trivial,hm⟩) _ rfl trivial (aR h (fun v0 h hv0=>h) (fun q0 h=>h)))
def c99:Con:=⟨[.dat aa],fun args hp K=>g1 (pD aa) (fun v=>(Sm aa v)/\K (dB (M.aP v)) []) args hp,.plain,false⟩
abbrev C99:Ctx:=cx [(67,c67),(147,c147)] 46 [] 0 false
def ann99:=an [[.fixRow 1 aa,kp 2],[kp 18],[kp 50],[kp 4],[kp 1042],[kp 4],[kp 1048594],[kp 4],[.keep [1,36]],[kp 4],[kp 4]] []
theorem vc99 (v:aa.D) (K:KA):vcT C99 aC ann99 f99 [.data aa v] [] (.dat Ty.bool) K =
 (cond (decide (v.1=Z0)) (K (dB (Ty.beq aa v (Z0,(Z0,((⟨#[]⟩:ByteArray),()))))) []) (cond (decide (v.1=Z1)) (cond ((decide (v.2.2.1=(⟨#[]⟩:ByteArray)))==true) (K (dB (M.inR v.2.1 (-9999:Int) (9999:Int))) []) (K (dB false) [])) (cond (decide (v.1=Z2)) (cond ((decide (v.2.1=Z0))==true) (cond ((decide ((v.2.2.1.size:Int)<=Z6))==true) ((Sm Ty.str v.2.2.1)/\K (dB (M.lower (bM v.2.2.1))) []) (K (dB false) [])) (K (dB false) [])) (cond (decide (v.1=Z3)) (cond ((decide (v.2.2.1=(⟨#[]⟩:ByteArray)))==true) (K (dB (M.inR v.2.1 Z0 Z1)) []) (K (dB false) [])) (K (dB false) []))))):=by kernel_rfl
theorem con99_ok:bp P 99 c99:=bt C99 func99 (kC con67_ok (kC con147_ok kN)) fun args hp K h0=>by
 obtain⟨v,rfl,rfl,h_v,hK⟩:=g1e h0
 have h:ok (F.mX v) (fun r=>K (dB r) []):=aA (F.vK v h_v) hK
 refine⟨rfl,ann99,aC,(.dat Ty.bool),(aH (by kernel_rfl)),?_⟩
 ·rw[vc99]
  exact(oC h (fun _ h=>h) fun _ h=>(oC h (fun _ h=>(oC h (fun _ h=>h) fun _ h=>h)) fun _ h=>(oC h (fun _ h=>(oC h (fun _ h=>(oC h (fun _ h=>⟨h_v.2.2.1,h⟩) fun _ h=>h)) fun _ h=>h)) fun _ h=>(oC h (fun _ h=>(oC h (fun _ h=>h) fun _ h=>h)) fun _ h=>h))))
def c53:Con:=⟨[.dat aa],fun args hp K=>g1 (pD aa) (fun v=>(Sm aa v)/\K (dB (M.aP v)) []) args hp,.plain,false⟩
abbrev C53:Ctx:=cx [(99,c99)] 5 [] 0 false
def ann53:=an [[.fixRow 1 aa,kp 2],[kp 4]] []
theorem vc53 (v:aa.D) (K:KA):vcT C53 aC ann53 f53 [.data aa v] [] (.dat Ty.bool) K =
 ((Sm aa v)/\K (dB (M.aP v)) []):=by kernel_rfl
theorem con53_ok:bp P 53 c53:=bt C53 func53 (kC con99_ok kN) fun args hp K h0=>by
 obtain⟨v,rfl,rfl,h_v,hK⟩:=g1e h0
 have h:ok (F.uc v) (fun r=>K (dB r) []):=aA (F.wR v h_v) hK
 refine⟨rfl,ann53,aC,(.dat Ty.bool),(aH (by kernel_rfl)),?_⟩
 ·rw[vc53]
  exact⟨h_v,h⟩
def c14:Con:=⟨[],fun args hp K=>GY (K (dB true) []) args hp,.plain,false⟩
abbrev C14:Ctx:=cx [(53,c53)] 8 [] 0 false
def ann14:=an [[kp 0],[kp 1]] []
theorem vc14  (K:KA):vcT C14 aC ann14 f14 [] [] (.dat Ty.bool) K =
 ((Sm aa (Z1,(Z3,((⟨#[]⟩:ByteArray),()))))/\cond ((M.aP (Z1,(Z3,((⟨#[]⟩:ByteArray),()))))==true) ((Sm aa ((9:Int),(Z0,((⟨#[]⟩:ByteArray),()))))/\K (dB (!(M.aP ((9:Int),(Z0,((⟨#[]⟩:ByteArray),())))))) []) (K (dB false) [])):=by kernel_rfl
theorem con14_ok:bp P 14 c14:=bt C14 func14 (kC con53_ok kN) fun args hp K h0=>by
 obtain⟨rfl,rfl,h1⟩:=DK h0
 have hK:=h1
 have h:ok (F.sk) (fun r=>K (dB r) []):=aA (F.zx) hK
 refine⟨rfl,ann14,aC,(.dat Ty.bool),(aH (by kernel_rfl)),?_⟩
 ·rw[vc14]
  exact⟨(show Sm aa _ from⟨trivial,(show Sm (Ty.pair ay (Ty.pair Ty.str Ty.unit)) _ from⟨trivial,(show Sm (Ty.pair Ty.str Ty.unit) _ from⟨(Nat.le_of_ble_eq_true rfl),trivial⟩)⟩)⟩),(oC h (fun _ h=>⟨(show Sm aa _ from⟨trivial,(show Sm (Ty.pair ay (Ty.pair Ty.str Ty.unit)) _ from⟨trivial,(show Sm (Ty.pair Ty.str Ty.unit) _ from⟨(Nat.le_of_ble_eq_true rfl),trivial⟩)⟩)⟩),h⟩) fun _ h=>h)⟩
def c98:Con:=⟨[.dat ag],fun args hp K=>g1 (pD ag) (fun c=>K (dB (!M.dW c)) []) args hp,.plain,false⟩
abbrev C98:Ctx:=cx [(67,c67)] 7 [] 0 false
def ann98:=an [[.fixRow 1 ag,kp 2],[kp 4]] []
theorem vc98 (c:ag.D) (K:KA):vcT C98 aC ann98 f98 [.data ag c] [] (.dat Ty.bool) K =
 (K (dB (!(M.inR c.1 Z1 Z3))) []):=by kernel_rfl
theorem con98_ok:bp P 98 c98:=bt C98 func98 (kC con67_ok kN) fun args hp K h0=>by
 obtain⟨c,rfl,rfl,hK⟩:=g1e h0
 have h:ok (F.nR c) (fun r=>K (dB r) []):=aA (F.rK c) hK
 refine⟨rfl,ann98,aC,(.dat Ty.bool),(aH (by kernel_rfl)),?_⟩
 ·rw[vc98]
  exact h
def c146:Con:=⟨[.lent ag,.any],fun args hp K=>args2 (fun a0 a1=>lg ag a0 fun xs=>pU 98 a1 (wB ((Sm TCS xs)/\K (dI (M.idx (t:=ag) (fun e=>!M.dW e) xs)) []))) args hp,.plain,false⟩
abbrev C146:Ctx:=cx [(98,c98)] 19 [] 0 false
def ann146:=an [[kp 3],[kp 387],[kp 899],[kp 419],[kp 65955],[kp 16],[kp 387],[kp 16]] [[kp 0]]
abbrev s146_0 (xs:LC) (i0:Int) (v0:Unit):St:=⟨[(0,.brw ag xs),(1,.fn 98 []),(7,dI (xs.length:Int)),(8,dI i0)],[]⟩
abbrev LP146_0 (xs:LC) (m:Nat) (st_:St) (K:KX):Prop:=True/\cB (s146_0 xs) Z0 (xs.length:Int) (F.cG xs) (fun v0:Unit=>True) (bn (fun v0:Unit=>True->K (.exit 0) (⟨[],[]⟩:St)) (fun q0:Int=>K .ret (⟨[(4,dI q0)],[]⟩:St))) m st_
def L146 (xs:LC):bF:=lp1 0 (LP146_0 xs)
theorem vc146 (xs:LC) (K:KA):vcT C146 (L146 xs) ann146 f146 [.brw ag xs,.fn 98 []] [] (.dat ay) K =
 (∃m_,True/\cB (s146_0 xs) Z0 (xs.length:Int) (F.cG xs) (fun v0:Unit=>True) (bn (fun v0:Unit=>True->K (dI (-1:Int)) []) (fun q0:Int=>K (dI q0) [])) m_ (s146_0 xs Z0 ())):=by kernel_rfl
theorem lvc146_0 (xs:LC)  (i0:Int) (v0:Unit) (m:Nat) (K:KX):lvT C146 (L146 xs) ann146 f146 0 0 (s146_0 xs i0 v0) m K =
 (cond (decide (i0<(xs.length:Int))) ((0<=i0)/\(i0<(xs.length:Int))/\cond (!M.dW (nC xs i0)) (K .ret (⟨[(4,dI i0)],[]⟩:St)) (nxT (LP146_0 xs) m K (s146_0 xs (wrap64 (i0+Z1)) ()))) (K (.exit 0) (⟨[],[]⟩:St))):=by kernel_rfl
theorem con146_ok:bp P 146 c146:=bt C146 func146 (kC con98_ok kN) fun args hp K h0=>by
 obtain⟨a0,a1,rfl,rfl,h1⟩:=bP h0
 obtain⟨xs,rfl,h2⟩:=cV h1
 obtain⟨cs1,rfl,h3⟩:=eX h2
 obtain⟨rfl,h4⟩:=jF h3
 obtain⟨h_xs,hK⟩:=h4
 have h:ok (F.gH xs) (fun r=>K (dI r) []):=aA (F.kE xs h_xs) hK
 refine⟨rfl,ann146,(L146 xs),(.dat ay),(bK (i0:=0) (by kernel_rfl) ?_),?_⟩
 ·rintro _ _ K ⟨hc0,i0,v0,rfl,hl0,rfl,hv0,h⟩
  exact cast (lvc146_0 _ _ _ _ _).symm (bO h (fun ht0 h=>⟨hl0,⟨ht0,(oC h (fun _ h=>h) fun _ h=>(aV (fun _ hm=>⟨hc0,hm⟩) _ rfl hl0 iM ht0 (bD h_xs) trivial h))⟩⟩) fun h=>(h trivial))
 ·rw[vc146]
  exact(bE (fun m hm=>⟨trivial,hm⟩) Z0 _ rfl (Int.natCast_nonneg 0) trivial (aR h (fun v0 h hv0=>h) (fun q0 h=>h)))
def c97:Con:=⟨[.lent ag,.any],fun args hp K=>args2 (fun a0 a1=>lg ag a0 fun xs=>pU 98 a1 (wB ((Sm TCS xs)/\K (dB (List.any xs (fun e=>!M.dW e))) []))) args hp,.plain,false⟩
abbrev C97:Ctx:=cx [(98,c98),(146,c146)] 9 [] 0 false
def ann97:=an [[kp 3],[kp 16]] []
theorem vc97 (xs:LC) (K:KA):vcT C97 aC ann97 f97 [.brw ag xs,.fn 98 []] [] (.dat Ty.bool) K =
 ((Sm TCS xs)/\K (dB (decide (Z0<=(M.idx (t:=ag) (fun e=>!M.dW e) xs)))) []):=by kernel_rfl
theorem con97_ok:bp P 97 c97:=bt C97 func97 (kC con98_ok (kC con146_ok kN)) fun args hp K h0=>by
 obtain⟨a0,a1,rfl,rfl,h1⟩:=bP h0
 obtain⟨xs,rfl,h2⟩:=cV h1
 obtain⟨cs1,rfl,h3⟩:=eX h2
 obtain⟨rfl,h4⟩:=jF h3
 obtain⟨h_xs,hK⟩:=h4
 have h:ok (F.dF xs) (fun r=>K (dB r) []):=aA (F.js xs h_xs) hK
 refine⟨rfl,ann97,aC,(.dat Ty.bool),(aH (by kernel_rfl)),?_⟩
 ·rw[vc97]
  exact⟨h_xs,h⟩
def c49:Con:=⟨[.dat TCS],fun args hp K=>g1 (pD TCS) (fun columns=>(Sm TCS columns)/\K (dB (M.bA columns)) []) args hp,.plain,false⟩
abbrev C49:Ctx:=cx [(97,c97)] 11 [] 0 false
def ann49:=an [[kp 1],[kp 4]] []
theorem vc49 (columns:LC) (K:KA):vcT C49 aC ann49 f49 [.data TCS columns] [] (.dat Ty.bool) K =
 (cond ((decide ((columns.length:Int)<=Z4))==true) ((Sm TCS columns)/\K (dB (!(List.any columns (fun e=>!M.dW e)))) []) (K (dB false) [])):=by kernel_rfl
theorem con49_ok:bp P 49 c49:=bt C49 func49 (kC con97_ok kN) fun args hp K h0=>by
 obtain⟨columns,rfl,rfl,h_columns,hK⟩:=g1e h0
 have h:ok (F.mo columns) (fun r=>K (dB r) []):=aA (F.tn columns h_columns) hK
 refine⟨rfl,ann49,aC,(.dat Ty.bool),(aH (by kernel_rfl)),?_⟩
 ·rw[vc49]
  exact(oC h (fun _ h=>⟨h_columns,h⟩) fun _ h=>h)
def c150:Con:=⟨[.dat aa],fun args hp K=>g1 (pD aa) (fun v=>(Sm aa v)/\K (dB (!M.aP v)) []) args hp,.plain,false⟩
abbrev C150:Ctx:=cx [(99,c99)] 6 [] 0 false
def ann150:=an [[.fixRow 1 aa,kp 2],[kp 4]] []
theorem vc150 (v:aa.D) (K:KA):vcT C150 aC ann150 f150 [.data aa v] [] (.dat Ty.bool) K =
 ((Sm aa v)/\K (dB (!(M.aP v))) []):=by kernel_rfl
theorem con150_ok:bp P 150 c150:=bt C150 func150 (kC con99_ok kN) fun args hp K h0=>by
 obtain⟨v,rfl,rfl,h_v,hK⟩:=g1e h0
 have h:ok (F.uH v) (fun r=>K (dB r) []):=aA (F.wX v h_v) hK
 refine⟨rfl,ann150,aC,(.dat Ty.bool),(aH (by kernel_rfl)),?_⟩
 ·rw[vc150]
  exact⟨h_v,h⟩
def c184:Con:=⟨[.lent aa,.any],fun args hp K=>args2 (fun a0 a1=>lg aa a0 fun xs=>pU 150 a1 (wB ((Sm TVS xs)/\K (dI (M.idx (t:=aa) (fun e=>!M.aP e) xs)) []))) args hp,.plain,false⟩
abbrev C184:Ctx:=cx [(150,c150)] 19 [] 0 false
def ann184:=an [[kp 3],[kp 387],[kp 899],[kp 419],[kp 65955],[kp 16],[kp 387],[kp 16]] [[kp 0]]
abbrev s184_0 (xs:LV) (i0:Int) (v0:Unit):St:=⟨[(0,.brw aa xs),(1,.fn 150 []),(7,dI (xs.length:Int)),(8,dI i0)],[]⟩
abbrev LP184_0 (xs:LV) (m:Nat) (st_:St) (K:KX):Prop:=True/\cB (s184_0 xs) Z0 (xs.length:Int) (F.di xs) (fun v0:Unit=>True) (bn (fun v0:Unit=>True->K (.exit 0) (⟨[],[]⟩:St)) (fun q0:Int=>K .ret (⟨[(4,dI q0)],[]⟩:St))) m st_
def L184 (xs:LV):bF:=lp1 0 (LP184_0 xs)
theorem vc184 (xs:LV) (K:KA):vcT C184 (L184 xs) ann184 f184 [.brw aa xs,.fn 150 []] [] (.dat ay) K =
 (∃m_,True/\cB (s184_0 xs) Z0 (xs.length:Int) (F.di xs) (fun v0:Unit=>True) (bn (fun v0:Unit=>True->K (dI (-1:Int)) []) (fun q0:Int=>K (dI q0) [])) m_ (s184_0 xs Z0 ())):=by kernel_rfl
theorem lvc184_0 (xs:LV)  (i0:Int) (v0:Unit) (m:Nat) (K:KX):lvT C184 (L184 xs) ann184 f184 0 0 (s184_0 xs i0 v0) m K =
 (cond (decide (i0<(xs.length:Int))) ((0<=i0)/\(i0<(xs.length:Int))/\(Sm aa (nV xs i0))/\cond (!M.aP (nV xs i0)) (K .ret (⟨[(4,dI i0)],[]⟩:St)) (nxT (LP184_0 xs) m K (s184_0 xs (wrap64 (i0+Z1)) ()))) (K (.exit 0) (⟨[],[]⟩:St))):=by kernel_rfl
theorem con184_ok:bp P 184 c184:=bt C184 func184 (kC con150_ok kN) fun args hp K h0=>by
 obtain⟨a0,a1,rfl,rfl,h1⟩:=bP h0
 obtain⟨xs,rfl,h2⟩:=cV h1
 obtain⟨cs1,rfl,h3⟩:=eX h2
 obtain⟨rfl,h4⟩:=jF h3
 obtain⟨h_xs,hK⟩:=h4
 have h:ok (F.ji xs) (fun r=>K (dI r) []):=aA (F.mH xs h_xs) hK
 refine⟨rfl,ann184,(L184 xs),(.dat ay),(bK (i0:=0) (by kernel_rfl) ?_),?_⟩
 ·rintro _ _ K ⟨hc0,i0,v0,rfl,hl0,rfl,hv0,h⟩
  exact cast (lvc184_0 _ _ _ _ _).symm (bO h (fun ht0 h=>⟨hl0,⟨ht0,⟨(aU h_xs i0),(oC h (fun _ h=>h) fun _ h=>(aV (fun _ hm=>⟨hc0,hm⟩) _ rfl hl0 iM ht0 (bD h_xs) trivial h))⟩⟩⟩) fun h=>(h trivial))
 ·rw[vc184]
  exact(bE (fun m hm=>⟨trivial,hm⟩) Z0 _ rfl (Int.natCast_nonneg 0) trivial (aR h (fun v0 h hv0=>h) (fun q0 h=>h)))
def c149:Con:=⟨[.lent aa,.any],fun args hp K=>args2 (fun a0 a1=>lg aa a0 fun xs=>pU 150 a1 (wB ((Sm TVS xs)/\K (dB (List.any xs (fun e=>!M.aP e))) []))) args hp,.plain,false⟩
abbrev C149:Ctx:=cx [(150,c150),(184,c184)] 9 [] 0 false
def ann149:=an [[kp 3],[kp 16]] []
theorem vc149 (xs:LV) (K:KA):vcT C149 aC ann149 f149 [.brw aa xs,.fn 150 []] [] (.dat Ty.bool) K =
 ((Sm TVS xs)/\K (dB (decide (Z0<=(M.idx (t:=aa) (fun e=>!M.aP e) xs)))) []):=by kernel_rfl
theorem con149_ok:bp P 149 c149:=bt C149 func149 (kC con150_ok (kC con184_ok kN)) fun args hp K h0=>by
 obtain⟨a0,a1,rfl,rfl,h1⟩:=bP h0
 obtain⟨xs,rfl,h2⟩:=cV h1
 obtain⟨cs1,rfl,h3⟩:=eX h2
 obtain⟨rfl,h4⟩:=jF h3
 obtain⟨h_xs,hK⟩:=h4
 have h:ok (F.eK xs) (fun r=>K (dB r) []):=aA (F.kR xs h_xs) hK
 refine⟨rfl,ann149,aC,(.dat Ty.bool),(aH (by kernel_rfl)),?_⟩
 ·rw[vc149]
  exact⟨h_xs,h⟩
def c103:Con:=⟨[.dat TVS],fun args hp K=>g1 (pD TVS) (fun row=>(Sm TVS row)/\K (dB (M.nY row)) []) args hp,.plain,false⟩
abbrev C103:Ctx:=cx [(149,c149)] 11 [] 0 false
def ann103:=an [[kp 1],[kp 4]] []
theorem vc103 (row:LV) (K:KA):vcT C103 aC ann103 f103 [.data TVS row] [] (.dat Ty.bool) K =
 (cond ((decide ((row.length:Int)<=Z4))==true) ((Sm TVS row)/\K (dB (!(List.any row (fun e=>!M.aP e)))) []) (K (dB false) [])):=by kernel_rfl
theorem con103_ok:bp P 103 c103:=bt C103 func103 (kC con149_ok kN) fun args hp K h0=>by
 obtain⟨row,rfl,rfl,h_row,hK⟩:=g1e h0
 have h:ok (F.sV row) (fun r=>K (dB r) []):=aA (F.Ad row h_row) hK
 refine⟨rfl,ann103,aC,(.dat Ty.bool),(aH (by kernel_rfl)),?_⟩
 ·rw[vc103]
  exact(oC h (fun _ h=>⟨h_row,h⟩) fun _ h=>h)
def c54:Con:=⟨[.dat TCS,.dat TVS],fun args hp K=>g2 (pD TCS) (pD TVS) (fun columns row=>(Sm TCS columns)/\(Sm TVS row)/\K (dB (M.cq columns row)) []) args hp,.plain,false⟩
abbrev C54:Ctx:=cx [(49,c49),(103,c103)] 51 [] 0 false
def ann54:=an [[kp 3],[kp 2097155],[kp 16],[kp 29360129],[kp 62914561],[.fixRow 6 aa,kp 29360225],[kp 562949982781441],[kp 16],[kp 29360129],[kp 16]] [[kp 0]]
abbrev s54_0 (columns:LC) (row:LV) (i0:Int) (v0:Unit):St:=⟨[(0,.data TCS columns),(22,.data TVS row),(23,dI (row.length:Int)),(24,dI i0)],[]⟩
abbrev LP54_0 (columns:LC) (row:LV) (m:Nat) (st_:St) (K:KX):Prop:=True/\cB (s54_0 columns row) Z0 (row.length:Int) (F.iD columns row) (fun v0:Unit=>True) (bn (fun v0:Unit=>True->K (.exit 0) (⟨[],[]⟩:St)) (fun q0:Unit=>K .ret (⟨[(4,dB false)],[]⟩:St))) m st_
def L54 (columns:LC) (row:LV):bF:=lp1 0 (LP54_0 columns row)
theorem vc54 (columns:LC) (row:LV) (K:KA):vcT C54 (L54 columns row) ann54 f54 [.data TCS columns,.data TVS row] [] (.dat Ty.bool) K =
 ((Sm TCS columns)/\cond ((!(M.bA columns))==false) ((Sm TVS row)/\cond ((!(M.nY row))==false) (cond (!decide ((row.length:Int)=(columns.length:Int))) (K (dB false) []) (∃m_,True/\cB (s54_0 columns row) Z0 (row.length:Int) (F.iD columns row) (fun v0:Unit=>True) (bn (fun v0:Unit=>True->K (dB true) []) (fun q0:Unit=>K (dB false) [])) m_ (s54_0 columns row Z0 ()))) (K (dB false) [])) (K (dB false) [])):=by kernel_rfl
theorem lvc54_0 (columns:LC) (row:LV)  (i0:Int) (v0:Unit) (m:Nat) (K:KX):lvT C54 (L54 columns row) ann54 f54 0 0 (s54_0 columns row i0 v0) m K =
 (cond (decide (i0<(row.length:Int))) ((0<=i0)/\(i0<(row.length:Int))/\(0<=i0)/\(i0<(columns.length:Int))/\cond ((!decide ((nV row i0).1=(nC columns i0).1))==true) (cond ((!decide ((nV row i0).1=Z0))==false) ((0<=i0)/\(i0<(columns.length:Int))/\cond (!(nC columns i0).2.1) (K .ret (⟨[(4,dB false)],[]⟩:St)) (nxT (LP54_0 columns row) m K (s54_0 columns row (wrap64 (i0+Z1)) ()))) (K .ret (⟨[(4,dB false)],[]⟩:St))) (nxT (LP54_0 columns row) m K (s54_0 columns row (wrap64 (i0+Z1)) ()))) (K (.exit 0) (⟨[],[]⟩:St))):=by kernel_rfl
theorem con54_ok:bp P 54 c54:=bt C54 func54 (kC con49_ok (kC con103_ok kN)) fun args hp K h0=>by
 obtain⟨columns,row,rfl,rfl,h_columns,h_row,hK⟩:=g2e h0
 have h:ok (F.pH columns row) (fun r=>K (dB r) []):=aA (F.wY columns row h_columns h_row) hK
 refine⟨rfl,ann54,(L54 columns row),(.dat Ty.bool),(bK (i0:=0) (by kernel_rfl) ?_),?_⟩
 ·rintro _ _ K ⟨hc0,i0,v0,rfl,hl0,rfl,hv0,h⟩
  exact cast (lvc54_0 _ _ _ _ _ _).symm (bO h (fun ht0 h=>⟨hl0,⟨ht0,⟨hl0,(oG h fun g1 h=>(oC h (fun _ h=>(oC h (fun _ h=>⟨hl0,⟨g1,(oC h (fun _ h=>h) fun _ h=>(aV (fun _ hm=>⟨hc0,hm⟩) _ rfl hl0 iM ht0 (bD h_row) trivial h))⟩⟩) fun _ h=>h)) fun _ h=>(aV (fun _ hm=>⟨hc0,hm⟩) _ rfl hl0 iM ht0 (bD h_row) trivial h)))⟩⟩⟩) fun h=>(h trivial))
 ·rw[vc54]
  exact⟨h_columns,(oC h (fun _ h=>⟨h_row,(oC h (fun _ h=>(oC h (fun _ h=>h) fun _ h=>(bE (fun m hm=>⟨trivial,hm⟩) Z0 _ rfl (Int.natCast_nonneg 0) trivial (aR h (fun v0 h hv0=>h) (fun q0 h=>h))))) fun _ h=>h)⟩) fun _ h=>h)⟩
def c189:Con:=⟨[.dat TVS,.any],fun args hp K=>g2 (pD TVS) (pR TCS) (fun r columns=>(Sm TVS r)/\(Sm TCS columns)/\K (dB (!M.cq columns r)) []) args hp,.plain,false⟩
abbrev C189:Ctx:=cx [(54,c54)] 8 [] 0 false
def ann189:=an [[kp 3],[kp 8]] []
theorem vc189 (r:LV) (columns:LC) (K:KA):vcT C189 aC ann189 f189 [.data TVS r,.ref (.data TCS columns)] [] (.dat Ty.bool) K =
 ((Sm TCS columns)/\(Sm TVS r)/\K (dB (!(M.cq columns r))) []):=by kernel_rfl
theorem con189_ok:bp P 189 c189:=bt C189 func189 (kC con54_ok kN) fun args hp K h0=>by
 obtain⟨r,columns,rfl,rfl,h_r,h_columns,hK⟩:=g2e h0
 have h:ok (F.rS r columns) (fun r=>K (dB r) []):=aA (F.vf r columns h_r h_columns) hK
 refine⟨rfl,ann189,aC,(.dat Ty.bool),(aH (by kernel_rfl)),?_⟩
 ·rw[vc189]
  exact⟨h_columns,⟨h_r,h⟩⟩
def c209:Con:=⟨[.lent TVS,.any],fun args hp K=>args2 (fun a0 a1=>lg TVS a0 fun xs=>pU 189 a1 (Ay (fun b1_0=>yd TCS b1_0 fun k0=>(Sm (Ty.sl TVS) xs)/\(Sm TCS k0)/\K (dI (M.idx (t:=TVS) (fun e=>!M.cq k0 e) xs)) []))) args hp,.plain,false⟩
abbrev C209:Ctx:=cx [(189,c189)] 19 [] 0 false
def ann209:=an [[kp 3],[kp 387],[kp 899],[kp 419],[kp 65955],[kp 16],[kp 387],[kp 16]] [[kp 0]]
abbrev s209_0 (xs:(List LV)) (k0:LC) (i0:Int) (v0:Unit):St:=⟨[(0,.brw TVS xs),(1,.fn 189 [.ref (.data TCS k0)]),(7,dI (xs.length:Int)),(8,dI i0)],[]⟩
abbrev LP209_0 (xs:(List LV)) (k0:LC) (m:Nat) (st_:St) (K:KX):Prop:=True/\cB (s209_0 xs k0) Z0 (xs.length:Int) (F.dc xs k0) (fun v0:Unit=>True) (bn (fun v0:Unit=>True->K (.exit 0) (⟨[],[]⟩:St)) (fun q0:Int=>K .ret (⟨[(4,dI q0)],[]⟩:St))) m st_
def L209 (xs:(List LV)) (k0:LC):bF:=lp1 0 (LP209_0 xs k0)
theorem vc209 (xs:(List LV)) (k0:LC) (K:KA):vcT C209 (L209 xs k0) ann209 f209 [.brw TVS xs,.fn 189 [.ref (.data TCS k0)]] [] (.dat ay) K =
 (∃m_,True/\cB (s209_0 xs k0) Z0 (xs.length:Int) (F.dc xs k0) (fun v0:Unit=>True) (bn (fun v0:Unit=>True->K (dI (-1:Int)) []) (fun q0:Int=>K (dI q0) [])) m_ (s209_0 xs k0 Z0 ())):=by kernel_rfl
theorem lvc209_0 (xs:(List LV)) (k0:LC)  (i0:Int) (v0:Unit) (m:Nat) (K:KX):lvT C209 (L209 xs k0) ann209 f209 0 0 (s209_0 xs k0 i0 v0) m K =
 (cond (decide (i0<(xs.length:Int))) ((0<=i0)/\(i0<(xs.length:Int))/\(Sm TVS (nth (t:=TVS) xs i0))/\(Sm TCS k0)/\cond (!M.cq k0 (nth (t:=TVS) xs i0)) (K .ret (⟨[(4,dI i0)],[]⟩:St)) (nxT (LP209_0 xs k0) m K (s209_0 xs k0 (wrap64 (i0+Z1)) ()))) (K (.exit 0) (⟨[],[]⟩:St))):=by kernel_rfl
theorem con209_ok:bp P 209 c209:=bt C209 func209 (kC con189_ok kN) fun args hp K h0=>by
 obtain⟨a0,a1,rfl,rfl,h1⟩:=bP h0
 obtain⟨xs,rfl,h2⟩:=cV h1
 obtain⟨cs1,rfl,h3⟩:=eX h2
 obtain⟨b1_0,rfl,h4⟩:=oN h3
 obtain⟨k0,rfl,h5⟩:=mC h4
 obtain⟨h_xs,h_k0,hK⟩:=h5
 have h:ok (F.iO xs k0) (fun r=>K (dI r) []):=aA (F.mj xs k0 h_xs h_k0) hK
 refine⟨rfl,ann209,(L209 xs k0),(.dat ay),(bK (i0:=0) (by kernel_rfl) ?_),?_⟩
 ·rintro _ _ K ⟨hc0,i0,v0,rfl,hl0,rfl,hv0,h⟩
  exact cast (lvc209_0 _ _ _ _ _ _).symm (bO h (fun ht0 h=>⟨hl0,⟨ht0,⟨(aU h_xs i0),⟨h_k0,(oC h (fun _ h=>h) fun _ h=>(aV (fun _ hm=>⟨hc0,hm⟩) _ rfl hl0 iM ht0 (bD h_xs) trivial h))⟩⟩⟩⟩) fun h=>(h trivial))
 ·rw[vc209]
  exact(bE (fun m hm=>⟨trivial,hm⟩) Z0 _ rfl (Int.natCast_nonneg 0) trivial (aR h (fun v0 h hv0=>h) (fun q0 h=>h)))
def c188:Con:=⟨[.lent TVS,.any],fun args hp K=>args2 (fun a0 a1=>lg TVS a0 fun xs=>pU 189 a1 (Ay (fun b1_0=>yd TCS b1_0 fun k0=>(Sm (Ty.sl TVS) xs)/\(Sm TCS k0)/\K (dB (List.any xs (fun e=>!M.cq k0 e))) []))) args hp,.plain,false⟩
abbrev C188:Ctx:=cx [(189,c189),(209,c209)] 9 [] 0 false
def ann188:=an [[kp 3],[kp 16]] []
theorem vc188 (xs:(List LV)) (k0:LC) (K:KA):vcT C188 aC ann188 f188 [.brw TVS xs,.fn 189 [.ref (.data TCS k0)]] [] (.dat Ty.bool) K =
 ((Sm (Ty.sl TVS) xs)/\(Sm TCS k0)/\K (dB (decide (Z0<=(M.idx (t:=TVS) (fun e=>!M.cq k0 e) xs)))) []):=by kernel_rfl
theorem con188_ok:bp P 188 c188:=bt C188 func188 (kC con189_ok (kC con209_ok kN)) fun args hp K h0=>by
 obtain⟨a0,a1,rfl,rfl,h1⟩:=bP h0
 obtain⟨xs,rfl,h2⟩:=cV h1
 obtain⟨cs1,rfl,h3⟩:=eX h2
 obtain⟨b1_0,rfl,h4⟩:=oN h3
 obtain⟨k0,rfl,h5⟩:=mC h4
 obtain⟨h_xs,h_k0,hK⟩:=h5
 have h:ok (F.ep xs k0) (fun r=>K (dB r) []):=aA (F.kA xs k0 h_xs h_k0) hK
 refine⟨rfl,ann188,aC,(.dat Ty.bool),(aH (by kernel_rfl)),?_⟩
 ·rw[vc188]
  exact⟨h_xs,⟨h_k0,h⟩⟩
def c155:Con:=⟨[.dat TCS,.dat (Ty.sl TVS)],fun args hp K=>g2 (pD TCS) (pD (Ty.sl TVS)) (fun columns rows=>(Sm TCS columns)/\(Sm (Ty.sl TVS) rows)/\K (dB (M.fX columns rows)) []) args hp,.plain,false⟩
abbrev C155:Ctx:=cx [(49,c49),(188,c188),(189,c189)] 13 [] 0 false
def ann155:=an [[.fixBox 2,kp 6],[kp 16]] []
theorem vc155 (columns:LC) (rows:(List LV)) (K:KA):vcT C155 aC ann155 f155 [.data TCS columns,.data (Ty.sl TVS) rows] [] (.dat Ty.bool) K =
 ((Sm TCS columns)/\cond ((M.bA columns)==true) ((Sm (Ty.sl TVS) rows)/\(Sm TCS columns)/\K (dB (!(List.any rows (fun e=>!M.cq columns e)))) []) (K (dB false) [])):=by kernel_rfl
theorem con155_ok:bp P 155 c155:=bt C155 func155 (kC con49_ok (kC con188_ok (kC con189_ok kN))) fun args hp K h0=>by
 obtain⟨columns,rows,rfl,rfl,h_columns,h_rows,hK⟩:=g2e h0
 have h:ok (F.qS columns rows) (fun r=>K (dB r) []):=aA (F.yz columns rows h_columns h_rows) hK
 refine⟨rfl,ann155,aC,(.dat Ty.bool),(aH (by kernel_rfl)),?_⟩
 ·rw[vc155]
  exact⟨h_columns,(oC h (fun _ h=>⟨h_rows,⟨h_columns,h⟩⟩) fun _ h=>h)⟩
def c154:Con:=⟨[.dat aq],fun args hp K=>g1 (pD aq) (fun t=>(Sm aq t)/\K (dB (!M.cW t)) []) args hp,.plain,false⟩
abbrev C154:Ctx:=cx [(49,c49),(155,c155)] 21 [] 0 false
def ann154:=an [[.fixRow 1 aq,kp 2],[kp 4]] []
theorem vc154 (t:aq.D) (K:KA):vcT C154 aC ann154 f154 [.data aq t] [] (.dat Ty.bool) K =
 ((Sm TCS t.1)/\cond ((!(M.bA t.1))==false) (cond ((decide (Z6<(t.2.1.length:Int)))==false) ((Sm TCS t.1)/\(Sm (Ty.sl TVS) t.2.1)/\K (dB (!(M.fX t.1 t.2.1))) []) (K (dB true) [])) (K (dB true) [])):=by kernel_rfl
theorem con154_ok:bp P 154 c154:=bt C154 func154 (kC con49_ok (kC con155_ok kN)) fun args hp K h0=>by
 obtain⟨t,rfl,rfl,h_t,hK⟩:=g1e h0
 have h:ok (F.kX t) (fun r=>K (dB r) []):=aA (F.sq t h_t) hK
 refine⟨rfl,ann154,aC,(.dat Ty.bool),(aH (by kernel_rfl)),?_⟩
 ·rw[vc154]
  exact⟨h_t.1,(oC h (fun _ h=>(oC h (fun _ h=>⟨h_t.1,⟨h_t.2.1,h⟩⟩) fun _ h=>h)) fun _ h=>h)⟩
def c187:Con:=⟨[.lent aq,.any],fun args hp K=>args2 (fun a0 a1=>lg aq a0 fun xs=>pU 154 a1 (wB ((Sm TTb xs)/\K (dI (M.idx (t:=aq) (fun e=>!M.cW e) xs)) []))) args hp,.plain,false⟩
abbrev C187:Ctx:=cx [(154,c154)] 19 [] 0 false
def ann187:=an [[kp 3],[kp 387],[kp 899],[kp 419],[kp 65955],[kp 16],[kp 387],[kp 16]] [[kp 0]]
abbrev s187_0 (xs:LTb) (i0:Int) (v0:Unit):St:=⟨[(0,.brw aq xs),(1,.fn 154 []),(7,dI (xs.length:Int)),(8,dI i0)],[]⟩
abbrev LP187_0 (xs:LTb) (m:Nat) (st_:St) (K:KX):Prop:=True/\cB (s187_0 xs) Z0 (xs.length:Int) (F.cL xs) (fun v0:Unit=>True) (bn (fun v0:Unit=>True->K (.exit 0) (⟨[],[]⟩:St)) (fun q0:Int=>K .ret (⟨[(4,dI q0)],[]⟩:St))) m st_
def L187 (xs:LTb):bF:=lp1 0 (LP187_0 xs)
theorem vc187 (xs:LTb) (K:KA):vcT C187 (L187 xs) ann187 f187 [.brw aq xs,.fn 154 []] [] (.dat ay) K =
 (∃m_,True/\cB (s187_0 xs) Z0 (xs.length:Int) (F.cL xs) (fun v0:Unit=>True) (bn (fun v0:Unit=>True->K (dI (-1:Int)) []) (fun q0:Int=>K (dI q0) [])) m_ (s187_0 xs Z0 ())):=by kernel_rfl
theorem lvc187_0 (xs:LTb)  (i0:Int) (v0:Unit) (m:Nat) (K:KX):lvT C187 (L187 xs) ann187 f187 0 0 (s187_0 xs i0 v0) m K =
 (cond (decide (i0<(xs.length:Int))) ((0<=i0)/\(i0<(xs.length:Int))/\(Sm aq (nT xs i0))/\cond (!M.cW (nT xs i0)) (K .ret (⟨[(4,dI i0)],[]⟩:St)) (nxT (LP187_0 xs) m K (s187_0 xs (wrap64 (i0+Z1)) ()))) (K (.exit 0) (⟨[],[]⟩:St))):=by kernel_rfl
theorem con187_ok:bp P 187 c187:=bt C187 func187 (kC con154_ok kN) fun args hp K h0=>by
 obtain⟨a0,a1,rfl,rfl,h1⟩:=bP h0
 obtain⟨xs,rfl,h2⟩:=cV h1
 obtain⟨cs1,rfl,h3⟩:=eX h2
 obtain⟨rfl,h4⟩:=jF h3
 obtain⟨h_xs,hK⟩:=h4
 have h:ok (F.hH xs) (fun r=>K (dI r) []):=aA (F.kU xs h_xs) hK
 refine⟨rfl,ann187,(L187 xs),(.dat ay),(bK (i0:=0) (by kernel_rfl) ?_),?_⟩
 ·rintro _ _ K ⟨hc0,i0,v0,rfl,hl0,rfl,hv0,h⟩
  exact cast (lvc187_0 _ _ _ _ _).symm (bO h (fun ht0 h=>⟨hl0,⟨ht0,⟨(aU h_xs i0),(oC h (fun _ h=>h) fun _ h=>(aV (fun _ hm=>⟨hc0,hm⟩) _ rfl hl0 iM ht0 (bD h_xs) trivial h))⟩⟩⟩) fun h=>(h trivial))
 ·rw[vc187]
  exact(bE (fun m hm=>⟨trivial,hm⟩) Z0 _ rfl (Int.natCast_nonneg 0) trivial (aR h (fun v0 h hv0=>h) (fun q0 h=>h)))
def c153:Con:=⟨[.lent aq,.any],fun args hp K=>args2 (fun a0 a1=>lg aq a0 fun xs=>pU 154 a1 (wB ((Sm TTb xs)/\K (dB (List.any xs (fun e=>!M.cW e))) []))) args hp,.plain,false⟩
abbrev C153:Ctx:=cx [(154,c154),(187,c187)] 9 [] 0 false
def ann153:=an [[kp 3],[kp 16]] []
theorem vc153 (xs:LTb) (K:KA):vcT C153 aC ann153 f153 [.brw aq xs,.fn 154 []] [] (.dat Ty.bool) K =
 ((Sm TTb xs)/\K (dB (decide (Z0<=(M.idx (t:=aq) (fun e=>!M.cW e) xs)))) []):=by kernel_rfl
theorem con153_ok:bp P 153 c153:=bt C153 func153 (kC con154_ok (kC con187_ok kN)) fun args hp K h0=>by
 obtain⟨a0,a1,rfl,rfl,h1⟩:=bP h0
 obtain⟨xs,rfl,h2⟩:=cV h1
 obtain⟨cs1,rfl,h3⟩:=eX h2
 obtain⟨rfl,h4⟩:=jF h3
 obtain⟨h_xs,hK⟩:=h4
 have h:ok (F.dR xs) (fun r=>K (dB r) []):=aA (F.jv xs h_xs) hK
 refine⟨rfl,ann153,aC,(.dat Ty.bool),(aH (by kernel_rfl)),?_⟩
 ·rw[vc153]
  exact⟨h_xs,h⟩
def c110:Con:=⟨[.dat TTb],fun args hp K=>g1 (pD TTb) (fun tables=>(Sm TTb tables)/\K (dB (M.ck tables)) []) args hp,.plain,false⟩
abbrev C110:Ctx:=cx [(153,c153)] 11 [] 0 false
def ann110:=an [[kp 1],[kp 4]] []
theorem vc110 (tables:LTb) (K:KA):vcT C110 aC ann110 f110 [.data TTb tables] [] (.dat Ty.bool) K =
 (cond ((decide ((tables.length:Int)<=Z3))==true) ((Sm TTb tables)/\K (dB (!(List.any tables (fun e=>!M.cW e)))) []) (K (dB false) [])):=by kernel_rfl
theorem con110_ok:bp P 110 c110:=bt C110 func110 (kC con153_ok kN) fun args hp K h0=>by
 obtain⟨tables,rfl,rfl,h_tables,hK⟩:=g1e h0
 have h:ok (F.nc tables) (fun r=>K (dB r) []):=aA (F.uR tables h_tables) hK
 refine⟨rfl,ann110,aC,(.dat Ty.bool),(aH (by kernel_rfl)),?_⟩
 ·rw[vc110]
  exact(oC h (fun _ h=>⟨h_tables,h⟩) fun _ h=>h)
def c50:Con:=⟨[.dat aE],fun args hp K=>g1 (pD aE) (fun p=>(Sm aE p)/\K (dI (M.takes p)) []) args hp,.plain,false⟩
abbrev C50:Ctx:=cx [] 13 [] 0 false
def ann50:=an [[.fixRow 1 aE,kp 2],[kp 16],[kp 48],[kp 48],[kp 48],[kp 48],[kp 4],[kp 1040],[kp 1024],[kp 4],[kp 4]] []
abbrev S50_0 (p:aE.D) (K:KA):Prop:=cond (decide (p.1=(7:Int))) (cond (decide (p.1=(7:Int))) (K (dI Z1) []) (K (dI Z0) [])) (cond (decide (p.1=(8:Int))) (K (dI Z1) []) (K (dI Z0) []))
theorem vc50 (p:aE.D) (K:KA):vcT C50 aC ann50 f50 [.data aE p] [] (.dat ay) K =
 (cond (decide (p.1=Z3)) (cond (decide (p.1=Z3)) (K (dI Z2) []) (S50_0 p K)) (cond (decide (p.1=Z4)) (cond (decide (p.1=Z4)) (K (dI Z2) []) (S50_0 p K)) (cond (decide (p.1=Z5)) (cond (decide (p.1=Z5)) (K (dI Z2) []) (S50_0 p K)) (cond (decide (p.1=Z6)) (K (dI Z2) []) (S50_0 p K))))):=by kernel_rfl
theorem con50_ok:bp P 50 c50:=bt C50 func50 kN fun args hp K h0=>by
 obtain⟨p,rfl,rfl,h_p,hK⟩:=g1e h0
 have h:ok (F.kL p) (fun r=>K (dI r) []):=aA (F.sH p h_p) hK
 refine⟨rfl,ann50,aC,(.dat ay),(aH (by kernel_rfl)),?_⟩
 ·rw[vc50]
  exact(oC h (fun b_1 h=>(bG b_1 h)) fun _ h=>(oC h (fun b_6 h=>(bG b_6 h)) fun _ h=>(oC h (fun b_8 h=>(bG b_8 h)) fun _ h=>(oC h (fun _ h=>h) fun _ h=>(oC h (fun b_11 h=>(bG b_11 h)) fun _ h=>(oC h (fun _ h=>h) fun _ h=>h))))))
def c51:Con:=⟨[.dat aE,.dat TCS],fun args hp K=>g2 (pD aE) (pD TCS) (fun p columns=>(Sm aE p)/\(Sm TCS columns)/\K (dB (M.kZ p columns)) []) args hp,.plain,false⟩
abbrev C51:Ctx:=cx [(67,c67),(99,c99)] 63 [] 0 false
def ann51:=an [[.fixRow 2 aE,kp 6],[kp 70],[kp 198],[kp 16],[kp 8388678],[kp 16],[kp 137438953540],[kp 16],[.keep [2,6,48]],[.keep [2,6,48]],[.keep [2,6,48]],[.keep [2,6,48]],[.keep [2,48]],[kp 16],[kp 16]] []
abbrev S51_0 (p:aE.D) (columns:LC) (K:KA):Prop:=cond ((decide (p.2.1=Z0))==true) (K (dB (Ty.beq aa p.2.2.1 (Z0,(Z0,((⟨#[]⟩:ByteArray),()))))) []) (K (dB false) [])
theorem vc51 (p:aE.D) (columns:LC) (K:KA):vcT C51 aC ann51 f51 [.data aE p,.data TCS columns] [] (.dat Ty.bool) K =
 (cond (decide (p.1=Z1)) (cond ((decide (p.2.1=Z0))==true) ((Sm aa p.2.2.1)/\cond ((M.aP p.2.2.1)==true) (K (dB (!decide (p.2.2.1.1=Z0))) []) (K (dB false) [])) (K (dB false) [])) (cond (decide (p.1=Z2)) (cond ((M.inR p.2.1 Z0 (wrap64 ((columns.length:Int)-Z1)))==true) (K (dB (Ty.beq aa p.2.2.1 (Z0,(Z0,((⟨#[]⟩:ByteArray),()))))) []) (K (dB false) [])) (cond (decide (p.1=Z4)) (cond ((M.inR p.2.1 Z1 Z4)==true) (K (dB (Ty.beq aa p.2.2.1 (Z0,(Z0,((⟨#[]⟩:ByteArray),()))))) []) (K (dB false) [])) (cond (decide (p.1=Z3)) (cond (decide (p.1=Z3)) (S51_0 p columns K) (K (dB false) [])) (cond (decide (p.1=Z5)) (cond (decide (p.1=Z5)) (S51_0 p columns K) (K (dB false) [])) (cond (decide (p.1=Z6)) (cond (decide (p.1=Z6)) (S51_0 p columns K) (K (dB false) [])) (cond (decide (p.1=(7:Int))) (cond (decide (p.1=(7:Int))) (S51_0 p columns K) (K (dB false) [])) (cond (decide (p.1=(8:Int))) (S51_0 p columns K) (K (dB false) []))))))))):=by kernel_rfl
theorem con51_ok:bp P 51 c51:=bt C51 func51 (kC con67_ok (kC con99_ok kN)) fun args hp K h0=>by
 obtain⟨p,columns,rfl,rfl,h_p,h_columns,hK⟩:=g2e h0
 have h:ok (F.kF p columns) (fun r=>K (dB r) []):=aA (F.sL p columns h_p h_columns) hK
 refine⟨rfl,ann51,aC,(.dat Ty.bool),(aH (by kernel_rfl)),?_⟩
 ·rw[vc51]
  exact(oC h (fun _ h=>(oC h (fun _ h=>⟨h_p.2.2.1,(oC h (fun _ h=>h) fun _ h=>h)⟩) fun _ h=>h)) fun _ h=>(oC h (fun _ h=>(oC h (fun _ h=>h) fun _ h=>h)) fun _ h=>(oC h (fun _ h=>(oC h (fun _ h=>h) fun _ h=>h)) fun _ h=>(oC h (fun b_8 h=>(bG b_8 (oC h (fun _ h=>h) fun _ h=>h))) fun _ h=>(oC h (fun b_11 h=>(bG b_11 (oC h (fun _ h=>h) fun _ h=>h))) fun _ h=>(oC h (fun b_14 h=>(bG b_14 (oC h (fun _ h=>h) fun _ h=>h))) fun _ h=>(oC h (fun b_17 h=>(bG b_17 (oC h (fun _ h=>h) fun _ h=>h))) fun _ h=>(oC h (fun _ h=>(oC h (fun _ h=>h) fun _ h=>h)) fun _ h=>h))))))))
def c102:Con:=⟨[.dat ay,.any],fun args hp K=>g2 (pD ay) (pR ay) (fun k kind=>K (dB (!decide (k=kind))) []) args hp,.plain,false⟩
abbrev C102:Ctx:=cx [] 7 [] 0 false
def ann102:=an [[kp 3],[kp 8]] []
theorem vc102 (k:Int) (kind:Int) (K:KA):vcT C102 aC ann102 f102 [dI k,.ref (dI kind)] [] (.dat Ty.bool) K =
 (K (dB (!decide (k=kind))) []):=by kernel_rfl
theorem con102_ok:bp P 102 c102:=bt C102 func102 kN fun args hp K h0=>by
 obtain⟨k,kind,rfl,rfl,hK⟩:=g2e h0
 have h:ok (F.me k kind) (fun r=>K (dB r) []):=aA (F.qb k kind) hK
 refine⟨rfl,ann102,aC,(.dat Ty.bool),(aH (by kernel_rfl)),?_⟩
 ·rw[vc102]
  exact h
def c148:Con:=⟨[.lent ay,.any],fun args hp K=>args2 (fun a0 a1=>lg ay a0 fun xs=>pU 102 a1 (Ay (fun b1_0=>yd ay b1_0 fun k0=>(Sm (Ty.sl ay) xs)/\K (dI (M.idx (t:=ay) (fun e=>!decide (e=k0)) xs)) []))) args hp,.plain,false⟩
abbrev C148:Ctx:=cx [(102,c102)] 19 [] 0 false
def ann148:=an [[kp 3],[kp 387],[kp 899],[kp 419],[kp 65955],[kp 16],[kp 387],[kp 16]] [[kp 0]]
abbrev s148_0 (xs:LI) (k0:Int) (i0:Int) (v0:Unit):St:=⟨[(0,.brw ay xs),(1,.fn 102 [.ref (dI k0)]),(7,dI (xs.length:Int)),(8,dI i0)],[]⟩
abbrev LP148_0 (xs:LI) (k0:Int) (m:Nat) (st_:St) (K:KX):Prop:=True/\cB (s148_0 xs k0) Z0 (xs.length:Int) (F.cn xs k0) (fun v0:Unit=>True) (bn (fun v0:Unit=>True->K (.exit 0) (⟨[],[]⟩:St)) (fun q0:Int=>K .ret (⟨[(4,dI q0)],[]⟩:St))) m st_
def L148 (xs:LI) (k0:Int):bF:=lp1 0 (LP148_0 xs k0)
theorem vc148 (xs:LI) (k0:Int) (K:KA):vcT C148 (L148 xs k0) ann148 f148 [.brw ay xs,.fn 102 [.ref (dI k0)]] [] (.dat ay) K =
 (∃m_,True/\cB (s148_0 xs k0) Z0 (xs.length:Int) (F.cn xs k0) (fun v0:Unit=>True) (bn (fun v0:Unit=>True->K (dI (-1:Int)) []) (fun q0:Int=>K (dI q0) [])) m_ (s148_0 xs k0 Z0 ())):=by kernel_rfl
theorem lvc148_0 (xs:LI) (k0:Int)  (i0:Int) (v0:Unit) (m:Nat) (K:KX):lvT C148 (L148 xs k0) ann148 f148 0 0 (s148_0 xs k0 i0 v0) m K =
 (cond (decide (i0<(xs.length:Int))) ((0<=i0)/\(i0<(xs.length:Int))/\cond (!decide ((nI xs i0)=k0)) (K .ret (⟨[(4,dI i0)],[]⟩:St)) (nxT (LP148_0 xs k0) m K (s148_0 xs k0 (wrap64 (i0+Z1)) ()))) (K (.exit 0) (⟨[],[]⟩:St))):=by kernel_rfl
theorem con148_ok:bp P 148 c148:=bt C148 func148 (kC con102_ok kN) fun args hp K h0=>by
 obtain⟨a0,a1,rfl,rfl,h1⟩:=bP h0
 obtain⟨xs,rfl,h2⟩:=cV h1
 obtain⟨cs1,rfl,h3⟩:=eX h2
 obtain⟨b1_0,rfl,h4⟩:=oN h3
 obtain⟨k0,rfl,h5⟩:=mC h4
 obtain⟨h_xs,hK⟩:=h5
 have h:ok (F.fT xs k0) (fun r=>K (dI r) []):=aA (F.jw xs k0 h_xs) hK
 refine⟨rfl,ann148,(L148 xs k0),(.dat ay),(bK (i0:=0) (by kernel_rfl) ?_),?_⟩
 ·rintro _ _ K ⟨hc0,i0,v0,rfl,hl0,rfl,hv0,h⟩
  exact cast (lvc148_0 _ _ _ _ _ _).symm (bO h (fun ht0 h=>⟨hl0,⟨ht0,(oC h (fun _ h=>h) fun _ h=>(aV (fun _ hm=>⟨hc0,hm⟩) _ rfl hl0 iM ht0 (bD h_xs) trivial h))⟩⟩) fun h=>(h trivial))
 ·rw[vc148]
  exact(bE (fun m hm=>⟨trivial,hm⟩) Z0 _ rfl (Int.natCast_nonneg 0) trivial (aR h (fun v0 h hv0=>h) (fun q0 h=>h)))
def c101:Con:=⟨[.lent ay,.any],fun args hp K=>args2 (fun a0 a1=>lg ay a0 fun xs=>pU 102 a1 (Ay (fun b1_0=>yd ay b1_0 fun k0=>(Sm (Ty.sl ay) xs)/\K (dB (List.any xs (fun e=>!decide (e=k0)))) []))) args hp,.plain,false⟩
abbrev C101:Ctx:=cx [(102,c102),(148,c148)] 9 [] 0 false
def ann101:=an [[kp 3],[kp 16]] []
theorem vc101 (xs:LI) (k0:Int) (K:KA):vcT C101 aC ann101 f101 [.brw ay xs,.fn 102 [.ref (dI k0)]] [] (.dat Ty.bool) K =
 ((Sm (Ty.sl ay) xs)/\K (dB (decide (Z0<=(M.idx (t:=ay) (fun e=>!decide (e=k0)) xs)))) []):=by kernel_rfl
theorem con101_ok:bp P 101 c101:=bt C101 func101 (kC con102_ok (kC con148_ok kN)) fun args hp K h0=>by
 obtain⟨a0,a1,rfl,rfl,h1⟩:=bP h0
 obtain⟨xs,rfl,h2⟩:=cV h1
 obtain⟨cs1,rfl,h3⟩:=eX h2
 obtain⟨b1_0,rfl,h4⟩:=oN h3
 obtain⟨k0,rfl,h5⟩:=mC h4
 obtain⟨h_xs,hK⟩:=h5
 have h:ok (F.dh xs k0) (fun r=>K (dB r) []):=aA (F.iJ xs k0 h_xs) hK
 refine⟨rfl,ann101,aC,(.dat Ty.bool),(aH (by kernel_rfl)),?_⟩
 ·rw[vc101]
  exact⟨h_xs,h⟩
def c100:Con:=⟨[.dat ay,.any],fun args hp K=>g2 (pD ay) (pQ ay) (fun kind ins=>(Sm (Ty.sl ay) ins)/\K (dB (List.all ins (fun k=>decide (k=kind)))) []) args hp,.plain,false⟩
abbrev C100:Ctx:=cx [(101,c101),(102,c102)] 8 [] 0 false
def ann100:=an [[.fixBox 2,kp 6],[kp 8]] []
theorem vc100 (kind:Int) (ins:LI) (K:KA):vcT C100 aC ann100 f100 [dI kind,.ref (.brw ay ins)] [] (.dat Ty.bool) K =
 ((Sm (Ty.sl ay) ins)/\K (dB (!(List.any ins (fun e=>!decide (e=kind))))) []):=by kernel_rfl
theorem con100_ok:bp P 100 c100:=bt C100 func100 (kC con101_ok (kC con102_ok kN)) fun args hp K h0=>by
 obtain⟨kind,ins,rfl,rfl,h_ins,hK⟩:=g2e h0
 have h:ok (F.jz kind ins) (fun r=>K (dB r) []):=aA (F.rI kind ins h_ins) hK
 refine⟨rfl,ann100,aC,(.dat Ty.bool),(aH (by kernel_rfl)),?_⟩
 ·rw[vc100]
  exact⟨h_ins,h⟩
def c52:Con:=⟨[.dat aE,.dat TCS,.lent ay],fun args hp K=>g3 (pD aE) (pD TCS) (pB ay) (fun p columns inp=>(Sm aE p)/\(Sm TCS columns)/\(Sm (Ty.sl ay) inp)/\(M.kZ p columns=true)/\((inp.length:Int)=M.takes p)/\(LD (M.cH p columns inp) fun r=>K (.tup [dI r.1,dB r.2]) [])) args hp,.plain,false⟩
abbrev C52:Ctx:=cx [(100,c100)] 42 [] 0 false
def ann52:=an [[.fixRow 3 aE,.fixBox 5,kp 42],[kp 298],[kp 2346],[kp 6442],[kp 192],[kp 133418],[kp 192],[kp 33556768],[kp 192],[kp 536873248],[kp 192],[.keep [8,38]],[kp 192],[kp 192]] []
theorem vc52 (p:aE.D) (columns:LC) (inp:LI) (K:KA):vcT C52 aC ann52 f52 [.data aE p,.data TCS columns,.brw ay inp] [] (.tup [ay,Ty.bool]) K =
 (cond (decide (p.1=Z1)) (K (.tup [dI p.2.2.1.1,dB true]) []) (cond (decide (p.1=Z2)) ((0<=p.2.1)/\(p.2.1<(columns.length:Int))/\K (.tup [dI (nC columns p.2.1).1,dB true]) []) (cond (decide (p.1=Z3)) ((Sm (Ty.sl ay) inp)/\K (.tup [dI Z1,dB (List.all inp (fun k=>decide (k=Z1)))]) []) (cond (decide (p.1=Z4)) ((0<=Z0)/\(Z0<(inp.length:Int))/\(0<=Z1)/\(Z1<(inp.length:Int))/\K (.tup [dI Z3,dB (decide ((nI inp Z0)=(nI inp Z1)))]) []) (cond (decide (p.1=(8:Int))) (K (.tup [dI Z3,dB true]) []) ((Sm (Ty.sl ay) inp)/\K (.tup [dI Z3,dB (List.all inp (fun k=>decide (k=Z3)))]) [])))))):=by kernel_rfl
theorem con52_ok:bp P 52 c52:=bt C52 func52 (kC con100_ok kN) fun args hp K h0=>by
 obtain⟨p,columns,inp,rfl,rfl,h_p,h_columns,h_inp,p0,p1,hK⟩:=g3e h0
 have h:ok (F.mG p columns inp) (fun r=>K (.tup [dI r.1,dB r.2]) []):=aA (F.tG p columns inp h_p h_columns h_inp p0 p1) (hK _ rfl)
 refine⟨rfl,ann52,aC,(.tup [ay,Ty.bool]),(aH (by kernel_rfl)),?_⟩
 ·rw[vc52]
  exact(oC h (fun _ h=>h) fun _ h=>(oC h (fun _ h=>(oG h fun _ h=>(oG h fun _ h=>h))) fun _ h=>(oC h (fun _ h=>⟨h_inp,h⟩) fun _ h=>(oC h (fun _ h=>⟨(Int.natCast_nonneg 0),(oG h fun _ h=>⟨(Int.natCast_nonneg 1),(oG h fun _ h=>h)⟩)⟩) fun _ h=>(oC h (fun _ h=>h) fun _ h=>⟨h_inp,h⟩)))))
def c13:Con:=⟨[.dat TCS,.dat TPS],fun args hp K=>g2 (pD TCS) (pD TPS) (fun columns e=>(Sm TCS columns)/\(Sm TPS e)/\K (dI (M.cT columns e)) []) args hp,.plain,false⟩
abbrev C13:Ctx:=cx [(49,c49),(50,c50),(51,c51),(52,c52)] 67 [] 0 false
def ann13:=an [[kp 3],[kp 262147],[kp 16],[kp 35],[kp 3670049],[kp 7864353],[.fixRow 7 aE,kp 3670177],[kp 3670433],[kp 68723147169],[kp 16],[kp 3671841],[kp 1125899910513441],[kp 16],[kp 3670049],[kp 3670049],[.keep [5,63]],[kp 16],[kp 16]] [[kp 32]]
abbrev s13_0 (columns:LC) (e:LPt) (i0:Int) (v0:LI):St:=⟨[(0,.data TCS columns),(5,.own 5 none),(19,.data TPS e),(20,dI (e.length:Int)),(21,dI i0)],[(5,.arr .sh ay v0)]⟩
abbrev LP13_0 (columns:LC) (e:LPt) (m:Nat) (st_:St) (K:KX):Prop:=True/\bU (t:=aE) (s13_0 columns e) e (F.dZ columns e) (fun v0:LI=>True) (bn (fun v0:LI=>True->K (.exit 0) (⟨[(5,.own 5 none)],[(5,.arr .sh ay v0)]⟩:St)) (fun q0:Unit=>K .ret (⟨[(4,dI (-1:Int))],[]⟩:St))) m st_
def L13 (columns:LC) (e:LPt):bF:=lp1 0 (LP13_0 columns e)
theorem vc13 (columns:LC) (e:LPt) (K:KA):vcT C13 (L13 columns e) ann13 f13 [.data TCS columns,.data TPS e] [] (.dat ay) K =
 ((Sm TCS columns)/\cond ((!(M.bA columns))==false) (cond (decide ((12:Int)<(e.length:Int))) (K (dI (-1:Int)) []) (∃m_,True/\bU (t:=aE) (s13_0 columns e) e (F.dZ columns e) (fun v0:LI=>True) (bn (fun v0:LI=>True->cond (!decide ((v0.length:Int)=Z1)) (K (dI (-1:Int)) []) ((0<=Z0)/\(Z0<(v0.length:Int))/\K (dI (nI v0 Z0)) [])) (fun q0:Unit=>K (dI (-1:Int)) [])) m_ (s13_0 columns e Z0 []))) (K (dI (-1:Int)) [])):=by kernel_rfl
theorem lvc13_0 (columns:LC) (e:LPt)  (i0:Int) (v0:LI) (m:Nat) (K:KX):lvT C13 (L13 columns e) ann13 f13 0 0 (s13_0 columns e i0 v0) m K =
 (cond (decide (i0<(e.length:Int))) ((0<=i0)/\(i0<(e.length:Int))/\(Sm aE (nP e i0))/\(Sm aE (nP e i0))/\(Sm TCS columns)/\cond ((!(M.kZ (nP e i0) columns))==false) (cond (decide ((v0.length:Int)<(M.takes (nP e i0)))) (K .ret (⟨[(4,dI (-1:Int))],[]⟩:St)) ((0<=wrap64 ((v0.length:Int)-(M.takes (nP e i0))))/\(wrap64 ((v0.length:Int)-(M.takes (nP e i0)))<=(v0.length:Int))/\((v0.length:Int)<=(v0.length:Int))/\((v0.length:Int)=(v0.length:Int))/\(Sm aE (nP e i0))/\(Sm TCS columns)/\(Sm (Ty.sl ay) (aD v0 (some (wrap64 ((v0.length:Int)-(M.takes (nP e i0))),(v0.length:Int)))))/\(M.kZ (nP e i0) columns=true)/\(((aD v0 (some (wrap64 ((v0.length:Int)-(M.takes (nP e i0))),(v0.length:Int)))).length:Int)=M.takes (nP e i0))/\(LD (M.cH (nP e i0) columns (aD v0 (some (wrap64 ((v0.length:Int)-(M.takes (nP e i0))),(v0.length:Int))))) fun r1=>cond (!r1.2) (K .ret (⟨[(4,dI (-1:Int))],[]⟩:St)) ((0<=Z0)/\(Z0<=wrap64 ((v0.length:Int)-(M.takes (nP e i0))))/\(wrap64 ((v0.length:Int)-(M.takes (nP e i0)))<=(v0.length:Int))/\(wrap64 ((v0.length:Int)-(M.takes (nP e i0)))=wrap64 ((v0.length:Int)-(M.takes (nP e i0))))/\(Z0=0)/\(((wrap64 ((v0.length:Int)-(M.takes (nP e i0)))).toNat+[r1.1].length) * 8<=lim)/\(nxT (LP13_0 columns e) m K (s13_0 columns e (wrap64 (i0+Z1)) (v0.take (wrap64 ((v0.length:Int)-(M.takes (nP e i0)))).toNat++[r1.1]))))))) (K .ret (⟨[(4,dI (-1:Int))],[]⟩:St))) (K (.exit 0) (⟨[(5,.own 5 none)],[(5,.arr .sh ay v0)]⟩:St))):=by kernel_rfl
theorem con13_ok:bp P 13 c13:=bt C13 func13 (kC con49_ok (kC con50_ok (kC con51_ok (kC con52_ok kN)))) fun args hp K h0=>by
 obtain⟨columns,e,rfl,rfl,h_columns,h_e,hK⟩:=g2e h0
 have h:ok (F.nH columns e) (fun r=>K (dI r) []):=aA (F.vE columns e h_columns h_e) hK
 refine⟨rfl,ann13,(L13 columns e),(.dat ay),(bK (i0:=0) (by kernel_rfl) ?_),?_⟩
 ·rintro _ _ K ⟨hc0,i0,v0,rfl,hl0,rfl,hv0,h⟩
  exact cast (lvc13_0 _ _ _ _ _ _).symm (bz (t:=aE) hl0 h (fun ht0 h=>⟨hl0,⟨ht0,⟨(aU h_e i0),⟨(aU h_e i0),⟨h_columns,(oC h (fun b_37 h=>(oC h (fun _ h=>h) fun _ h=>(oG h fun _ h=>(oG h fun g1 h=>⟨(Int.le_refl _),⟨rfl,⟨(aU h_e i0),⟨h_columns,(oG h fun _ h=>⟨(bnf (bgt b_37)),(oG h fun _ h=>(oL h fun _ _ h=>(oC h (fun _ h=>h) fun _ h=>⟨(Int.natCast_nonneg 0),(oG h fun _ h=>⟨g1,⟨rfl,⟨rfl,(oG h fun _ h=>(aY (t:=aE) (fun _ hm=>⟨hc0,hm⟩) _ rfl hl0 ht0 (bD h_e) trivial h))⟩⟩⟩)⟩)))⟩)⟩⟩⟩⟩)))) fun _ h=>h)⟩⟩⟩⟩⟩) fun h=>(h trivial))
 ·rw[vc13]
  exact⟨h_columns,(oC h (fun _ h=>(oC h (fun _ h=>h) fun _ h=>(bf (t:=aE) (fun m hm=>⟨trivial,hm⟩) _ rfl trivial (aR h (fun v0 h hv0=>(oC h (fun _ h=>h) fun _ h=>⟨(Int.natCast_nonneg 0),(oG h fun _ h=>h)⟩)) (fun q0 h=>h))))) fun _ h=>h)⟩
abbrev C123:Ctx:=cx [] 9 [] 400000 true
def T123:Inl:=BM C123 (fun _=>[]) (eZ f123) f123.results.toList
theorem inlOk123:BZ P 123 T123:=GQ C123 func123 kN
def c74:Con:=⟨[.dat TCS],fun args hp K=>g1 (pD TCS) (fun xs=>(Sm TCS xs)/\(LD xs fun r=>K (.clp 0 (r.length:Int)) [(0,.arr .sh ag r)])) args hp,.bor,false⟩
abbrev C74:Ctx:=cx [] 9 [(123,T123)] 0 true
def ann74:=an [[kp 1],[kp 33],[.clip 2,kp 4],[kp 4]] []
theorem vc74 (xs:LC) (K:KA):vcT C74 aC ann74 f74 [.data TCS xs] [] .raw K =
 (cond (decide ((xs.length:Int)=Z0)) (K (.clp 0 (([]:List ag.D).length:Int)) [(0,.arr .sh ag ([]:List ag.D))]) ((xs.length * 16<=lim)/\(0<=Z0)/\(Z0<=(xs.length:Int))/\((xs.length:Int)<=(xs.length:Int))/\((xs.length:Int)=(xs.length:Int))/\(Z0=0)/\K (.clp 0 ((xs.take (xs.length:Int).toNat).length:Int)) [(0,.arr .sh ag (xs.take (xs.length:Int).toNat))])):=by kernel_rfl
theorem con74_ok:bp P 74 c74:=bt C74 func74 (kI inlOk123 kN) fun args hp K h0=>by
 obtain⟨xs,rfl,rfl,h_xs,hK⟩:=g1e h0
 have h:ok (F.rR xs) (fun r=>K (.clp 0 (r.length:Int)) [(0,.arr .sh ag r)]):=aA (F.uJ xs h_xs) (hK _ rfl)
 refine⟨rfl,ann74,aC,.raw,(aH (by kernel_rfl)),?_⟩
 ·rw[vc74]
  exact(oC h (fun _ h=>h) fun _ h=>⟨(Ba h_xs rfl),⟨(Int.natCast_nonneg 0),⟨(Int.natCast_nonneg _),⟨(Int.le_refl _),⟨rfl,⟨rfl,h⟩⟩⟩⟩⟩⟩)
def c156:Con:=⟨[.dat aj],fun args hp K=>g1 (pD aj) (fun s=>(Sm aj s)/\K (dB (M.bT s)) []) args hp,.plain,false⟩
abbrev C156:Ctx:=cx [] 67 [] 0 false
def ann156:=an [[.fixRow 1 aj,kp 2],[kp 10],[kp 26],[kp 4]] []
abbrev S156_0 (s:aj.D) (K:KA):Prop:=cond ((decide (s.1=Z3))==false) (K (dB (decide ((s.2.2.2.2.2.1.length:Int)=Z0))) []) (K (dB true) [])
abbrev S156_1 (s:aj.D) (K:KA):Prop:=cond ((decide (s.1=Z4))==false) (cond ((decide ((s.2.2.2.2.1.length:Int)=Z0))==true) (S156_0 s K) (K (dB false) [])) (S156_0 s K)
abbrev S156_2 (s:aj.D) (K:KA):Prop:=cond ((decide (s.1=Z1))==false) (cond ((decide (s.2.2.2.1=Z0))==true) (S156_1 s K) (K (dB false) [])) (S156_1 s K)
abbrev S156_3 (s:aj.D) (K:KA):Prop:=cond ((decide (s.1=Z5))==false) (cond ((decide (s.2.2.1=Z0))==true) (S156_2 s K) (K (dB false) [])) (S156_2 s K)
abbrev S156_4 (s:aj.D) (K:KA):Prop:=cond ((decide (s.1=Z1))==false) (cond ((decide (s.2.2.2.1=Z0))==true) (S156_0 s K) (K (dB false) [])) (S156_0 s K)
abbrev S156_5 (s:aj.D) (K:KA):Prop:=cond ((decide (s.1=Z5))==false) (cond ((decide (s.2.2.1=Z0))==true) (S156_4 s K) (K (dB false) [])) (S156_4 s K)
theorem vc156 (s:aj.D) (K:KA):vcT C156 aC ann156 f156 [.data aj s] [] (.dat Ty.bool) K =
 (cond ((decide (s.1=Z4))==false) (cond ((decide (s.1=Z2))==false) (cond ((!decide (s.1=Z1))==false) (cond ((decide (s.2.1=Z0))==true) (S156_3 s K) (K (dB false) [])) (S156_3 s K)) (cond ((!decide (s.1=Z1))==false) (cond ((decide (s.2.1=Z0))==true) (S156_5 s K) (K (dB false) [])) (S156_5 s K))) (cond ((decide (s.1=Z2))==false) (cond ((!decide (s.1=Z1))==false) (cond ((decide (s.2.1=Z0))==true) (S156_2 s K) (K (dB false) [])) (S156_2 s K)) (cond ((!decide (s.1=Z1))==false) (cond ((decide (s.2.1=Z0))==true) (S156_4 s K) (K (dB false) [])) (S156_4 s K)))):=by kernel_rfl
theorem con156_ok:bp P 156 c156:=bt C156 func156 kN fun args hp K h0=>by
 obtain⟨s,rfl,rfl,h_s,hK⟩:=g1e h0
 have h:ok (F.kK s) (fun r=>K (dB r) []):=aA (F.rX s h_s) hK
 refine⟨rfl,ann156,aC,(.dat Ty.bool),(aH (by kernel_rfl)),?_⟩
 ·rw[vc156]
  exact(oC h (fun b_1 h=>(oC h (fun _ h=>(oC h (fun b_3 h=>(oC h (fun _ h=>(bG (ugt (cO (bnf (bgt b_3)) (by decide))) (oC h (fun _ h=>(eF (ugf (bnf (bgt b_3))) (bG (ugt (bgt b_1)) (oC h (fun _ h=>(bG (ugt (cO (bnf (bgt b_3)) (by decide))) h)) fun _ h=>h)))) fun _ h=>h))) fun _ h=>h)) fun b_3 h=>(oC h (fun _ h=>(oC h (fun _ h=>(bG (ugt (bnt (bgf b_3))) (oC h (fun _ h=>(bG (ugt (bgt b_1)) (oC h (fun _ h=>(oC h (fun _ h=>h) fun _ h=>h)) fun _ h=>h))) fun _ h=>h))) fun _ h=>h)) fun b_27 h=>(bG (ugt (bnt (bgf b_3))) (oC h (fun _ h=>(bG (ugt (bgt b_1)) (oC h (fun _ h=>(bG (ugt (cO (bgf b_27) (by decide))) h)) fun _ h=>h))) fun _ h=>h))))) fun b_2 h=>(eF (ugf (unt (cO (bgf b_2) (by decide)))) (bG (ugt (cO (bgf b_2) (by decide))) (oC h (fun _ h=>(bG (ugt (cO (bgf b_2) (by decide))) (oC h (fun _ h=>(bG (ugt (cO (bgf b_2) (by decide))) h)) fun _ h=>h))) fun _ h=>h))))) fun b_1 h=>(bG (ugt (cO (bgf b_1) (by decide))) (eF (ugf (unt (cO (bgf b_1) (by decide)))) (bG (ugt (cO (bgf b_1) (by decide))) (oC h (fun _ h=>(eF (ugf (bgf b_1)) (bG (ugt (cO (bgf b_1) (by decide))) h))) fun _ h=>h)))))
def c190:Con:=⟨[.any,.dat ay],fun args hp K=>args2 (fun a0 a1=>Cl a0 (eM ay a1 fun n=>(0<=n)/\(n<=1099511627776)/\(LD ([]:List ag.D) fun r=>K (.own 0 none) [(0,.arr .sh ag r)]))) args hp,.plain,false⟩
abbrev C190:Ctx:=cx [] 27 [] 0 false
def ann190:=an [[kp 3],[kp 67],[kp 3],[kp 3],[kp 65539],[kp 1],[kp 16]] []
theorem vc190 (n:Int) (K:KA):vcT C190 aC ann190 f190 [.cst (.slice none 0 0),dI n] [] .raw K =
 (cond (decide (n<Z0)) False (cond (decide (Z0<wrap64 (n-(wrap64 (Z0-Z0))))) ((0<=Z0)/\(Z0<=Z0)/\(Z0<=Z0)/\(Z0=Z0)/\(0<=wrap64 (n-(wrap64 (Z0-Z0))))/\((wrap64 (n-(wrap64 (Z0-Z0)))) * 16<=(lim:Int))/\(0<=Z0)/\(Z0<=Z0)/\(Z0<=((List.replicate (wrap64 (n-(wrap64 (Z0-Z0)))).toNat (Z0,(false,()))).length:Int))/\(Z0=Z0)/\(Z0=0)/\K (.own 0 none) [(0,.arr .sh ag ((List.replicate (wrap64 (n-(wrap64 (Z0-Z0)))).toNat (Z0,(false,()))).take Z0.toNat))]) (K (.own 0 none) [(0,.arr .sh ag [])]))):=by kernel_rfl
theorem con190_ok:bp P 190 c190:=bt C190 func190 kN fun args hp K h0=>by
 obtain⟨a0,a1,rfl,rfl,h1⟩:=bP h0
 obtain⟨rfl,h2⟩:=sD h1
 obtain⟨n,rfl,h3⟩:=bg h2
 obtain⟨p0,p1,hK⟩:=h3
 have h:ok (F.oF n) (fun r=>K (.own 0 none) [(0,.arr .sh ag r)]):=aA (F.wL n p0 p1) (hK _ rfl)
 refine⟨rfl,ann190,aC,.raw,(aH (by kernel_rfl)),?_⟩
 ·rw[vc190]
  exact(oC h (fun _ h=>h) fun _ h=>(oC h (fun _ h=>⟨(Int.natCast_nonneg 0),⟨(Int.le_refl _),⟨(Int.le_refl _),⟨rfl,(oG h fun _ h=>(oG h fun _ h=>⟨(Int.natCast_nonneg 0),⟨(Int.le_refl _),⟨(Int.natCast_nonneg _),⟨rfl,⟨rfl,h⟩⟩⟩⟩⟩))⟩⟩⟩⟩) fun _ h=>h))
def c157:Con:=⟨[.dat (Ty.sl TCS)],fun args hp K=>g1 (pD (Ty.sl TCS)) (fun xss=>(Sm (Ty.sl TCS) xss)/\(LD (List.flatten xss) fun r=>K (.own 0 none) [(0,.arr .sh ag r)])) args hp,.plain,false⟩
abbrev C157:Ctx:=cx [(190,c190)] 36 [] 0 false
def ann157:=an [[kp 1],[kp 9],[kp 3593],[kp 7689],[kp 3625],[kp 3593],[kp 1052169],[kp 3593],[kp 3593],[kp 65],[kp 234881088],[kp 503316544],[kp 234881344],[kp 234881088],[kp 234881088],[kp 4]] [[kp 9],[],[kp 64]]
abbrev s157_0 (xss:(List LC)) (i0:Int) (v0:Int):St:=⟨[(0,.data (Ty.sl TCS) xss),(3,dI v0),(9,.data (Ty.sl TCS) xss),(10,dI (xss.length:Int)),(11,dI i0)],[]⟩
abbrev LP157_0 (xss:(List LC)) (m:Nat) (st_:St) (K:KX):Prop:=True/\bU (t:=TCS) (s157_0 xss) xss (F.gm xss) (fun v0:Int=>True) (bn (fun v0:Int=>True->K (.exit 0) (⟨[(0,.data (Ty.sl TCS) xss),(3,dI v0)],[]⟩:St)) (fun _=>False)) m st_
abbrev s157_2 (xss:(List LC)) (i2:Int) (v2:LC):St:=⟨[(6,.own 24 none),(25,.data (Ty.sl TCS) xss),(26,dI (xss.length:Int)),(27,dI i2)],[(24,.arr .sh ag v2)]⟩
abbrev LP157_2 (xss:(List LC)) (m:Nat) (st_:St) (K:KX):Prop:=True/\bU (t:=TCS) (s157_2 xss) xss (F.gd xss) (fun v2:LC=>True) (bn (fun v2:LC=>True->K (.exit 2) (⟨[(6,.own 24 none)],[(24,.arr .sh ag v2)]⟩:St)) (fun _=>False)) m st_
def L157 (xss:(List LC)):bF:=lp2 0 (LP157_0 xss) 2 (LP157_2 xss)
theorem vc157 (xss:(List LC)) (K:KA):vcT C157 (L157 xss) ann157 f157 [.data (Ty.sl TCS) xss] [] .raw K =
 (∃m_,True/\bU (t:=TCS) (s157_0 xss) xss (F.gm xss) (fun v0:Int=>True) (bn (fun v0:Int=>True->(0<=v0)/\(v0<=1099511627776)/\(LD ([]:List ag.D) fun r1=>(∃m_,True/\bU (t:=TCS) (s157_2 xss) xss (F.gd xss) (fun v2:LC=>True) (bn (fun v2:LC=>True->K (.own 0 none) [(0,.arr .sh ag v2)]) (fun _=>False)) m_ (s157_2 xss Z0 r1)))) (fun _=>False)) m_ (s157_0 xss Z0 Z0)):=by kernel_rfl
theorem lvc157_0 (xss:(List LC))  (i0:Int) (v0:Int) (m:Nat) (K:KX):lvT C157 (L157 xss) ann157 f157 0 0 (s157_0 xss i0 v0) m K =
 (cond (decide (i0<(xss.length:Int))) ((0<=i0)/\(i0<(xss.length:Int))/\cond (decide (wrap64 (v0+((nth (t:=TCS) xss i0).length:Int))<Z0)) False (nxT (LP157_0 xss) m K (s157_0 xss (wrap64 (i0+Z1)) (wrap64 (v0+((nth (t:=TCS) xss i0).length:Int)))))) (K (.exit 0) (⟨[(0,.data (Ty.sl TCS) xss),(3,dI v0)],[]⟩:St))):=by kernel_rfl
theorem lvc157_1 (xss:(List LC))  (i2:Int) (v2:LC) (m:Nat) (K:KX):lvT C157 (L157 xss) ann157 f157 1 2 (s157_2 xss i2 v2) m K =
 (cond (decide (i2<(xss.length:Int))) ((0<=i2)/\(i2<(xss.length:Int))/\((v2.length+(nth (t:=TCS) xss i2).length) * 16<=lim)/\(nxT (LP157_2 xss) m K (s157_2 xss (wrap64 (i2+Z1)) (v2++(nth (t:=TCS) xss i2))))) (K (.exit 2) (⟨[(6,.own 24 none)],[(24,.arr .sh ag v2)]⟩:St))):=by kernel_rfl
theorem con157_ok:bp P 157 c157:=bt C157 func157 (kC con190_ok kN) fun args hp K h0=>by
 obtain⟨xss,rfl,rfl,h_xss,hK⟩:=g1e h0
 have h:ok (F.mD xss) (fun r=>K (.own 0 none) [(0,.arr .sh ag r)]):=aA (F.uF xss h_xss) (hK _ rfl)
 refine⟨rfl,ann157,(L157 xss),.raw,(lz (i0:=0) (i1:=2) (by kernel_rfl) ?_ ?_),?_⟩
 ·rintro _ _ K ⟨hc0,i0,v0,rfl,hl0,rfl,hv0,h⟩
  exact cast (lvc157_0 _ _ _ _ _).symm (bz (t:=TCS) hl0 h (fun ht0 h=>⟨hl0,⟨ht0,(oC h (fun _ h=>h) fun _ h=>(aY (t:=TCS) (fun _ hm=>⟨hc0,hm⟩) _ rfl hl0 ht0 (bD h_xss) trivial h))⟩⟩) fun h=>(h trivial))
 ·rintro _ _ K ⟨hc2,i2,v2,rfl,hl2,rfl,hv2,h⟩
  exact cast (lvc157_1 _ _ _ _ _).symm (bz (t:=TCS) hl2 h (fun ht2 h=>⟨hl2,⟨ht2,(oG h fun _ h=>(aY (t:=TCS) (fun _ hm=>⟨hc2,hm⟩) _ rfl hl2 ht2 (bD h_xss) trivial h))⟩⟩) fun h=>(h trivial))
 ·rw[vc157]
  exact(bf (t:=TCS) (fun m hm=>⟨trivial,hm⟩) _ rfl trivial (aR h (fun v0 h hv0=>(oG h fun _ h=>(oG h fun _ h=>(oL h fun _ _ h=>(bf (t:=TCS) (fun m hm=>⟨trivial,hm⟩) _ rfl trivial (aR h (fun v2 h hv2=>h) (fun _ h=>h.elim))))))) (fun _ h=>h.elim)))
def c111:Con:=⟨[.dat aj,.dat TTb,.lent aF],fun args hp K=>g3 (pD aj) (pD TTb) (pB aF) (fun s tables ahead=>(Sm aj s)/\(Sm TTb tables)/\(Sm (Ty.sl aF) ahead)/\(LD (M.make s tables ahead) fun r=>K (.tup [.data aF r.1,dB r.2]) [])) args hp,.plain,false⟩
abbrev C111:Ctx:=cx [(13,c13),(67,c67),(74,c74),(156,c156),(157,c157)] 201 [] 0 true
def ann111:=an [[.fixRow 3 aj,kp 78],[kp 33554510],[kp 192],[kp 536870990],[kp 68719476810],[kp 192],[kp 192],[.keep [2,3,6,60]],[kp 192],[.fixRow 8 aF,.fixRow 9 aF,kp 840],[.keep [3,6,8,9,73]],[kp 28334198897217871283016],[kp 192],[.keep [3,6,8,9,73,83]],[kp 1352],[.mineC .sh 10 0 800160 ag,kp 4332790137498830962146936136],[kp 9284550294640352061743433032],[kp 4332790137498830962146940232],[kp 2539633990593957633955553350984],[kp 192],[kp 4332790137498830962146936136],[kp 4332790137498830962146936136],[.freeze 800160,kp 192],[.keep [3,6,8,9,73,119]],[.fixRow 13 aF,kp 8264],[.freeze 126,kp 192],[.keep [6,8,9,146]],[.fixRow 14 aF,kp 17216],[.keep [6,9,14,163]],[kp 192],[.keep [6,14,166,167,168]],[.keep [6,14,166,167,168,169]],[.fixRow 16 ag,.keep [6,14,15,16,166,167,168]],[.keep [6,14,15,16,166,167,168,181]],[kp 192],[.keep [6,14,166,167,168]],[.keep [6,14,166,167,168]],[.freeze 150,kp 192],[kp 192]] [[],[kp 1096],[],[kp 16448]]
abbrev s111_1 (s:aj.D) (tables:LTb) (ahead:(List aF.D)) (i1:Int) (v1:LC):St:=⟨[(3,.adr aj s),(6,.ptr 6 0),(8,.adr aF (nM ahead s.2.1)),(10,.ptr 10 0),(89,.data (Ty.sl ay) s.2.2.2.2.2.1),(90,dI (s.2.2.2.2.2.1.length:Int)),(91,dI i1)],[(6,.box [.cst (.slice none 0 0),dI Z0]),(10,.box [.own 800160 none,dI (nM ahead s.2.1).2.1]),(800160,.arr .sh ag v1)]⟩
abbrev LP111_1 (s:aj.D) (tables:LTb) (ahead:(List aF.D)) (m:Nat) (st_:St) (K:KX):Prop:=True/\bU (t:=ay) (s111_1 s tables ahead) s.2.2.2.2.2.1 (F.gb s tables ahead) (fun v1:LC=>True) (bn (fun v1:LC=>True->K (.exit 1) (⟨[(3,.adr aj s),(6,.ptr 6 0),(10,.ptr 10 0)],[(6,.box [.cst (.slice none 0 0),dI Z0]),(10,.box [.own 800160 none,dI (nM ahead s.2.1).2.1]),(800160,.arr .sh ag v1)]⟩:St)) (fun q1:Unit=>K .ret (⟨[(6,.ptr 6 0),(7,dB false)],[(6,.box [.cst (.slice none 0 0),dI Z0])]⟩:St))) m st_
abbrev s111_3 (s:aj.D) (tables:LTb) (ahead:(List aF.D)) (c3_0:Int) (i3:Int) (v3:LC):St:=⟨[(6,.ptr 6 0),(14,.ptr 14 0),(166,.data TCS (nM ahead s.2.2.1).1),(167,dI ((nM ahead s.2.2.1).1.length:Int)),(168,dI i3)],[(6,.box [.cst (.slice none 0 0),dI Z0]),(14,.box [.clp 150 c3_0,dI (wrap64 ((nM ahead s.2.1).2.1+(nM ahead s.2.2.1).2.1))]),(150,.arr .sh ag v3)]⟩
abbrev LP111_3 (s:aj.D) (tables:LTb) (ahead:(List aF.D)) (m:Nat) (st_:St) (K:KX):Prop:=∃c3_0:Int,True/\cB (s111_3 s tables ahead c3_0) Z0 ((nM ahead s.2.2.1).1.length:Int) (F.eN s tables ahead c3_0) (fun v3:LC=>True) (bn (fun v3:LC=>True->K (.exit 3) (⟨[(6,.ptr 6 0),(14,.ptr 14 0)],[(6,.box [.cst (.slice none 0 0),dI Z0]),(14,.box [.clp 150 c3_0,dI (wrap64 ((nM ahead s.2.1).2.1+(nM ahead s.2.2.1).2.1))]),(150,.arr .sh ag v3)]⟩:St)) (fun q3:Unit=>K .ret (⟨[(6,.ptr 6 0),(7,dB false)],[(6,.box [.cst (.slice none 0 0),dI Z0])]⟩:St))) m st_
def L111 (s:aj.D) (tables:LTb) (ahead:(List aF.D)):bF:=lp2 1 (LP111_1 s tables ahead) 3 (LP111_3 s tables ahead)
abbrev S111_0 (s:aj.D) (tables:LTb) (ahead:(List aF.D)) (K:KA):Prop:=(Sm (Ty.sl TCS) [(nM ahead s.2.1).1,(nM ahead s.2.2.1).1])/\(LD (List.flatten [(nM ahead s.2.1).1,(nM ahead s.2.2.1).1]) fun r1=>cond ((decide ((r1.length:Int)<=Z4))==true) ((Sm TCS r1)/\(Sm TPS s.2.2.2.2.1)/\Q0 (K (.tup [.data aF (r1,(wrap64 ((nM ahead s.2.1).2.1 * (nM ahead s.2.2.1).2.1),())),dB (decide ((M.cT r1 s.2.2.2.2.1)=Z3))]) [])) (Q0 (K (.tup [.data aF (r1,(wrap64 ((nM ahead s.2.1).2.1 * (nM ahead s.2.2.1).2.1),())),dB false]) [])))
abbrev S111_1 (s:aj.D) (tables:LTb) (ahead:(List aF.D)) (K:KA):Prop:=(Sm TCS (nM ahead s.2.1).1)/\(LD (nM ahead s.2.1).1 fun r2=>cond (!decide (((nM ahead s.2.1).1.length:Int)=((nM ahead s.2.2.1).1.length:Int))) (K (.tup [.data aF ([],(Z0,())),dB false]) []) (∃m_,∃c3_0:Int,True/\cB (s111_3 s tables ahead c3_0) Z0 ((nM ahead s.2.2.1).1.length:Int) (F.eN s tables ahead c3_0) (fun v3:LC=>True) (bn (fun v3:LC=>True->K (.tup [.data aF ((aD v3 (some (Z0,c3_0))),(wrap64 ((nM ahead s.2.1).2.1+(nM ahead s.2.2.1).2.1),())),dB true]) []) (fun q3:Unit=>K (.tup [.data aF ([],(Z0,())),dB false]) [])) m_ (s111_3 s tables ahead (r2.length:Int) Z0 r2)))
abbrev S111_2 (s:aj.D) (tables:LTb) (ahead:(List aF.D)) (K:KA):Prop:=cond (decide (s.1=Z2)) ((Sm TCS (nM ahead s.2.1).1)/\(Sm TPS s.2.2.2.2.1)/\K (.tup [.data aF (nM ahead s.2.1),dB (decide ((M.cT (nM ahead s.2.1).1 s.2.2.2.2.1)=Z3))]) []) (cond (decide (s.1=Z3)) (∃m_,True/\bU (t:=ay) (s111_1 s tables ahead) s.2.2.2.2.2.1 (F.gb s tables ahead) (fun v1:LC=>True) (bn (fun v1:LC=>True->Q0 (K (.tup [.data aF (v1,(nM ahead s.2.1).2),dB (decide ((s.2.2.2.2.2.1.length:Int)<=Z4))]) [])) (fun q1:Unit=>K (.tup [.data aF ([],(Z0,())),dB false]) [])) m_ (s111_1 s tables ahead Z0 [])) (cond (decide (s.1=Z4)) (Q1 (S111_0 s tables ahead K)) (cond (decide (s.1=Z5)) (Q0 (S111_1 s tables ahead K)) (K (.tup [.data aF (nM ahead s.2.1),dB true]) []))))
abbrev S111_3 (s:aj.D) (tables:LTb) (ahead:(List aF.D)) (K:KA):Prop:=(S111_2 s tables ahead K)
theorem vc111 (s:aj.D) (tables:LTb) (ahead:(List aF.D)) (K:KA):vcT C111 (L111 s tables ahead) ann111 f111 [.data aj s,.data TTb tables,.brw aF ahead] [] (.tup [aF,Ty.bool]) K =
 ((Sm aj s)/\cond ((!(M.bT s))==false) (cond (!(M.inR s.1 Z1 Z6)) (K (.tup [.data aF ([],(Z0,())),dB false]) []) (cond (decide (s.1=Z1)) (cond (!(M.inR s.2.2.2.1 Z0 (wrap64 ((tables.length:Int)-Z1)))) (K (.tup [.data aF ([],(Z0,())),dB false]) []) ((0<=s.2.2.2.1)/\(s.2.2.2.1<(tables.length:Int))/\K (.tup [.data aF ((nT tables s.2.2.2.1).1,(Z6,())),dB true]) [])) (cond ((!(M.inR s.2.1 Z0 (wrap64 ((ahead.length:Int)-Z1))))==false) (cond (!(M.inR s.2.2.1 Z0 (wrap64 ((ahead.length:Int)-Z1)))) (K (.tup [.data aF ([],(Z0,())),dB false]) []) ((0<=s.2.1)/\(s.2.1<(ahead.length:Int))/\(0<=s.2.2.1)/\(s.2.2.1<(ahead.length:Int))/\Q2 (S111_3 s tables ahead K))) (K (.tup [.data aF ([],(Z0,())),dB false]) [])))) (K (.tup [.data aF ([],(Z0,())),dB false]) [])):=by kernel_rfl
theorem lvc111_0 (s:aj.D) (tables:LTb) (ahead:(List aF.D))  (i1:Int) (v1:LC) (m:Nat) (K:KX):lvT C111 (L111 s tables ahead) ann111 f111 0 1 (s111_1 s tables ahead i1 v1) m K =
 (cond (decide (i1<(s.2.2.2.2.2.1.length:Int))) ((0<=i1)/\(i1<(s.2.2.2.2.2.1.length:Int))/\cond (!(M.inR (nI s.2.2.2.2.2.1 i1) Z0 (wrap64 (((nM ahead s.2.1).1.length:Int)-Z1)))) (K .ret (⟨[(6,.ptr 6 0),(7,dB false)],[(6,.box [.cst (.slice none 0 0),dI Z0])]⟩:St)) ((0<=(nI s.2.2.2.2.2.1 i1))/\((nI s.2.2.2.2.2.1 i1)<((nM ahead s.2.1).1.length:Int))/\((v1.length+[(nC (nM ahead s.2.1).1 (nI s.2.2.2.2.2.1 i1))].length) * 16<=lim)/\(nxT (LP111_1 s tables ahead) m K (s111_1 s tables ahead (wrap64 (i1+Z1)) (v1++[(nC (nM ahead s.2.1).1 (nI s.2.2.2.2.2.1 i1))]))))) (K (.exit 1) (⟨[(3,.adr aj s),(6,.ptr 6 0),(10,.ptr 10 0)],[(6,.box [.cst (.slice none 0 0),dI Z0]),(10,.box [.own 800160 none,dI (nM ahead s.2.1).2.1]),(800160,.arr .sh ag v1)]⟩:St))):=by kernel_rfl
theorem lvc111_1 (s:aj.D) (tables:LTb) (ahead:(List aF.D)) (c3_0:Int) (i3:Int) (v3:LC) (m:Nat) (K:KX):lvT C111 (L111 s tables ahead) ann111 f111 1 3 (s111_3 s tables ahead c3_0 i3 v3) m K =
 (cond (decide (i3<((nM ahead s.2.2.1).1.length:Int))) ((0<=i3)/\(i3<((nM ahead s.2.2.1).1.length:Int))/\(0<=i3)/\(i3<c3_0)/\cond (!decide ((nC (nM ahead s.2.2.1).1 i3).1=(nC v3 i3).1)) (K .ret (⟨[(6,.ptr 6 0),(7,dB false)],[(6,.box [.cst (.slice none 0 0),dI Z0])]⟩:St)) ((0<=i3)/\(i3<c3_0)/\cond ((nC v3 i3).2.1==false) ((0<=i3)/\(i3<c3_0)/\(let y1:LC:=(v3.set i3.toNat ((nC v3 i3).1,(nC (nM ahead s.2.2.1).1 i3).2));(nxT (LP111_3 s tables ahead) m K (s111_3 s tables ahead c3_0 (wrap64 (i3+Z1)) y1)))) ((0<=i3)/\(i3<c3_0)/\(nxT (LP111_3 s tables ahead) m K (s111_3 s tables ahead c3_0 (wrap64 (i3+Z1)) (v3.set i3.toNat ((nC v3 i3).1,(true,())))))))) (K (.exit 3) (⟨[(6,.ptr 6 0),(14,.ptr 14 0)],[(6,.box [.cst (.slice none 0 0),dI Z0]),(14,.box [.clp 150 c3_0,dI (wrap64 ((nM ahead s.2.1).2.1+(nM ahead s.2.2.1).2.1))]),(150,.arr .sh ag v3)]⟩:St))):=by kernel_rfl
theorem con111_ok:bp P 111 c111:=bt C111 func111 (kC con13_ok (kC con67_ok (kC con74_ok (kC con156_ok (kC con157_ok kN))))) fun args hp K h0=>by
 obtain⟨s,tables,ahead,rfl,rfl,h_s,h_tables,h_ahead,hK⟩:=g3e h0
 have h:ok (F.gP s tables ahead) (fun r=>K (.tup [.data aF r.1,dB r.2]) []):=aA (F.tI s tables ahead h_s h_tables h_ahead) (hK _ rfl)
 refine⟨rfl,ann111,(L111 s tables ahead),(.tup [aF,Ty.bool]),(lz (i0:=1) (i1:=3) (by kernel_rfl) ?_ ?_),?_⟩
 ·rintro _ _ K ⟨hc1,i1,v1,rfl,hl1,rfl,hv1,h⟩
  exact cast (lvc111_0 _ _ _ _ _ _ _).symm (bz (t:=ay) hl1 h (fun ht1 h=>⟨hl1,⟨ht1,(oC h (fun _ h=>h) fun b_22 h=>⟨(fY (bnf b_22)),⟨(nq (bnf b_22)),(oG h fun _ h=>(aY (t:=ay) (fun _ hm=>⟨hc1,hm⟩) _ rfl hl1 ht1 (bD h_s.2.2.2.2.2.1) trivial h))⟩⟩)⟩⟩) fun h=>(h trivial))
 ·rintro _ _ K ⟨c3_0,hc3,i3,v3,rfl,hl3,rfl,hv3,h⟩
  exact cast (lvc111_1 _ _ _ _ _ _ _ _).symm (bO h (fun ht3 h=>⟨hl3,⟨ht3,⟨hl3,(oG h fun g1 h=>(oC h (fun _ h=>h) fun _ h=>⟨hl3,⟨g1,(oC h (fun _ h=>⟨hl3,⟨g1,(have h:=cJ h _ rfl;(aV (fun _ hm=>⟨c3_0,hc3,hm⟩) _ rfl hl3 iM ht3 (bD (aU h_ahead s.2.2.1).1) trivial h))⟩⟩) fun _ h=>⟨hl3,⟨g1,(aV (fun _ hm=>⟨c3_0,hc3,hm⟩) _ rfl hl3 iM ht3 (bD (aU h_ahead s.2.2.1).1) trivial h)⟩⟩)⟩⟩))⟩⟩⟩) fun h=>(h trivial))
 ·rw[vc111]
  exact⟨h_s,(oC h (fun _ h=>(oC h (fun _ h=>h) fun _ h=>(oC h (fun _ h=>(oC h (fun _ h=>h) fun b_4 h=>⟨(fY (bnf b_4)),⟨(nq (bnf b_4)),h⟩⟩)) fun _ h=>(oC h (fun b_5 h=>(oC h (fun _ h=>h) fun b_6 h=>⟨(fY (bnf (bgt b_5))),⟨(nq (bnf (bgt b_5))),⟨(fY (bnf b_6)),⟨(nq (bnf b_6)),(q2 (oC h (fun _ h=>⟨(aU h_ahead s.2.1).1,⟨h_s.2.2.2.2.1,h⟩⟩) fun _ h=>(oC h (fun _ h=>(bf (t:=ay) (fun m hm=>⟨trivial,hm⟩) _ rfl trivial (aR h (fun v1 h hv1=>(q0 h)) (fun q1 h=>h)))) fun _ h=>(oC h (fun _ h=>(q1 (oG h fun _ h=>(oL h fun _ _ h=>(oC h (fun _ h=>(oG h fun _ h=>⟨h_s.2.2.2.2.1,(q0 h)⟩)) fun _ h=>(q0 h)))))) fun _ h=>(oC h (fun _ h=>(q0 (⟨(aU h_ahead s.2.1).1,(oL h fun r2 _ h=>(oC h (fun _ h=>h) fun _ h=>(bE (fun m hm=>⟨(r2.length:Int),trivial,hm⟩) Z0 _ rfl (Int.natCast_nonneg 0) trivial (aR h (fun v3 h hv3=>h) (fun q3 h=>h)))))⟩))) fun _ h=>h)))))⟩⟩⟩⟩)) fun _ h=>h)))) fun _ h=>h)⟩
def c59:Con:=⟨[.dat TTb,.dat TSS],fun args hp K=>g2 (pD TTb) (pD TSS) (fun tables plan=>(Sm TTb tables)/\(Sm TSS plan)/\(LD (M.makes tables plan) fun r=>K (.tup [.data (Ty.sl aF) r.1,dB r.2]) [])) args hp,.plain,false⟩
abbrev C59:Ctx:=cx [(67,c67),(110,c110),(111,c111)] 46 [] 0 false
def ann59:=an [[kp 3],[kp 524291],[kp 48],[kp 67],[kp 7340097],[kp 15728705],[.fixRow 8 aj,kp 7340353],[.fixRow 9 aF,kp 7341633],[kp 549763154497],[kp 48],[kp 7340097],[kp 7340097],[kp 48]] [[kp 64]]
abbrev s59_0 (tables:LTb) (plan:LS) (i0:Int) (v0:(List aF.D)):St:=⟨[(0,.data TTb tables),(6,.own 6 none),(20,.data TSS plan),(21,dI (plan.length:Int)),(22,dI i0)],[(6,.arr .sh aF v0)]⟩
abbrev LP59_0 (tables:LTb) (plan:LS) (m:Nat) (st_:St) (K:KX):Prop:=True/\bU (t:=aj) (s59_0 tables plan) plan (F.iz tables plan) (fun v0:(List aF.D)=>True) (bn (fun v0:(List aF.D)=>True->K (.exit 0) (⟨[(6,.own 6 none)],[(6,.arr .sh aF v0)]⟩:St)) (fun q0:Unit=>K .ret (⟨[(4,.own 4 none),(5,dB false)],[(4,.arr .sh aF [])]⟩:St))) m st_
def L59 (tables:LTb) (plan:LS):bF:=lp1 0 (LP59_0 tables plan)
theorem vc59 (tables:LTb) (plan:LS) (K:KA):vcT C59 (L59 tables plan) ann59 f59 [.data TTb tables,.data TSS plan] [] (.tup [(Ty.sl aF),Ty.bool]) K =
 ((Sm TTb tables)/\cond ((!(M.ck tables))==false) (cond (!(M.inR (plan.length:Int) Z1 Z6)) (K (.tup [.data (Ty.sl aF) [],dB false]) []) (∃m_,True/\bU (t:=aj) (s59_0 tables plan) plan (F.iz tables plan) (fun v0:(List aF.D)=>True) (bn (fun v0:(List aF.D)=>True->K (.tup [.data (Ty.sl aF) v0,dB true]) []) (fun q0:Unit=>K (.tup [.data (Ty.sl aF) [],dB false]) [])) m_ (s59_0 tables plan Z0 []))) (K (.tup [.data (Ty.sl aF) [],dB false]) [])):=by kernel_rfl
theorem lvc59_0 (tables:LTb) (plan:LS)  (i0:Int) (v0:(List aF.D)) (m:Nat) (K:KX):lvT C59 (L59 tables plan) ann59 f59 0 0 (s59_0 tables plan i0 v0) m K =
 (cond (decide (i0<(plan.length:Int))) ((0<=i0)/\(i0<(plan.length:Int))/\(Sm aj (nS plan i0))/\(Sm TTb tables)/\(Sm (Ty.sl aF) v0)/\(LD (M.make (nS plan i0) tables v0) fun r1=>cond ((!r1.2)==false) (cond (decide ((300:Int)<r1.1.2.1)) (K .ret (⟨[(4,.own 4 none),(5,dB false)],[(4,.arr .sh aF [])]⟩:St)) (((v0.length+[r1.1].length) * 32<=lim)/\(nxT (LP59_0 tables plan) m K (s59_0 tables plan (wrap64 (i0+Z1)) (v0++[r1.1]))))) (K .ret (⟨[(4,.own 4 none),(5,dB false)],[(4,.arr .sh aF [])]⟩:St)))) (K (.exit 0) (⟨[(6,.own 6 none)],[(6,.arr .sh aF v0)]⟩:St))):=by kernel_rfl
theorem con59_ok:bp P 59 c59:=bt C59 func59 (kC con67_ok (kC con110_ok (kC con111_ok kN))) fun args hp K h0=>by
 obtain⟨tables,plan,rfl,rfl,h_tables,h_plan,hK⟩:=g2e h0
 have h:ok (F.mg tables plan) (fun r=>K (.tup [.data (Ty.sl aF) r.1,dB r.2]) []):=aA (F.zA tables plan h_tables h_plan) (hK _ rfl)
 refine⟨rfl,ann59,(L59 tables plan),(.tup [(Ty.sl aF),Ty.bool]),(bK (i0:=0) (by kernel_rfl) ?_),?_⟩
 ·rintro _ _ K ⟨hc0,i0,v0,rfl,hl0,rfl,hv0,h⟩
  exact cast (lvc59_0 _ _ _ _ _ _).symm (bz (t:=aj) hl0 h (fun ht0 h=>⟨hl0,⟨ht0,⟨(aU h_plan i0),⟨h_tables,(oG h fun _ h=>(oL h fun _ _ h=>(oC h (fun _ h=>(oC h (fun _ h=>h) fun _ h=>(oG h fun _ h=>(aY (t:=aj) (fun _ hm=>⟨hc0,hm⟩) _ rfl hl0 ht0 (bD h_plan) trivial h)))) fun _ h=>h)))⟩⟩⟩⟩) fun h=>(h trivial))
 ·rw[vc59]
  exact⟨h_tables,(oC h (fun _ h=>(oC h (fun _ h=>h) fun _ h=>(bf (t:=aj) (fun m hm=>⟨trivial,hm⟩) _ rfl trivial (aR h (fun v0 h hv0=>h) (fun q0 h=>h))))) fun _ h=>h)⟩
def c20:Con:=⟨[.dat TTb,.dat TSS],fun args hp K=>g2 (pD TTb) (pD TSS) (fun tables plan=>(Sm TTb tables)/\(Sm TSS plan)/\K (dB (M.bQ tables plan)) []) args hp,.plain,false⟩
abbrev C20:Ctx:=cx [(59,c59)] 14 [] 0 false
def ann20:=an [[kp 3],[kp 64],[kp 16]] []
theorem vc20 (tables:LTb) (plan:LS) (K:KA):vcT C20 aC ann20 f20 [.data TTb tables,.data TSS plan] [] (.dat Ty.bool) K =
 ((Sm TTb tables)/\(Sm TSS plan)/\(LD (M.makes tables plan) fun r1=>K (dB r1.2) [])):=by kernel_rfl
theorem con20_ok:bp P 20 c20:=bt C20 func20 (kC con59_ok kN) fun args hp K h0=>by
 obtain⟨tables,plan,rfl,rfl,h_tables,h_plan,hK⟩:=g2e h0
 have h:ok (F.qF tables plan) (fun r=>K (dB r) []):=aA (F.xJ tables plan h_tables h_plan) hK
 refine⟨rfl,ann20,aC,(.dat Ty.bool),(aH (by kernel_rfl)),?_⟩
 ·rw[vc20]
  exact⟨h_tables,⟨h_plan,(oL h fun _ _ h=>h)⟩⟩
def c60:Con:=⟨[.dat TVS,.dat TVS],fun args hp K=>g2 (pD TVS) (pD TVS) (fun a b=>(Sm TVS a)/\(Sm TVS b)/\(a=b)/\K (dB true) []) args hp,.plain,false⟩
abbrev C60:Ctx:=cx [] 26 [] 0 false
def ann60:=an [[kp 3],[kp 1027],[kp 16],[kp 35],[kp 16419],[kp 35],[kp 33554467],[kp 16],[kp 16]] [[kp 0]]
abbrev s60_0 (a:LV) (b:LV) (i0:Int) (v0:Unit):St:=⟨[(0,.data TVS a),(1,.data TVS b),(5,dI i0)],[]⟩
abbrev LP60_0 (a:LV) (b:LV) (m:Nat) (st_:St) (K:KX):Prop:=True/\cB (s60_0 a b) Z0 (a.length:Int) (F.iI a b) (fun v0:Unit=>True) (bn (fun v0:Unit=>True->K (.exit 0) (⟨[],[]⟩:St)) (fun q0:Unit=>K .ret (⟨[(4,dB false)],[]⟩:St))) m st_
def L60 (a:LV) (b:LV):bF:=lp1 0 (LP60_0 a b)
theorem vc60 (a:LV) (b:LV) (K:KA):vcT C60 (L60 a b) ann60 f60 [.data TVS a,.data TVS b] [] (.dat Ty.bool) K =
 (cond (!decide ((a.length:Int)=(b.length:Int))) (K (dB false) []) (∃m_,True/\cB (s60_0 a b) Z0 (a.length:Int) (F.iI a b) (fun v0:Unit=>True) (bn (fun v0:Unit=>True->K (dB true) []) (fun q0:Unit=>K (dB false) [])) m_ (s60_0 a b Z0 ()))):=by kernel_rfl
theorem lvc60_0 (a:LV) (b:LV)  (i0:Int) (v0:Unit) (m:Nat) (K:KX):lvT C60 (L60 a b) ann60 f60 0 0 (s60_0 a b i0 v0) m K =
 (cond (decide (i0<(a.length:Int))) ((0<=i0)/\(i0<(a.length:Int))/\(0<=i0)/\(i0<(b.length:Int))/\cond (!(Ty.beq aa (nV a i0) (nV b i0))) (K .ret (⟨[(4,dB false)],[]⟩:St)) (nxT (LP60_0 a b) m K (s60_0 a b (wrap64 (i0+Z1)) ()))) (K (.exit 0) (⟨[],[]⟩:St))):=by kernel_rfl
theorem con60_ok:bp P 60 c60:=bt C60 func60 kN fun args hp K h0=>by
 obtain⟨a,b,rfl,rfl,h_a,h_b,p0,hK⟩:=g2e h0
 have h:ok (F.oH a b) (fun r=>K (dB r) []):=aA (F.xd a b h_a h_b p0) hK
 refine⟨rfl,ann60,(L60 a b),(.dat Ty.bool),(bK (i0:=0) (by kernel_rfl) ?_),?_⟩
 ·rintro _ _ K ⟨hc0,i0,v0,rfl,hl0,rfl,hv0,h⟩
  exact cast (lvc60_0 _ _ _ _ _ _).symm (bO h (fun ht0 h=>⟨hl0,⟨ht0,⟨hl0,(oG h fun _ h=>(oC h (fun _ h=>h) fun _ h=>(aV (fun _ hm=>⟨hc0,hm⟩) _ rfl hl0 iM ht0 (bD h_a) trivial h)))⟩⟩⟩) fun h=>(h trivial))
 ·rw[vc60]
  exact(oC h (fun _ h=>h) fun _ h=>(bE (fun m hm=>⟨trivial,hm⟩) Z0 _ rfl (Int.natCast_nonneg 0) trivial (aR h (fun v0 h hv0=>h) (fun q0 h=>h))))
def c21:Con:=⟨[.dat (Ty.sl TVS),.dat (Ty.sl TVS)],fun args hp K=>g2 (pD (Ty.sl TVS)) (pD (Ty.sl TVS)) (fun a b=>(Sm (Ty.sl TVS) a)/\(Sm (Ty.sl TVS) b)/\(a=b)/\K (dB true) []) args hp,.plain,false⟩
abbrev C21:Ctx:=cx [(60,c60)] 27 [] 0 false
def ann21:=an [[kp 3],[kp 1027],[kp 16],[kp 35],[kp 16419],[kp 35],[kp 67108899],[kp 16],[kp 16]] [[kp 0]]
abbrev s21_0 (a:(List LV)) (b:(List LV)) (i0:Int) (v0:Unit):St:=⟨[(0,.data (Ty.sl TVS) a),(1,.data (Ty.sl TVS) b),(5,dI i0)],[]⟩
abbrev LP21_0 (a:(List LV)) (b:(List LV)) (m:Nat) (st_:St) (K:KX):Prop:=True/\cB (s21_0 a b) Z0 (a.length:Int) (F.hG a b) (fun v0:Unit=>True) (bn (fun v0:Unit=>True->K (.exit 0) (⟨[],[]⟩:St)) (fun q0:Unit=>K .ret (⟨[(4,dB false)],[]⟩:St))) m st_
def L21 (a:(List LV)) (b:(List LV)):bF:=lp1 0 (LP21_0 a b)
theorem vc21 (a:(List LV)) (b:(List LV)) (K:KA):vcT C21 (L21 a b) ann21 f21 [.data (Ty.sl TVS) a,.data (Ty.sl TVS) b] [] (.dat Ty.bool) K =
 (cond (!decide ((a.length:Int)=(b.length:Int))) (K (dB false) []) (∃m_,True/\cB (s21_0 a b) Z0 (a.length:Int) (F.hG a b) (fun v0:Unit=>True) (bn (fun v0:Unit=>True->K (dB true) []) (fun q0:Unit=>K (dB false) [])) m_ (s21_0 a b Z0 ()))):=by kernel_rfl
theorem lvc21_0 (a:(List LV)) (b:(List LV))  (i0:Int) (v0:Unit) (m:Nat) (K:KX):lvT C21 (L21 a b) ann21 f21 0 0 (s21_0 a b i0 v0) m K =
 (cond (decide (i0<(a.length:Int))) ((0<=i0)/\(i0<(a.length:Int))/\(0<=i0)/\(i0<(b.length:Int))/\(Sm TVS (nth (t:=TVS) a i0))/\(Sm TVS (nth (t:=TVS) b i0))/\((nth (t:=TVS) a i0)=(nth (t:=TVS) b i0))/\cond (!true) (K .ret (⟨[(4,dB false)],[]⟩:St)) (nxT (LP21_0 a b) m K (s21_0 a b (wrap64 (i0+Z1)) ()))) (K (.exit 0) (⟨[],[]⟩:St))):=by kernel_rfl
theorem con21_ok:bp P 21 c21:=bt C21 func21 (kC con60_ok kN) fun args hp K h0=>by
 obtain⟨a,b,rfl,rfl,h_a,h_b,p0,hK⟩:=g2e h0
 have h:ok (F.nD a b) (fun r=>K (dB r) []):=aA (F.uI a b h_a h_b p0) hK
 refine⟨rfl,ann21,(L21 a b),(.dat Ty.bool),(bK (i0:=0) (by kernel_rfl) ?_),?_⟩
 ·rintro _ _ K ⟨hc0,i0,v0,rfl,hl0,rfl,hv0,h⟩
  exact cast (lvc21_0 _ _ _ _ _ _).symm (bO h (fun ht0 h=>⟨hl0,⟨ht0,⟨hl0,(oG h fun _ h=>⟨(aU h_a i0),⟨(aU h_b i0),(oG h fun _ h=>(oC h (fun _ h=>h) fun _ h=>(aV (fun _ hm=>⟨hc0,hm⟩) _ rfl hl0 iM ht0 (bD h_a) trivial h)))⟩⟩)⟩⟩⟩) fun h=>(h trivial))
 ·rw[vc21]
  exact(oC h (fun _ h=>h) fun _ h=>(bE (fun m hm=>⟨trivial,hm⟩) Z0 _ rfl (Int.natCast_nonneg 0) trivial (aR h (fun v0 h hv0=>h) (fun q0 h=>h))))
def c128:Con:=⟨[.dat ay],fun args hp K=>g1 (pD ay) (fun truth=>(LD (M.valueOf truth) fun r=>K (.data aa r) [])) args hp,.plain,false⟩
abbrev C128:Ctx:=cx [(67,c67)] 9 [] 0 false
def ann128:=an [[kp 5],[kp 37],[kp 4],[kp 4]] []
theorem vc128 (truth:Int) (K:KA):vcT C128 aC ann128 f128 [dI truth] [] (.dat aa) K =
 (cond (!(M.inR truth Z0 Z1)) (K (.data aa (Z0,(Z0,((⟨#[]⟩:ByteArray),())))) []) (K (.data aa (Z3,(truth,((⟨#[]⟩:ByteArray),())))) [])):=by kernel_rfl
theorem con128_ok:bp P 128 c128:=bt C128 func128 (kC con67_ok kN) fun args hp K h0=>by
 obtain⟨truth,rfl,rfl,hK⟩:=g1e h0
 have h:ok (F.oZ truth) (fun r=>K (.data aa r) []):=aA (F.wV truth) (hK _ rfl)
 refine⟨rfl,ann128,aC,(.dat aa),(aH (by kernel_rfl)),?_⟩
 ·rw[vc128]
  exact(oC h (fun _ h=>h) fun _ h=>h)
def c136:Con:=⟨[.dat Ty.bool],fun args hp K=>g1 (pD Ty.bool) (fun b=>K (dI (M.bool b)) []) args hp,.plain,false⟩
abbrev C136:Ctx:=cx [] 4 [] 0 false
def ann136:=an [[kp 1],[kp 8],[kp 4],[kp 4]] []
theorem vc136 (b:Bool) (K:KA):vcT C136 aC ann136 f136 [dB b] [] (.dat ay) K =
 (cond b (K (dI Z1) []) (K (dI Z0) [])):=by kernel_rfl
theorem con136_ok:bp P 136 c136:=bt C136 func136 kN fun args hp K h0=>by
 obtain⟨b,rfl,rfl,hK⟩:=g1e h0
 have h:ok (F.oU b) (fun r=>K (dI r) []):=aA (F.xb b) hK
 refine⟨rfl,ann136,aC,(.dat ay),(aH (by kernel_rfl)),?_⟩
 ·rw[vc136]
  exact(oC h (fun _ h=>h) fun _ h=>h)
def c202:Con:=⟨[.dat (Ty.sl ay)],fun args hp K=>g1 (pD (Ty.sl ay)) (fun vals=>(Sm (Ty.sl ay) vals)/\K (dI (M.orI vals)) []) args hp,.plain,false⟩
abbrev C202:Ctx:=cx [] 18 [] 0 false
def ann202:=an [[kp 1],[kp 9],[kp 456],[kp 968],[kp 488],[kp 16872],[kp 4],[kp 456],[kp 4]] [[kp 8]]
abbrev s202_0 (vals:LI) (i0:Int) (v0:Unit):St:=⟨[(3,dI Z0),(6,.data (Ty.sl ay) vals),(7,dI (vals.length:Int)),(8,dI i0)],[]⟩
abbrev LP202_0 (vals:LI) (m:Nat) (st_:St) (K:KX):Prop:=True/\bU (t:=ay) (s202_0 vals) vals (F.ij vals) (fun v0:Unit=>True) (bn (fun v0:Unit=>True->K (.exit 0) (⟨[(3,dI Z0)],[]⟩:St)) (fun q0:Int=>K .ret (⟨[(2,dI q0)],[]⟩:St))) m st_
def L202 (vals:LI):bF:=lp1 0 (LP202_0 vals)
theorem vc202 (vals:LI) (K:KA):vcT C202 (L202 vals) ann202 f202 [.data (Ty.sl ay) vals] [] (.dat ay) K =
 (∃m_,True/\bU (t:=ay) (s202_0 vals) vals (F.ij vals) (fun v0:Unit=>True) (bn (fun v0:Unit=>True->K (dI Z0) []) (fun q0:Int=>K (dI q0) [])) m_ (s202_0 vals Z0 ())):=by kernel_rfl
theorem lvc202_0 (vals:LI)  (i0:Int) (v0:Unit) (m:Nat) (K:KX):lvT C202 (L202 vals) ann202 f202 0 0 (s202_0 vals i0 v0) m K =
 (cond (decide (i0<(vals.length:Int))) ((0<=i0)/\(i0<(vals.length:Int))/\cond (!decide ((nI vals i0)=Z0)) (K .ret (⟨[(2,dI (nI vals i0))],[]⟩:St)) (nxT (LP202_0 vals) m K (s202_0 vals (wrap64 (i0+Z1)) ()))) (K (.exit 0) (⟨[(3,dI Z0)],[]⟩:St))):=by kernel_rfl
theorem con202_ok:bp P 202 c202:=bt C202 func202 kN fun args hp K h0=>by
 obtain⟨vals,rfl,rfl,h_vals,hK⟩:=g1e h0
 have h:ok (F.su vals) (fun r=>K (dI r) []):=aA (F.zT vals h_vals) hK
 refine⟨rfl,ann202,(L202 vals),(.dat ay),(bK (i0:=0) (by kernel_rfl) ?_),?_⟩
 ·rintro _ _ K ⟨hc0,i0,v0,rfl,hl0,rfl,hv0,h⟩
  exact cast (lvc202_0 _ _ _ _ _).symm (bz (t:=ay) hl0 h (fun ht0 h=>⟨hl0,⟨ht0,(oC h (fun _ h=>h) fun _ h=>(aY (t:=ay) (fun _ hm=>⟨hc0,hm⟩) _ rfl hl0 ht0 (bD h_vals) trivial h))⟩⟩) fun h=>(h trivial))
 ·rw[vc202]
  exact(bf (t:=ay) (fun m hm=>⟨trivial,hm⟩) _ rfl trivial (aR h (fun v0 h hv0=>h) (fun q0 h=>h)))
def c200:Con:=⟨[.dat ay],fun args hp K=>g1 (pD ay) (fun x=>K (dB false) []) args hp,.plain,false⟩
abbrev C200:Ctx:=cx [] 6 [] 0 false
def ann200:=an [[kp 1],[kp 4]] []
theorem vc200 (x:Int) (K:KA):vcT C200 aC ann200 f200 [dI x] [] (.dat Ty.bool) K =
 (K (dB (!decide (x=x))) []):=by kernel_rfl
theorem con200_ok:bp P 200 c200:=bt C200 func200 kN fun args hp K h0=>by
 obtain⟨x,rfl,rfl,hK⟩:=g1e h0
 have h:ok (F.mY x) (fun r=>K (dB r) []):=aA (F.uY x) hK
 refine⟨rfl,ann200,aC,(.dat Ty.bool),(aH (by kernel_rfl)),?_⟩
 ·rw[vc200]
  exact h
def c203:Con:=⟨[.dat ay,.dat ay],fun args hp K=>g2 (pD ay) (pD ay) (fun x y=>K (dI (M.uM x y)) []) args hp,.plain,false⟩
abbrev C203:Ctx:=cx [(200,c200)] 20 [] 0 false
def ann203:=an [[kp 3],[kp 35],[kp 99],[kp 2115],[kp 4096],[kp 16],[kp 16],[kp 8195],[kp 16],[kp 65539],[kp 16],[kp 524288],[kp 16],[kp 16]] []
theorem vc203 (x:Int) (y:Int) (K:KA):vcT C203 aC ann203 f203 [dI x,dI y] [] (.dat ay) K =
 (cond false (cond false (K (dI Z0) []) (K (dI (-1:Int)) [])) (cond false (K (dI Z1) []) (cond (decide (x<y)) (K (dI (-1:Int)) []) (cond (decide (y<x)) (K (dI Z1) []) (K (dI Z0) []))))):=by kernel_rfl
theorem con203_ok:bp P 203 c203:=bt C203 func203 (kC con200_ok kN) fun args hp K h0=>by
 obtain⟨x,y,rfl,rfl,hK⟩:=g2e h0
 have h:ok (F.kT x y) (fun r=>K (dI r) []):=aA (F.sG x y) hK
 refine⟨rfl,ann203,aC,(.dat ay),(aH (by kernel_rfl)),?_⟩
 ·rw[vc203]
  exact(oC h (fun b_1 h=>(bG b_1 h)) fun b_1 h=>(eF b_1 (oC h (fun _ h=>h) fun _ h=>(oC h (fun _ h=>h) fun _ h=>h))))
def c214:Con:=⟨[.dat Ty.str],fun args hp K=>g1 (pD Ty.str) (fun x=>(Sm Ty.str x)/\K (dB false) []) args hp,.plain,false⟩
abbrev C214:Ctx:=cx [] 6 [] 0 false
def ann214:=an [[kp 1],[kp 4]] []
theorem vc214 (x:ByteArray) (K:KA):vcT C214 aC ann214 f214 [.data Ty.str x] [] (.dat Ty.bool) K =
 (K (dB (!decide (x=x))) []):=by kernel_rfl
theorem con214_ok:bp P 214 c214:=bt C214 func214 kN fun args hp K h0=>by
 obtain⟨x,rfl,rfl,h_x,hK⟩:=g1e h0
 have h:ok (F.jI x) (fun r=>K (dB r) []):=aA (F.rN x h_x) hK
 refine⟨rfl,ann214,aC,(.dat Ty.bool),(aH (by kernel_rfl)),?_⟩
 ·rw[vc214]
  exact h
def c204:Con:=⟨[.dat Ty.str,.dat Ty.str],fun args hp K=>g2 (pD Ty.str) (pD Ty.str) (fun x y=>(Sm Ty.str x)/\(Sm Ty.str y)/\K (dI (M.Cp x y)) []) args hp,.plain,false⟩
abbrev C204:Ctx:=cx [(214,c214)] 20 [] 0 false
def ann204:=an [[kp 3],[kp 35],[kp 99],[kp 2115],[kp 4096],[kp 16],[kp 16],[kp 8195],[kp 16],[kp 65539],[kp 16],[kp 524288],[kp 16],[kp 16]] []
theorem vc204 (x:ByteArray) (y:ByteArray) (K:KA):vcT C204 aC ann204 f204 [.data Ty.str x,.data Ty.str y] [] (.dat ay) K =
 ((Sm Ty.str x)/\(Sm Ty.str y)/\cond false (cond false (K (dI Z0) []) (K (dI (-1:Int)) [])) (cond false (K (dI Z1) []) (cond (Op.bytesLess x.toList y.toList) (K (dI (-1:Int)) []) (cond (!(Op.bytesLess x.toList y.toList||decide (x=y))) (K (dI Z1) []) (K (dI Z0) []))))):=by kernel_rfl
theorem con204_ok:bp P 204 c204:=bt C204 func204 (kC con214_ok kN) fun args hp K h0=>by
 obtain⟨x,y,rfl,rfl,h_x,h_y,hK⟩:=g2e h0
 have h:ok (F.iK x y) (fun r=>K (dI r) []):=aA (F.qd x y h_x h_y) hK
 refine⟨rfl,ann204,aC,(.dat ay),(aH (by kernel_rfl)),?_⟩
 ·rw[vc204]
  exact⟨h_x,⟨h_y,(oC h (fun b_1 h=>(bG b_1 h)) fun b_1 h=>(eF b_1 (oC h (fun _ h=>h) fun _ h=>(oC h (fun _ h=>h) fun _ h=>h))))⟩⟩
def c178:Con:=⟨[.dat aa,.dat aa],fun args hp K=>g2 (pD aa) (pD aa) (fun v w=>(Sm aa v)/\(Sm aa w)/\K (dI (M.order v w)) []) args hp,.plain,false⟩
abbrev C178:Ctx:=cx [(202,c202),(203,c203),(204,c204)] 22 [] 0 false
def ann178:=an [[.fixRow 2 aa,.fixRow 3 aa,kp 12],[kp 16]] []
theorem vc178 (v:aa.D) (w:aa.D) (K:KA):vcT C178 aC ann178 f178 [.data aa v,.data aa w] [] (.dat ay) K =
 ((Sm Ty.str v.2.2.1)/\(Sm Ty.str w.2.2.1)/\(Sm (Ty.sl ay) [(M.uM v.1 w.1),(M.uM v.2.1 w.2.1),(M.Cp v.2.2.1 w.2.2.1)])/\K (dI (M.orI [(M.uM v.1 w.1),(M.uM v.2.1 w.2.1),(M.Cp v.2.2.1 w.2.2.1)])) []):=by kernel_rfl
theorem con178_ok:bp P 178 c178:=bt C178 func178 (kC con202_ok (kC con203_ok (kC con204_ok kN))) fun args hp K h0=>by
 obtain⟨v,w,rfl,rfl,h_v,h_w,hK⟩:=g2e h0
 have h:ok (F.jE v w) (fun r=>K (dI r) []):=aA (F.rM v w h_v h_w) hK
 refine⟨rfl,ann178,aC,(.dat ay),(aH (by kernel_rfl)),?_⟩
 ·rw[vc178]
  exact⟨h_v.2.2.1,⟨h_w.2.2.1,(oG h fun _ h=>h)⟩⟩
def c131:Con:=⟨[.dat ay,.dat aa,.dat aa],fun args hp K=>g3 (pD ay) (pD aa) (pD aa) (fun kind a b=>(Sm aa a)/\(Sm aa b)/\K (dI (M.compare kind a b)) []) args hp,.plain,false⟩
abbrev C131:Ctx:=cx [(67,c67),(99,c99),(136,c136),(178,c178)] 71 [] 0 false
def ann131:=an [[.fixRow 4 aa,.fixRow 5 aa,kp 49],[kp 305],[kp 64],[kp 4194353],[kp 64],[kp 2147483697],[kp 64],[kp 129],[kp 64]] []
abbrev S131_0 (kind:Int) (a:aa.D) (b:aa.D) (K:KA):Prop:=cond ((decide (kind=Z4))==true) (K (dI (M.bool (decide ((M.order a b)<=Z0)))) []) (K (dI (M.bool false)) [])
abbrev S131_1 (kind:Int) (a:aa.D) (b:aa.D) (K:KA):Prop:=cond ((decide (kind=Z3))==true) (cond ((decide ((M.order a b)<Z0))==false) (S131_0 kind a b K) (K (dI (M.bool true)) [])) (S131_0 kind a b K)
abbrev S131_2 (kind:Int) (a:aa.D) (b:aa.D) (K:KA):Prop:=cond ((decide (kind=Z2))==true) (cond ((!decide ((M.order a b)=Z0))==false) (S131_1 kind a b K) (K (dI (M.bool true)) [])) (S131_1 kind a b K)
theorem vc131 (kind:Int) (a:aa.D) (b:aa.D) (K:KA):vcT C131 aC ann131 f131 [dI kind,.data aa a,.data aa b] [] (.dat ay) K =
 (cond ((!(M.inR kind Z1 Z4))==false) ((Sm aa a)/\cond ((!(M.aP a))==false) ((Sm aa b)/\cond (!(M.aP b)) (K (dI (-1:Int)) []) (cond ((decide (a.1=Z0))==false) (cond (decide (b.1=Z0)) (K (dI Z2) []) (cond (!decide (a.1=b.1)) (K (dI (-1:Int)) []) ((Sm aa a)/\(Sm aa b)/\cond ((decide (kind=Z1))==true) (cond ((decide ((M.order a b)=Z0))==false) (S131_2 kind a b K) (K (dI (M.bool true)) [])) (S131_2 kind a b K)))) (K (dI Z2) []))) (K (dI (-1:Int)) [])) (K (dI (-1:Int)) [])):=by kernel_rfl
theorem con131_ok:bp P 131 c131:=bt C131 func131 (kC con67_ok (kC con99_ok (kC con136_ok (kC con178_ok kN)))) fun args hp K h0=>by
 obtain⟨kind,a,b,rfl,rfl,h_a,h_b,hK⟩:=g3e h0
 have h:ok (F.oY kind a b) (fun r=>K (dI r) []):=aA (F.wE kind a b h_a h_b) hK
 refine⟨rfl,ann131,aC,(.dat ay),(aH (by kernel_rfl)),?_⟩
 ·rw[vc131]
  exact(oC h (fun _ h=>⟨h_a,(oC h (fun _ h=>⟨h_b,(oC h (fun _ h=>h) fun _ h=>(oC h (fun _ h=>(oC h (fun _ h=>h) fun _ h=>(oC h (fun _ h=>h) fun _ h=>⟨h_a,⟨h_b,(oC h (fun b_7 h=>(oC h (fun _ h=>(eF (uef (cO (bet b_7) (by decide))) (eF (uef (cO (bet b_7) (by decide))) (eF (uef (cO (bet b_7) (by decide))) h)))) fun _ h=>h)) fun _ h=>(oC h (fun b_19 h=>(oC h (fun _ h=>(eF (uef (cO (bet b_19) (by decide))) (eF (uef (cO (bet b_19) (by decide))) h))) fun _ h=>h)) fun _ h=>(oC h (fun b_25 h=>(oC h (fun _ h=>(eF (uef (cO (bet b_25) (by decide))) h)) fun _ h=>h)) fun _ h=>(oC h (fun _ h=>h) fun _ h=>h))))⟩⟩))) fun _ h=>h))⟩) fun _ h=>h)⟩) fun _ h=>h)
def c205:Con:=⟨[.dat ay],fun args hp K=>g1 (pD ay) (fun n=>K (dB (M.inR n 0 2)) []) args hp,.plain,false⟩
abbrev C205:Ctx:=cx [(67,c67)] 5 [] 0 false
def ann205:=an [[kp 1],[kp 4]] []
theorem vc205 (n:Int) (K:KA):vcT C205 aC ann205 f205 [dI n] [] (.dat Ty.bool) K =
 (K (dB (M.inR n Z0 Z2)) []):=by kernel_rfl
theorem con205_ok:bp P 205 c205:=bt C205 func205 (kC con67_ok kN) fun args hp K h0=>by
 obtain⟨n,rfl,rfl,hK⟩:=g1e h0
 have h:ok (F.tj n) (fun r=>K (dB r) []):=aA (F.wW n) hK
 refine⟨rfl,ann205,aC,(.dat Ty.bool),(aH (by kernel_rfl)),?_⟩
 ·rw[vc205]
  exact h
def c179:Con:=⟨[.dat ay,.dat ay,.dat ay],fun args hp K=>g3 (pD ay) (pD ay) (pD ay) (fun a b alone=>(0<=alone/\alone<=1)/\K (dI (M.fold a b alone)) []) args hp,.plain,false⟩
abbrev C179:Ctx:=cx [(205,c205)] 35 [] 0 false
def ann179:=an [[kp 7],[kp 135],[kp 64],[kp 65543],[kp 64],[kp 67108868],[kp 64],[kp 64]] []
theorem vc179 (a:Int) (b:Int) (alone:Int) (K:KA):vcT C179 aC ann179 f179 [dI a,dI b,dI alone] [] (.dat ay) K =
 (cond ((!(M.inR a 0 2))==false) (cond (!(M.inR b 0 2)) (K (dI (-1:Int)) []) (cond ((decide (a=alone))==false) (cond (decide (b=alone)) (K (dI alone) []) (cond ((decide (a=Z2))==false) (cond (decide (b=Z2)) (K (dI Z2) []) (K (dI (wrap64 (Z1-alone))) [])) (K (dI Z2) []))) (K (dI alone) []))) (K (dI (-1:Int)) [])):=by kernel_rfl
theorem con179_ok:bp P 179 c179:=bt C179 func179 (kC con205_ok kN) fun args hp K h0=>by
 obtain⟨a,b,alone,rfl,rfl,p0,hK⟩:=g3e h0
 have h:ok (F.uT a b alone) (fun r=>K (dI r) []):=aA (F.BT a b alone p0) hK
 refine⟨rfl,ann179,aC,(.dat ay),(aH (by kernel_rfl)),?_⟩
 ·rw[vc179]
  exact(oC h (fun _ h=>(oC h (fun _ h=>h) fun _ h=>(oC h (fun _ h=>(oC h (fun _ h=>h) fun _ h=>(oC h (fun _ h=>(oC h (fun _ h=>h) fun _ h=>h)) fun _ h=>h))) fun _ h=>h))) fun _ h=>h)
def c132:Con:=⟨[.dat ay,.dat ay],fun args hp K=>g2 (pD ay) (pD ay) (fun a b=>K (dI (M.AO a b)) []) args hp,.plain,false⟩
abbrev C132:Ctx:=cx [(179,c179)] 8 [] 0 false
def ann132:=an [[kp 3],[kp 16]] []
theorem vc132 (a:Int) (b:Int) (K:KA):vcT C132 aC ann132 f132 [dI a,dI b] [] (.dat ay) K =
 ((0<=Z0/\Z0<=1)/\K (dI (M.fold a b Z0)) []):=by kernel_rfl
theorem con132_ok:bp P 132 c132:=bt C132 func132 (kC con179_ok kN) fun args hp K h0=>by
 obtain⟨a,b,rfl,rfl,hK⟩:=g2e h0
 have h:ok (F.sO a b) (fun r=>K (dI r) []):=aA (F.zW a b) hK
 refine⟨rfl,ann132,aC,(.dat ay),(aH (by kernel_rfl)),?_⟩
 ·rw[vc132]
  exact(oG h fun _ h=>h)
def c133:Con:=⟨[.dat aa],fun args hp K=>g1 (pD aa) (fun v=>(Sm aa v)/\K (dI (M.eG v)) []) args hp,.plain,false⟩
abbrev C133:Ctx:=cx [(99,c99)] 17 [] 0 false
def ann133:=an [[.fixRow 1 aa,kp 2],[kp 10],[kp 4],[kp 130],[kp 4],[kp 2050],[kp 4],[kp 4]] []
theorem vc133 (v:aa.D) (K:KA):vcT C133 aC ann133 f133 [.data aa v] [] (.dat ay) K =
 ((Sm aa v)/\cond (!(M.aP v)) (K (dI (-1:Int)) []) (cond (decide (v.1=Z0)) (K (dI Z2) []) (cond (decide (v.1=Z3)) (K (dI v.2.1) []) (K (dI (-1:Int)) [])))):=by kernel_rfl
theorem con133_ok:bp P 133 c133:=bt C133 func133 (kC con99_ok kN) fun args hp K h0=>by
 obtain⟨v,rfl,rfl,h_v,hK⟩:=g1e h0
 have h:ok (F.pq v) (fun r=>K (dI r) []):=aA (F.wZ v h_v) hK
 refine⟨rfl,ann133,aC,(.dat ay),(aH (by kernel_rfl)),?_⟩
 ·rw[vc133]
  exact⟨h_v,(oC h (fun _ h=>h) fun _ h=>(oC h (fun _ h=>h) fun _ h=>(oC h (fun _ h=>h) fun _ h=>h)))⟩
def c134:Con:=⟨[.dat ay,.dat ay],fun args hp K=>g2 (pD ay) (pD ay) (fun a b=>K (dI (M.FO a b)) []) args hp,.plain,false⟩
abbrev C134:Ctx:=cx [(179,c179)] 8 [] 0 false
def ann134:=an [[kp 3],[kp 16]] []
theorem vc134 (a:Int) (b:Int) (K:KA):vcT C134 aC ann134 f134 [dI a,dI b] [] (.dat ay) K =
 ((0<=Z1/\Z1<=1)/\K (dI (M.fold a b Z1)) []):=by kernel_rfl
theorem con134_ok:bp P 134 c134:=bt C134 func134 (kC con179_ok kN) fun args hp K h0=>by
 obtain⟨a,b,rfl,rfl,hK⟩:=g2e h0
 have h:ok (F.vi a b) (fun r=>K (dI r) []):=aA (F.Bc a b) hK
 refine⟨rfl,ann134,aC,(.dat ay),(aH (by kernel_rfl)),?_⟩
 ·rw[vc134]
  exact(oG h fun _ h=>h)
def c135:Con:=⟨[.dat ay],fun args hp K=>g1 (pD ay) (fun a=>K (dI (M.Aq a)) []) args hp,.plain,false⟩
abbrev C135:Ctx:=cx [] 10 [] 0 false
def ann135:=an [[kp 1],[kp 8],[kp 24],[kp 4],[kp 72],[kp 4],[kp 256],[kp 4],[kp 4]] []
theorem vc135 (a:Int) (K:KA):vcT C135 aC ann135 f135 [dI a] [] (.dat ay) K =
 (cond (decide (a=Z0)) (K (dI Z1) []) (cond (decide (a=Z1)) (K (dI Z0) []) (cond (decide (a=Z2)) (K (dI Z2) []) (K (dI (-1:Int)) [])))):=by kernel_rfl
theorem con135_ok:bp P 135 c135:=bt C135 func135 kN fun args hp K h0=>by
 obtain⟨a,rfl,rfl,hK⟩:=g1e h0
 have h:ok (F.rY a) (fun r=>K (dI r) []):=aA (F.zG a) hK
 refine⟨rfl,ann135,aC,(.dat ay),(aH (by kernel_rfl)),?_⟩
 ·rw[vc135]
  exact(oC h (fun _ h=>h) fun _ h=>(oC h (fun _ h=>h) fun _ h=>(oC h (fun _ h=>h) fun _ h=>h)))
def c92:Con:=⟨[.dat aE,.dat TVS,.lent aa],fun args hp K=>g3 (pD aE) (pD TVS) (pB aa) (fun p row inp=>(Sm aE p)/\(Sm TVS row)/\(Sm TVS inp)/\((inp.length:Int)=M.takes p)/\(M.vO p row.length)/\(1<=p.1/\p.1<=8)/\(LD (M.iP p row inp) fun r=>K (.data aa r) [])) args hp,.plain,false⟩
abbrev C92:Ctx:=cx [(99,c99),(128,c128),(131,c131),(132,c132),(133,c133),(134,c134),(135,c135),(136,c136)] 103 [] 0 false
def ann92:=an [[.fixRow 3 aE,kp 78],[kp 590],[kp 1614],[kp 64],[kp 16974],[kp 64],[kp 2097740],[.fixRow 7 aa,kp 196],[.keep [6,7,49]],[kp 64],[kp 64],[kp 4503599627371084],[kp 64],[.keep [2,6,9,64]],[kp 64],[.keep [2,6,9,76]],[kp 64],[.keep [2,6,88]],[kp 64],[kp 64]] []
theorem vc92 (p:aE.D) (row:LV) (inp:LV) (K:KA):vcT C92 aC ann92 f92 [.data aE p,.data TVS row,.brw aa inp] [] (.dat aa) K =
 (cond (decide (p.1=Z1)) (K (.data aa p.2.2.1) []) (cond (decide (p.1=Z2)) ((0<=p.2.1)/\(p.2.1<(row.length:Int))/\K (.data aa (nV row p.2.1)) []) (cond (decide (p.1=Z3)) ((0<=Z0)/\(Z0<(inp.length:Int))/\(0<=Z1)/\(Z1<(inp.length:Int))/\(0<=Z0)/\(Z0<(inp.length:Int))/\cond ((decide ((nV inp Z0).1=Z0))==false) ((0<=Z1)/\(Z1<(inp.length:Int))/\cond ((decide ((nV inp Z1).1=Z0))==false) ((Sm aa (Z1,(wrap64 ((nV inp Z0).2.1+(nV inp Z1).2.1),((⟨#[]⟩:ByteArray),()))))/\cond (!(M.aP (Z1,(wrap64 ((nV inp Z0).2.1+(nV inp Z1).2.1),((⟨#[]⟩:ByteArray),()))))) (K (.data aa (Z0,(Z0,((⟨#[]⟩:ByteArray),())))) []) (K (.data aa (Z1,(wrap64 ((nV inp Z0).2.1+(nV inp Z1).2.1),((⟨#[]⟩:ByteArray),())))) [])) (K (.data aa (Z0,(Z0,((⟨#[]⟩:ByteArray),())))) [])) (K (.data aa (Z0,(Z0,((⟨#[]⟩:ByteArray),())))) [])) (cond (decide (p.1=Z4)) ((0<=Z0)/\(Z0<(inp.length:Int))/\(0<=Z1)/\(Z1<(inp.length:Int))/\(Sm aa (nV inp Z0))/\(Sm aa (nV inp Z1))/\(LD (M.valueOf (M.compare p.2.1 (nV inp Z0) (nV inp Z1))) fun r1=>K (.data aa r1) [])) (cond (decide (p.1=Z5)) ((0<=Z0)/\(Z0<(inp.length:Int))/\(0<=Z1)/\(Z1<(inp.length:Int))/\(Sm aa (nV inp Z0))/\(Sm aa (nV inp Z1))/\(LD (M.valueOf (M.AO (M.eG (nV inp Z0)) (M.eG (nV inp Z1)))) fun r2=>K (.data aa r2) [])) (cond (decide (p.1=Z6)) ((0<=Z0)/\(Z0<(inp.length:Int))/\(0<=Z1)/\(Z1<(inp.length:Int))/\(Sm aa (nV inp Z0))/\(Sm aa (nV inp Z1))/\(LD (M.valueOf (M.FO (M.eG (nV inp Z0)) (M.eG (nV inp Z1)))) fun r3=>K (.data aa r3) [])) (cond (decide (p.1=(7:Int))) ((0<=Z0)/\(Z0<(inp.length:Int))/\(Sm aa (nV inp Z0))/\(LD (M.valueOf (M.Aq (M.eG (nV inp Z0)))) fun r4=>K (.data aa r4) [])) ((0<=Z0)/\(Z0<(inp.length:Int))/\(LD (M.valueOf (M.bool (decide ((nV inp Z0).1=Z0)))) fun r5=>K (.data aa r5) []))))))))):=by kernel_rfl
theorem con92_ok:bp P 92 c92:=bt C92 func92 (kC con99_ok (kC con128_ok (kC con131_ok (kC con132_ok (kC con133_ok (kC con134_ok (kC con135_ok (kC con136_ok kN)))))))) fun args hp K h0=>by
 obtain⟨p,row,inp,rfl,rfl,h_p,h_row,h_inp,p0,p1,p2,hK⟩:=g3e h0
 have h:ok (F.kJ p row inp) (fun r=>K (.data aa r) []):=aA (F.sQ p row inp h_p h_row h_inp p0 p1 p2) (hK _ rfl)
 refine⟨rfl,ann92,aC,(.dat aa),(aH (by kernel_rfl)),?_⟩
 ·rw[vc92]
  exact(oC h (fun _ h=>h) fun _ h=>(oC h (fun _ h=>(oG h fun _ h=>(oG h fun _ h=>h))) fun _ h=>(oC h (fun _ h=>⟨(Int.natCast_nonneg 0),(oG h fun g1 h=>⟨(Int.natCast_nonneg 1),(oG h fun g2 h=>⟨(Int.natCast_nonneg 0),⟨g1,(oC h (fun _ h=>⟨(Int.natCast_nonneg 1),⟨g2,(oC h (fun _ h=>⟨(show Sm aa _ from⟨trivial,(show Sm (Ty.pair ay (Ty.pair Ty.str Ty.unit)) _ from⟨trivial,(show Sm (Ty.pair Ty.str Ty.unit) _ from⟨(Nat.le_of_ble_eq_true rfl),trivial⟩)⟩)⟩),(oC h (fun _ h=>h) fun _ h=>h)⟩) fun _ h=>h)⟩⟩) fun _ h=>h)⟩⟩)⟩)⟩) fun _ h=>(oC h (fun _ h=>⟨(Int.natCast_nonneg 0),(oG h fun _ h=>⟨(Int.natCast_nonneg 1),(oG h fun _ h=>⟨(aU h_inp Z0),⟨(aU h_inp Z1),(oL h fun _ _ h=>h)⟩⟩)⟩)⟩) fun _ h=>(oC h (fun _ h=>⟨(Int.natCast_nonneg 0),(oG h fun _ h=>⟨(Int.natCast_nonneg 1),(oG h fun _ h=>⟨(aU h_inp Z0),⟨(aU h_inp Z1),(oL h fun _ _ h=>h)⟩⟩)⟩)⟩) fun _ h=>(oC h (fun _ h=>⟨(Int.natCast_nonneg 0),(oG h fun _ h=>⟨(Int.natCast_nonneg 1),(oG h fun _ h=>⟨(aU h_inp Z0),⟨(aU h_inp Z1),(oL h fun _ _ h=>h)⟩⟩)⟩)⟩) fun _ h=>(oC h (fun _ h=>⟨(Int.natCast_nonneg 0),(oG h fun _ h=>⟨(aU h_inp Z0),(oL h fun _ _ h=>h)⟩)⟩) fun _ h=>⟨(Int.natCast_nonneg 0),(oG h fun _ h=>(oL h fun _ _ h=>h))⟩)))))))
def c44:Con:=⟨[.dat TVS,.dat TPS],fun args hp K=>g2 (pD TVS) (pD TPS) (fun row e=>(Sm TVS row)/\(Sm TPS e)/\(M.fS row.length e)/\(LD (M.lN row e) fun r=>K (.data aa r) [])) args hp,.plain,false⟩
abbrev C44:Ctx:=cx [(50,c50),(92,c92)] 37 [] 0 false
def ann44:=an [[kp 19],[kp 51],[kp 7217],[kp 15409],[.fixRow 7 aE,kp 7345],[kp 7601],[.fixRow 9 aa,kp 7985],[kp 7217],[kp 7217],[kp 16]] [[kp 48]]
abbrev s44_0 (row:LV) (e:LPt) (i0:Int) (v0:LV):St:=⟨[(0,.data TVS row),(4,.ptr 4 0),(5,.own 5 none),(10,.data TPS e),(11,dI (e.length:Int)),(12,dI i0)],[(4,.box [dI Z0,dI Z0,.data Ty.str (⟨#[]⟩:ByteArray)]),(5,.arr .sh aa v0)]⟩
abbrev LP44_0 (row:LV) (e:LPt) (m:Nat) (st_:St) (K:KX):Prop:=True/\bU (t:=aE) (s44_0 row e) e (F.dM row e) (fun v0:LV=>True) (bn (fun v0:LV=>True->K (.exit 0) (⟨[(4,.ptr 4 0),(5,.own 5 none)],[(4,.box [dI Z0,dI Z0,.data Ty.str (⟨#[]⟩:ByteArray)]),(5,.arr .sh aa v0)]⟩:St)) (fun _=>False)) m st_
def L44 (row:LV) (e:LPt):bF:=lp1 0 (LP44_0 row e)
theorem vc44 (row:LV) (e:LPt) (K:KA):vcT C44 (L44 row e) ann44 f44 [.data TVS row,.data TPS e] [] (.dat aa) K =
 (∃m_,True/\bU (t:=aE) (s44_0 row e) e (F.dM row e) (fun v0:LV=>True) (bn (fun v0:LV=>True->(0<=Z0)/\(Z0<(v0.length:Int))/\K (.data aa (nV v0 Z0)) []) (fun _=>False)) m_ (s44_0 row e Z0 [])):=by kernel_rfl
abbrev S44l0_0 (row:LV) (e:LPt)  (i0:Int) (v0:LV) (m:Nat) (K:KX):Prop:=(Sm aE (nP e i0))/\(Sm TVS row)/\(Sm TVS (aD v0 (some (wrap64 ((v0.length:Int)-(M.takes (nP e i0))),(v0.length:Int)))))/\(((aD v0 (some (wrap64 ((v0.length:Int)-(M.takes (nP e i0))),(v0.length:Int)))).length:Int)=M.takes (nP e i0))/\(M.vO (nP e i0) row.length)/\(1<=(nP e i0).1/\(nP e i0).1<=8)/\(LD (M.iP (nP e i0) row (aD v0 (some (wrap64 ((v0.length:Int)-(M.takes (nP e i0))),(v0.length:Int))))) fun r1=>(0<=Z0)/\(Z0<=wrap64 ((v0.length:Int)-(M.takes (nP e i0))))/\(wrap64 ((v0.length:Int)-(M.takes (nP e i0)))<=(v0.length:Int))/\(wrap64 ((v0.length:Int)-(M.takes (nP e i0)))=wrap64 ((v0.length:Int)-(M.takes (nP e i0))))/\(Z0=0)/\(((wrap64 ((v0.length:Int)-(M.takes (nP e i0)))).toNat+[r1].length) * 32<=lim)/\(nxT (LP44_0 row e) m K (s44_0 row e (wrap64 (i0+Z1)) (v0.take (wrap64 ((v0.length:Int)-(M.takes (nP e i0)))).toNat++[r1]))))
theorem lvc44_0 (row:LV) (e:LPt)  (i0:Int) (v0:LV) (m:Nat) (K:KX):lvT C44 (L44 row e) ann44 f44 0 0 (s44_0 row e i0 v0) m K =
 (cond (decide (i0<(e.length:Int))) ((0<=i0)/\(i0<(e.length:Int))/\(Sm aE (nP e i0))/\(0<=wrap64 ((v0.length:Int)-(M.takes (nP e i0))))/\(wrap64 ((v0.length:Int)-(M.takes (nP e i0)))<=(v0.length:Int))/\((v0.length:Int)<=(v0.length:Int))/\((v0.length:Int)=(v0.length:Int))/\Q0 (S44l0_0  row e i0 v0 m K)) (K (.exit 0) (⟨[(4,.ptr 4 0),(5,.own 5 none)],[(4,.box [dI Z0,dI Z0,.data Ty.str (⟨#[]⟩:ByteArray)]),(5,.arr .sh aa v0)]⟩:St))):=by kernel_rfl
theorem con44_ok:bp P 44 c44:=bt C44 func44 (kC con50_ok (kC con92_ok kN)) fun args hp K h0=>by
 obtain⟨row,e,rfl,rfl,h_row,h_e,p0,hK⟩:=g2e h0
 have h:ok (F.mu row e) (fun r=>K (.data aa r) []):=aA (F.uo row e h_row h_e p0) (hK _ rfl)
 refine⟨rfl,ann44,(L44 row e),(.dat aa),(bK (i0:=0) (by kernel_rfl) ?_),?_⟩
 ·rintro _ _ K ⟨hc0,i0,v0,rfl,hl0,rfl,hv0,h⟩
  exact cast (lvc44_0 _ _ _ _ _ _).symm (bz (t:=aE) hl0 h (fun ht0 h=>⟨hl0,⟨ht0,⟨(aU h_e i0),(oG h fun _ h=>(oG h fun g1 h=>⟨(Int.le_refl _),⟨rfl,(q0 (⟨(aU h_e i0),⟨h_row,(oG h fun _ h=>(oG h fun _ h=>(oG h fun _ h=>(oG h fun _ h=>(oL h fun _ _ h=>⟨(Int.natCast_nonneg 0),(oG h fun _ h=>⟨g1,⟨rfl,⟨rfl,(oG h fun _ h=>(aY (t:=aE) (fun _ hm=>⟨hc0,hm⟩) _ rfl hl0 ht0 (bD h_e) trivial h))⟩⟩⟩)⟩)))))⟩⟩))⟩⟩))⟩⟩⟩) fun h=>(h trivial))
 ·rw[vc44]
  exact(bf (t:=aE) (fun m hm=>⟨trivial,hm⟩) _ rfl trivial (aR h (fun v0 h hv0=>⟨(Int.natCast_nonneg 0),(oG h fun _ h=>h)⟩) (fun _ h=>h.elim)))
def c87:Con:=⟨[.dat TVS,.dat TPS],fun args hp K=>g2 (pD TVS) (pD TPS) (fun row e=>(Sm TVS row)/\(Sm TPS e)/\(M.fS row.length e)/\K (dB (M.holds row e)) []) args hp,.plain,false⟩
abbrev C87:Ctx:=cx [(44,c44),(128,c128)] 10 [] 0 false
def ann87:=an [[kp 3],[kp 16]] []
theorem vc87 (row:LV) (e:LPt) (K:KA):vcT C87 aC ann87 f87 [.data TVS row,.data TPS e] [] (.dat Ty.bool) K =
 ((Sm TVS row)/\(Sm TPS e)/\(M.fS row.length e)/\(LD (M.lN row e) fun r1=>(LD (M.valueOf Z1) fun r2=>K (dB (Ty.beq aa r1 r2)) []))):=by kernel_rfl
theorem con87_ok:bp P 87 c87:=bt C87 func87 (kC con44_ok (kC con128_ok kN)) fun args hp K h0=>by
 obtain⟨row,e,rfl,rfl,h_row,h_e,p0,hK⟩:=g2e h0
 have h:ok (F.qi row e) (fun r=>K (dB r) []):=aA (F.tg row e h_row h_e p0) hK
 refine⟨rfl,ann87,aC,(.dat Ty.bool),(aH (by kernel_rfl)),?_⟩
 ·rw[vc87]
  exact⟨h_row,⟨h_e,⟨p0,(oL h fun _ _ h=>(oL h fun _ _ h=>h))⟩⟩⟩
abbrev C194:Ctx:=cx [] 9 [] 400000 true
def T194:Inl:=BM C194 (fun _=>[]) (eZ f194) f194.results.toList
theorem inlOk194:BZ P 194 T194:=GQ C194 func194 kN
def c162:Con:=⟨[.dat TVS],fun args hp K=>g1 (pD TVS) (fun xs=>(Sm TVS xs)/\(LD xs fun r=>K (.clp 0 (r.length:Int)) [(0,.arr .sh aa r)])) args hp,.bor,false⟩
abbrev C162:Ctx:=cx [] 9 [(194,T194)] 0 true
def ann162:=an [[kp 1],[kp 33],[.clip 2,kp 4],[kp 4]] []
theorem vc162 (xs:LV) (K:KA):vcT C162 aC ann162 f162 [.data TVS xs] [] .raw K =
 (cond (decide ((xs.length:Int)=Z0)) (K (.clp 0 (([]:List aa.D).length:Int)) [(0,.arr .sh aa ([]:List aa.D))]) ((xs.length * 32<=lim)/\(0<=Z0)/\(Z0<=(xs.length:Int))/\((xs.length:Int)<=(xs.length:Int))/\((xs.length:Int)=(xs.length:Int))/\(Z0=0)/\K (.clp 0 ((xs.take (xs.length:Int).toNat).length:Int)) [(0,.arr .sh aa (xs.take (xs.length:Int).toNat))])):=by kernel_rfl
theorem con162_ok:bp P 162 c162:=bt C162 func162 (kI inlOk194 kN) fun args hp K h0=>by
 obtain⟨xs,rfl,rfl,h_xs,hK⟩:=g1e h0
 have h:ok (F.tZ xs) (fun r=>K (.clp 0 (r.length:Int)) [(0,.arr .sh aa r)]):=aA (F.wN xs h_xs) (hK _ rfl)
 refine⟨rfl,ann162,aC,.raw,(aH (by kernel_rfl)),?_⟩
 ·rw[vc162]
  exact(oC h (fun _ h=>h) fun _ h=>⟨(Ba h_xs rfl),⟨(Int.natCast_nonneg 0),⟨(Int.natCast_nonneg _),⟨(Int.le_refl _),⟨rfl,⟨rfl,h⟩⟩⟩⟩⟩⟩)
def c158:Con:=⟨[.dat TVS,.dat (Ty.sl ay)],fun args hp K=>g2 (pD TVS) (pD (Ty.sl ay)) (fun row list=>(Sm TVS row)/\(Sm (Ty.sl ay) list)/\(M.Av row list)/\(LD (M.taken row list) fun r=>K (.data TVS r) [])) args hp,.plain,false⟩
abbrev C158:Ctx:=cx [(162,c162)] 24 [] 0 false
def ann158:=an [[kp 3],[kp 35],[kp 1825],[kp 3873],[kp 1953],[kp 1825],[kp 1825],[.freeze 23,kp 16]] [[kp 32]]
abbrev s158_0 (row:LV) (list:LI) (i0:Int) (v0:LV):St:=⟨[(0,.data TVS row),(5,.own 5 none),(8,.data (Ty.sl ay) list),(9,dI (list.length:Int)),(10,dI i0)],[(5,.arr .sh aa v0)]⟩
abbrev LP158_0 (row:LV) (list:LI) (m:Nat) (st_:St) (K:KX):Prop:=True/\bU (t:=ay) (s158_0 row list) list (F.ke row list) (fun v0:LV=>True) (bn (fun v0:LV=>True->K (.exit 0) (⟨[(5,.own 5 none)],[(5,.arr .sh aa v0)]⟩:St)) (fun _=>False)) m st_
def L158 (row:LV) (list:LI):bF:=lp1 0 (LP158_0 row list)
theorem vc158 (row:LV) (list:LI) (K:KA):vcT C158 (L158 row list) ann158 f158 [.data TVS row,.data (Ty.sl ay) list] [] (.dat TVS) K =
 (∃m_,True/\bU (t:=ay) (s158_0 row list) list (F.ke row list) (fun v0:LV=>True) (bn (fun v0:LV=>True->(Sm TVS v0)/\(LD v0 fun r1=>K (.data TVS (aD r1 (some (Z0,(r1.length:Int))))) [])) (fun _=>False)) m_ (s158_0 row list Z0 [])):=by kernel_rfl
theorem lvc158_0 (row:LV) (list:LI)  (i0:Int) (v0:LV) (m:Nat) (K:KX):lvT C158 (L158 row list) ann158 f158 0 0 (s158_0 row list i0 v0) m K =
 (cond (decide (i0<(list.length:Int))) ((0<=i0)/\(i0<(list.length:Int))/\(0<=(nI list i0))/\((nI list i0)<(row.length:Int))/\((v0.length+[(nV row (nI list i0))].length) * 32<=lim)/\(nxT (LP158_0 row list) m K (s158_0 row list (wrap64 (i0+Z1)) (v0++[(nV row (nI list i0))])))) (K (.exit 0) (⟨[(5,.own 5 none)],[(5,.arr .sh aa v0)]⟩:St))):=by kernel_rfl
theorem con158_ok:bp P 158 c158:=bt C158 func158 (kC con162_ok kN) fun args hp K h0=>by
 obtain⟨row,list,rfl,rfl,h_row,h_list,p0,hK⟩:=g2e h0
 have h:ok (F.sn row list) (fun r=>K (.data TVS r) []):=aA (F.zz row list h_row h_list p0) (hK _ rfl)
 refine⟨rfl,ann158,(L158 row list),(.dat TVS),(bK (i0:=0) (by kernel_rfl) ?_),?_⟩
 ·rintro _ _ K ⟨hc0,i0,v0,rfl,hl0,rfl,hv0,h⟩
  exact cast (lvc158_0 _ _ _ _ _ _).symm (bz (t:=ay) hl0 h (fun ht0 h=>⟨hl0,⟨ht0,(oG h fun _ h=>(oG h fun _ h=>(oG h fun _ h=>(aY (t:=ay) (fun _ hm=>⟨hc0,hm⟩) _ rfl hl0 ht0 (bD h_list) trivial h))))⟩⟩) fun h=>(h trivial))
 ·rw[vc158]
  exact(bf (t:=ay) (fun m hm=>⟨trivial,hm⟩) _ rfl trivial (aR h (fun v0 h hv0=>(oG h fun _ h=>(oL h fun _ _ h=>h))) (fun _ h=>h.elim)))
def c210:Con:=⟨[.any,.dat ay],fun args hp K=>args2 (fun a0 a1=>Cl a0 (eM ay a1 fun n=>(0<=n)/\(n<=1099511627776)/\(LD ([]:List aa.D) fun r=>K (.own 0 none) [(0,.arr .sh aa r)]))) args hp,.plain,false⟩
abbrev C210:Ctx:=cx [] 27 [] 0 false
def ann210:=an [[kp 3],[kp 67],[kp 3],[kp 3],[kp 65539],[kp 1],[kp 16]] []
theorem vc210 (n:Int) (K:KA):vcT C210 aC ann210 f210 [.cst (.slice none 0 0),dI n] [] .raw K =
 (cond (decide (n<Z0)) False (cond (decide (Z0<wrap64 (n-(wrap64 (Z0-Z0))))) ((0<=Z0)/\(Z0<=Z0)/\(Z0<=Z0)/\(Z0=Z0)/\(0<=wrap64 (n-(wrap64 (Z0-Z0))))/\((wrap64 (n-(wrap64 (Z0-Z0)))) * 32<=(lim:Int))/\(0<=Z0)/\(Z0<=Z0)/\(Z0<=((List.replicate (wrap64 (n-(wrap64 (Z0-Z0)))).toNat (Z0,(Z0,((⟨#[]⟩:ByteArray),())))).length:Int))/\(Z0=Z0)/\(Z0=0)/\K (.own 0 none) [(0,.arr .sh aa ((List.replicate (wrap64 (n-(wrap64 (Z0-Z0)))).toNat (Z0,(Z0,((⟨#[]⟩:ByteArray),())))).take Z0.toNat))]) (K (.own 0 none) [(0,.arr .sh aa [])]))):=by kernel_rfl
theorem con210_ok:bp P 210 c210:=bt C210 func210 kN fun args hp K h0=>by
 obtain⟨a0,a1,rfl,rfl,h1⟩:=bP h0
 obtain⟨rfl,h2⟩:=sD h1
 obtain⟨n,rfl,h3⟩:=bg h2
 obtain⟨p0,p1,hK⟩:=h3
 have h:ok (F.qg n) (fun r=>K (.own 0 none) [(0,.arr .sh aa r)]):=aA (F.yV n p0 p1) (hK _ rfl)
 refine⟨rfl,ann210,aC,.raw,(aH (by kernel_rfl)),?_⟩
 ·rw[vc210]
  exact(oC h (fun _ h=>h) fun _ h=>(oC h (fun _ h=>⟨(Int.natCast_nonneg 0),⟨(Int.le_refl _),⟨(Int.le_refl _),⟨rfl,(oG h fun _ h=>(oG h fun _ h=>⟨(Int.natCast_nonneg 0),⟨(Int.le_refl _),⟨(Int.natCast_nonneg _),⟨rfl,⟨rfl,h⟩⟩⟩⟩⟩))⟩⟩⟩⟩) fun _ h=>h))
def c191:Con:=⟨[.dat (Ty.sl TVS)],fun args hp K=>g1 (pD (Ty.sl TVS)) (fun xss=>(Sm (Ty.sl TVS) xss)/\(LD (List.flatten xss) fun r=>K (.own 0 none) [(0,.arr .sh aa r)])) args hp,.plain,false⟩
abbrev C191:Ctx:=cx [(210,c210)] 36 [] 0 false
def ann191:=an [[kp 1],[kp 9],[kp 3593],[kp 7689],[kp 3625],[kp 3593],[kp 1052169],[kp 3593],[kp 3593],[kp 65],[kp 234881088],[kp 503316544],[kp 234881344],[kp 234881088],[kp 234881088],[kp 4]] [[kp 9],[],[kp 64]]
abbrev s191_0 (xss:(List LV)) (i0:Int) (v0:Int):St:=⟨[(0,.data (Ty.sl TVS) xss),(3,dI v0),(9,.data (Ty.sl TVS) xss),(10,dI (xss.length:Int)),(11,dI i0)],[]⟩
abbrev LP191_0 (xss:(List LV)) (m:Nat) (st_:St) (K:KX):Prop:=True/\bU (t:=TVS) (s191_0 xss) xss (F.gS xss) (fun v0:Int=>True) (bn (fun v0:Int=>True->K (.exit 0) (⟨[(0,.data (Ty.sl TVS) xss),(3,dI v0)],[]⟩:St)) (fun _=>False)) m st_
abbrev s191_2 (xss:(List LV)) (i2:Int) (v2:LV):St:=⟨[(6,.own 24 none),(25,.data (Ty.sl TVS) xss),(26,dI (xss.length:Int)),(27,dI i2)],[(24,.arr .sh aa v2)]⟩
abbrev LP191_2 (xss:(List LV)) (m:Nat) (st_:St) (K:KX):Prop:=True/\bU (t:=TVS) (s191_2 xss) xss (F.gX xss) (fun v2:LV=>True) (bn (fun v2:LV=>True->K (.exit 2) (⟨[(6,.own 24 none)],[(24,.arr .sh aa v2)]⟩:St)) (fun _=>False)) m st_
def L191 (xss:(List LV)):bF:=lp2 0 (LP191_0 xss) 2 (LP191_2 xss)
theorem vc191 (xss:(List LV)) (K:KA):vcT C191 (L191 xss) ann191 f191 [.data (Ty.sl TVS) xss] [] .raw K =
 (∃m_,True/\bU (t:=TVS) (s191_0 xss) xss (F.gS xss) (fun v0:Int=>True) (bn (fun v0:Int=>True->(0<=v0)/\(v0<=1099511627776)/\(LD ([]:List aa.D) fun r1=>(∃m_,True/\bU (t:=TVS) (s191_2 xss) xss (F.gX xss) (fun v2:LV=>True) (bn (fun v2:LV=>True->K (.own 0 none) [(0,.arr .sh aa v2)]) (fun _=>False)) m_ (s191_2 xss Z0 r1)))) (fun _=>False)) m_ (s191_0 xss Z0 Z0)):=by kernel_rfl
theorem lvc191_0 (xss:(List LV))  (i0:Int) (v0:Int) (m:Nat) (K:KX):lvT C191 (L191 xss) ann191 f191 0 0 (s191_0 xss i0 v0) m K =
 (cond (decide (i0<(xss.length:Int))) ((0<=i0)/\(i0<(xss.length:Int))/\cond (decide (wrap64 (v0+((nth (t:=TVS) xss i0).length:Int))<Z0)) False (nxT (LP191_0 xss) m K (s191_0 xss (wrap64 (i0+Z1)) (wrap64 (v0+((nth (t:=TVS) xss i0).length:Int)))))) (K (.exit 0) (⟨[(0,.data (Ty.sl TVS) xss),(3,dI v0)],[]⟩:St))):=by kernel_rfl
theorem lvc191_1 (xss:(List LV))  (i2:Int) (v2:LV) (m:Nat) (K:KX):lvT C191 (L191 xss) ann191 f191 1 2 (s191_2 xss i2 v2) m K =
 (cond (decide (i2<(xss.length:Int))) ((0<=i2)/\(i2<(xss.length:Int))/\((v2.length+(nth (t:=TVS) xss i2).length) * 32<=lim)/\(nxT (LP191_2 xss) m K (s191_2 xss (wrap64 (i2+Z1)) (v2++(nth (t:=TVS) xss i2))))) (K (.exit 2) (⟨[(6,.own 24 none)],[(24,.arr .sh aa v2)]⟩:St))):=by kernel_rfl
theorem con191_ok:bp P 191 c191:=bt C191 func191 (kC con210_ok kN) fun args hp K h0=>by
 obtain⟨xss,rfl,rfl,h_xss,hK⟩:=g1e h0
 have h:ok (F.nE xss) (fun r=>K (.own 0 none) [(0,.arr .sh aa r)]):=aA (F.vG xss h_xss) (hK _ rfl)
 refine⟨rfl,ann191,(L191 xss),.raw,(lz (i0:=0) (i1:=2) (by kernel_rfl) ?_ ?_),?_⟩
 ·rintro _ _ K ⟨hc0,i0,v0,rfl,hl0,rfl,hv0,h⟩
  exact cast (lvc191_0 _ _ _ _ _).symm (bz (t:=TVS) hl0 h (fun ht0 h=>⟨hl0,⟨ht0,(oC h (fun _ h=>h) fun _ h=>(aY (t:=TVS) (fun _ hm=>⟨hc0,hm⟩) _ rfl hl0 ht0 (bD h_xss) trivial h))⟩⟩) fun h=>(h trivial))
 ·rintro _ _ K ⟨hc2,i2,v2,rfl,hl2,rfl,hv2,h⟩
  exact cast (lvc191_1 _ _ _ _ _).symm (bz (t:=TVS) hl2 h (fun ht2 h=>⟨hl2,⟨ht2,(oG h fun _ h=>(aY (t:=TVS) (fun _ hm=>⟨hc2,hm⟩) _ rfl hl2 ht2 (bD h_xss) trivial h))⟩⟩) fun h=>(h trivial))
 ·rw[vc191]
  exact(bf (t:=TVS) (fun m hm=>⟨trivial,hm⟩) _ rfl trivial (aR h (fun v0 h hv0=>(oG h fun _ h=>(oG h fun _ h=>(oL h fun _ _ h=>(bf (t:=TVS) (fun m hm=>⟨trivial,hm⟩) _ rfl trivial (aR h (fun v2 h hv2=>h) (fun _ h=>h.elim))))))) (fun _ h=>h.elim)))
def c159:Con:=⟨[.dat TVS,.dat TVS],fun args hp K=>g2 (pD TVS) (pD TVS) (fun a b=>(Sm TVS a)/\(Sm TVS b)/\(a.length+b.length<=1048576)/\(LD (a++b) fun r=>K (.clp 0 (r.length:Int)) [(0,.arr .sh aa r)])) args hp,.bor,false⟩
abbrev C159:Ctx:=cx [(162,c162),(191,c191)] 10 [] 0 false
def ann159:=an [[kp 3],[kp 16]] []
theorem vc159 (a:LV) (b:LV) (K:KA):vcT C159 aC ann159 f159 [.data TVS a,.data TVS b] [] .raw K =
 ((Sm (Ty.sl TVS) [a,b])/\(LD (List.flatten [a,b]) fun r1=>(Sm TVS r1)/\(LD r1 fun r2=>K (.clp 0 ((r2.take (r2.length:Int).toNat).length:Int)) [(0,.arr .sh aa (r2.take (r2.length:Int).toNat))]))):=by kernel_rfl
theorem con159_ok:bp P 159 c159:=bt C159 func159 (kC con162_ok (kC con191_ok kN)) fun args hp K h0=>by
 obtain⟨a,b,rfl,rfl,h_a,h_b,p0,hK⟩:=g2e h0
 have h:ok (F.qj a b) (fun r=>K (.clp 0 (r.length:Int)) [(0,.arr .sh aa r)]):=aA (F.zo a b h_a h_b p0) (hK _ rfl)
 refine⟨rfl,ann159,aC,.raw,(aH (by kernel_rfl)),?_⟩
 ·rw[vc159]
  exact(oG h fun _ h=>(oL h fun _ _ h=>(oG h fun _ h=>(oL h fun _ _ h=>h))))
def c192:Con:=⟨[.any,.dat ay],fun args hp K=>args2 (fun a0 a1=>Cl a0 (eM ay a1 fun n=>(0<=n)/\(n<=1099511627776)/\(LD ([]:List TVS.D) fun r=>K (.own 0 none) [(0,.arr .sh TVS r)]))) args hp,.plain,false⟩
abbrev C192:Ctx:=cx [] 27 [] 0 false
def ann192:=an [[kp 3],[kp 67],[kp 3],[kp 3],[kp 65539],[kp 1],[kp 16]] []
theorem vc192 (n:Int) (K:KA):vcT C192 aC ann192 f192 [.cst (.slice none 0 0),dI n] [] .raw K =
 (cond (decide (n<Z0)) False (cond (decide (Z0<wrap64 (n-(wrap64 (Z0-Z0))))) ((0<=Z0)/\(Z0<=Z0)/\(Z0<=Z0)/\(Z0=Z0)/\(0<=wrap64 (n-(wrap64 (Z0-Z0))))/\((wrap64 (n-(wrap64 (Z0-Z0)))) * 24<=(lim:Int))/\(0<=Z0)/\(Z0<=Z0)/\(Z0<=((List.replicate (wrap64 (n-(wrap64 (Z0-Z0)))).toNat ([]:List aa.D)).length:Int))/\(Z0=Z0)/\(Z0=0)/\K (.own 0 none) [(0,.arr .sh TVS ((List.replicate (wrap64 (n-(wrap64 (Z0-Z0)))).toNat ([]:List aa.D)).take Z0.toNat))]) (K (.own 0 none) [(0,.arr .sh TVS [])]))):=by kernel_rfl
theorem con192_ok:bp P 192 c192:=bt C192 func192 kN fun args hp K h0=>by
 obtain⟨a0,a1,rfl,rfl,h1⟩:=bP h0
 obtain⟨rfl,h2⟩:=sD h1
 obtain⟨n,rfl,h3⟩:=bg h2
 obtain⟨p0,p1,hK⟩:=h3
 have h:ok (F.pI n) (fun r=>K (.own 0 none) [(0,.arr .sh TVS r)]):=aA (F.xq n p0 p1) (hK _ rfl)
 refine⟨rfl,ann192,aC,.raw,(aH (by kernel_rfl)),?_⟩
 ·rw[vc192]
  exact(oC h (fun _ h=>h) fun _ h=>(oC h (fun _ h=>⟨(Int.natCast_nonneg 0),⟨(Int.le_refl _),⟨(Int.le_refl _),⟨rfl,(oG h fun _ h=>(oG h fun _ h=>⟨(Int.natCast_nonneg 0),⟨(Int.le_refl _),⟨(Int.natCast_nonneg _),⟨rfl,⟨rfl,h⟩⟩⟩⟩⟩))⟩⟩⟩⟩) fun _ h=>h))
def c160:Con:=⟨[.dat (Ty.sl (Ty.sl TVS))],fun args hp K=>g1 (pD (Ty.sl (Ty.sl TVS))) (fun xss=>(Sm (Ty.sl (Ty.sl TVS)) xss)/\(LD (List.flatten xss) fun r=>K (.own 0 none) [(0,.arr .sh TVS r)])) args hp,.plain,false⟩
abbrev C160:Ctx:=cx [(192,c192)] 36 [] 0 false
def ann160:=an [[kp 1],[kp 9],[kp 3593],[kp 7689],[kp 3625],[kp 3593],[kp 1052169],[kp 3593],[kp 3593],[kp 65],[kp 234881088],[kp 503316544],[kp 234881344],[kp 234881088],[kp 234881088],[kp 4]] [[kp 9],[],[kp 64]]
abbrev s160_0 (xss:(List (List LV))) (i0:Int) (v0:Int):St:=⟨[(0,.data (Ty.sl (Ty.sl TVS)) xss),(3,dI v0),(9,.data (Ty.sl (Ty.sl TVS)) xss),(10,dI (xss.length:Int)),(11,dI i0)],[]⟩
abbrev LP160_0 (xss:(List (List LV))) (m:Nat) (st_:St) (K:KX):Prop:=True/\bU (t:=(Ty.sl TVS)) (s160_0 xss) xss (F.gz xss) (fun v0:Int=>True) (bn (fun v0:Int=>True->K (.exit 0) (⟨[(0,.data (Ty.sl (Ty.sl TVS)) xss),(3,dI v0)],[]⟩:St)) (fun _=>False)) m st_
abbrev s160_2 (xss:(List (List LV))) (i2:Int) (v2:(List LV)):St:=⟨[(6,.own 24 none),(25,.data (Ty.sl (Ty.sl TVS)) xss),(26,dI (xss.length:Int)),(27,dI i2)],[(24,.arr .sh TVS v2)]⟩
abbrev LP160_2 (xss:(List (List LV))) (m:Nat) (st_:St) (K:KX):Prop:=True/\bU (t:=(Ty.sl TVS)) (s160_2 xss) xss (F.gr xss) (fun v2:(List LV)=>True) (bn (fun v2:(List LV)=>True->K (.exit 2) (⟨[(6,.own 24 none)],[(24,.arr .sh TVS v2)]⟩:St)) (fun _=>False)) m st_
def L160 (xss:(List (List LV))):bF:=lp2 0 (LP160_0 xss) 2 (LP160_2 xss)
theorem vc160 (xss:(List (List LV))) (K:KA):vcT C160 (L160 xss) ann160 f160 [.data (Ty.sl (Ty.sl TVS)) xss] [] .raw K =
 (∃m_,True/\bU (t:=(Ty.sl TVS)) (s160_0 xss) xss (F.gz xss) (fun v0:Int=>True) (bn (fun v0:Int=>True->(0<=v0)/\(v0<=1099511627776)/\(LD ([]:List TVS.D) fun r1=>(∃m_,True/\bU (t:=(Ty.sl TVS)) (s160_2 xss) xss (F.gr xss) (fun v2:(List LV)=>True) (bn (fun v2:(List LV)=>True->K (.own 0 none) [(0,.arr .sh TVS v2)]) (fun _=>False)) m_ (s160_2 xss Z0 r1)))) (fun _=>False)) m_ (s160_0 xss Z0 Z0)):=by kernel_rfl
theorem lvc160_0 (xss:(List (List LV)))  (i0:Int) (v0:Int) (m:Nat) (K:KX):lvT C160 (L160 xss) ann160 f160 0 0 (s160_0 xss i0 v0) m K =
 (cond (decide (i0<(xss.length:Int))) ((0<=i0)/\(i0<(xss.length:Int))/\cond (decide (wrap64 (v0+((nth (t:=(Ty.sl TVS)) xss i0).length:Int))<Z0)) False (nxT (LP160_0 xss) m K (s160_0 xss (wrap64 (i0+Z1)) (wrap64 (v0+((nth (t:=(Ty.sl TVS)) xss i0).length:Int)))))) (K (.exit 0) (⟨[(0,.data (Ty.sl (Ty.sl TVS)) xss),(3,dI v0)],[]⟩:St))):=by kernel_rfl
theorem lvc160_1 (xss:(List (List LV)))  (i2:Int) (v2:(List LV)) (m:Nat) (K:KX):lvT C160 (L160 xss) ann160 f160 1 2 (s160_2 xss i2 v2) m K =
 (cond (decide (i2<(xss.length:Int))) ((0<=i2)/\(i2<(xss.length:Int))/\((v2.length+(nth (t:=(Ty.sl TVS)) xss i2).length) * 24<=lim)/\(nxT (LP160_2 xss) m K (s160_2 xss (wrap64 (i2+Z1)) (v2++(nth (t:=(Ty.sl TVS)) xss i2))))) (K (.exit 2) (⟨[(6,.own 24 none)],[(24,.arr .sh TVS v2)]⟩:St))):=by kernel_rfl
theorem con160_ok:bp P 160 c160:=bt C160 func160 (kC con192_ok kN) fun args hp K h0=>by
 obtain⟨xss,rfl,rfl,h_xss,hK⟩:=g1e h0
 have h:ok (F.mc xss) (fun r=>K (.own 0 none) [(0,.arr .sh TVS r)]):=aA (F.tc xss h_xss) (hK _ rfl)
 refine⟨rfl,ann160,(L160 xss),.raw,(lz (i0:=0) (i1:=2) (by kernel_rfl) ?_ ?_),?_⟩
 ·rintro _ _ K ⟨hc0,i0,v0,rfl,hl0,rfl,hv0,h⟩
  exact cast (lvc160_0 _ _ _ _ _).symm (bz (t:=(Ty.sl TVS)) hl0 h (fun ht0 h=>⟨hl0,⟨ht0,(oC h (fun _ h=>h) fun _ h=>(aY (t:=(Ty.sl TVS)) (fun _ hm=>⟨hc0,hm⟩) _ rfl hl0 ht0 (bD h_xss) trivial h))⟩⟩) fun h=>(h trivial))
 ·rintro _ _ K ⟨hc2,i2,v2,rfl,hl2,rfl,hv2,h⟩
  exact cast (lvc160_1 _ _ _ _ _).symm (bz (t:=(Ty.sl TVS)) hl2 h (fun ht2 h=>⟨hl2,⟨ht2,(oG h fun _ h=>(aY (t:=(Ty.sl TVS)) (fun _ hm=>⟨hc2,hm⟩) _ rfl hl2 ht2 (bD h_xss) trivial h))⟩⟩) fun h=>(h trivial))
 ·rw[vc160]
  exact(bf (t:=(Ty.sl TVS)) (fun m hm=>⟨trivial,hm⟩) _ rfl trivial (aR h (fun v0 h hv0=>(oG h fun _ h=>(oG h fun _ h=>(oL h fun _ _ h=>(bf (t:=(Ty.sl TVS)) (fun m hm=>⟨trivial,hm⟩) _ rfl trivial (aR h (fun v2 h hv2=>h) (fun _ h=>h.elim))))))) (fun _ h=>h.elim)))
abbrev C163:Ctx:=cx [] 9 [] 400000 true
def T163:Inl:=BM C163 (fun _=>[]) (eZ f163) f163.results.toList
theorem inlOk163:BZ P 163 T163:=GQ C163 func163 kN
def c113:Con:=⟨[.dat (Ty.sl TVS)],fun args hp K=>g1 (pD (Ty.sl TVS)) (fun rows=>(Sm (Ty.sl TVS) rows)/\(LD rows fun r=>K (.clp 0 (r.length:Int)) [(0,.arr .dp TVS r)])) args hp,.bor,false⟩
abbrev C113:Ctx:=cx [(162,c162)] 20 [(163,T163)] 0 true
def ann113:=an [[kp 1],[kp 9],[kp 456],[kp 968],[kp 488],[kp 456],[kp 456],[kp 4]] [[kp 8]]
abbrev s113_0 (rows:(List LV)) (i0:Int) (v0:(List LV)):St:=⟨[(3,.own 3 none),(6,.data (Ty.sl TVS) rows),(7,dI (rows.length:Int)),(8,dI i0)],[(3,.arr .dp TVS v0)]⟩
abbrev LP113_0 (rows:(List LV)) (m:Nat) (st_:St) (K:KX):Prop:=True/\bU (t:=TVS) (s113_0 rows) rows (F.gT rows) (fun v0:(List LV)=>True) (bn (fun v0:(List LV)=>True->K (.exit 0) (⟨[(3,.own 3 none)],[(3,.arr .dp TVS v0)]⟩:St)) (fun _=>False)) m st_
def L113 (rows:(List LV)):bF:=lp1 0 (LP113_0 rows)
theorem vc113 (rows:(List LV)) (K:KA):vcT C113 (L113 rows) ann113 f113 [.data (Ty.sl TVS) rows] [] .raw K =
 (∃m_,True/\bU (t:=TVS) (s113_0 rows) rows (F.gT rows) (fun v0:(List LV)=>True) (bn (fun v0:(List LV)=>True->(0<=Z0)/\(Z0<=(v0.length:Int))/\((v0.length:Int)<=(v0.length:Int))/\((v0.length:Int)=(v0.length:Int))/\(Z0=0)/\K (.clp 0 ((v0.take (v0.length:Int).toNat).length:Int)) [(0,.arr .dp TVS (v0.take (v0.length:Int).toNat))]) (fun _=>False)) m_ (s113_0 rows Z0 [])):=by kernel_rfl
theorem lvc113_0 (rows:(List LV))  (i0:Int) (v0:(List LV)) (m:Nat) (K:KX):lvT C113 (L113 rows) ann113 f113 0 0 (s113_0 rows i0 v0) m K =
 (cond (decide (i0<(rows.length:Int))) ((0<=i0)/\(i0<(rows.length:Int))/\(Sm TVS (nth (t:=TVS) rows i0))/\(LD (nth (t:=TVS) rows i0) fun r1=>((v0.length+[(aD r1 (some (Z0,(r1.length:Int))))].length) * 24<=lim)/\(nxT (LP113_0 rows) m K (s113_0 rows (wrap64 (i0+Z1)) (v0++[(aD r1 (some (Z0,(r1.length:Int))))]))))) (K (.exit 0) (⟨[(3,.own 3 none)],[(3,.arr .dp TVS v0)]⟩:St))):=by kernel_rfl
theorem con113_ok:bp P 113 c113:=bt C113 func113 (kC con162_ok (kI inlOk163 kN)) fun args hp K h0=>by
 obtain⟨rows,rfl,rfl,h_rows,hK⟩:=g1e h0
 have h:ok (F.mZ rows) (fun r=>K (.clp 0 (r.length:Int)) [(0,.arr .dp TVS r)]):=aA (F.vl rows h_rows) (hK _ rfl)
 refine⟨rfl,ann113,(L113 rows),.raw,(bK (i0:=0) (by kernel_rfl) ?_),?_⟩
 ·rintro _ _ K ⟨hc0,i0,v0,rfl,hl0,rfl,hv0,h⟩
  exact cast (lvc113_0 _ _ _ _ _).symm (bz (t:=TVS) hl0 h (fun ht0 h=>⟨hl0,⟨ht0,⟨(aU h_rows i0),(oL h fun _ _ h=>(oG h fun _ h=>(aY (t:=TVS) (fun _ hm=>⟨hc0,hm⟩) _ rfl hl0 ht0 (bD h_rows) trivial h)))⟩⟩⟩) fun h=>(h trivial))
 ·rw[vc113]
  exact(bf (t:=TVS) (fun m hm=>⟨trivial,hm⟩) _ rfl trivial (aR h (fun v0 h hv0=>⟨(Int.natCast_nonneg 0),⟨(Int.natCast_nonneg _),⟨(Int.le_refl _),⟨rfl,⟨rfl,h⟩⟩⟩⟩⟩) (fun _ h=>h.elim)))
def c215:Con:=⟨[.lent aa,.lent aa],fun args hp K=>g2 (pB aa) (pB aa) (fun xs ys=>(Sm TVS xs)/\(Sm TVS ys)/\K (dB (decide (xs=ys))) []) args hp,.plain,false⟩
abbrev C215:Ctx:=cx [] 26 [] 0 false
def ann215:=an [[kp 3],[kp 1027],[kp 16],[kp 12291],[kp 28675],[kp 12323],[kp 16789507],[kp 16],[kp 12291],[kp 16]] [[kp 0]]
abbrev s215_0 (xs:LV) (ys:LV) (i0:Int) (v0:Unit):St:=⟨[(0,.brw aa xs),(1,.brw aa ys),(12,dI (xs.length:Int)),(13,dI i0)],[]⟩
abbrev LP215_0 (xs:LV) (ys:LV) (m:Nat) (st_:St) (K:KX):Prop:=True/\cB (s215_0 xs ys) Z0 (xs.length:Int) (F.iG xs ys) (fun v0:Unit=>True) (bn (fun v0:Unit=>True->K (.exit 0) (⟨[],[]⟩:St)) (fun q0:Unit=>K .ret (⟨[(4,dB false)],[]⟩:St))) m st_
def L215 (xs:LV) (ys:LV):bF:=lp1 0 (LP215_0 xs ys)
theorem vc215 (xs:LV) (ys:LV) (K:KA):vcT C215 (L215 xs ys) ann215 f215 [.brw aa xs,.brw aa ys] [] (.dat Ty.bool) K =
 (cond (!decide ((xs.length:Int)=(ys.length:Int))) (K (dB false) []) (∃m_,True/\cB (s215_0 xs ys) Z0 (xs.length:Int) (F.iG xs ys) (fun v0:Unit=>True) (bn (fun v0:Unit=>True->K (dB true) []) (fun q0:Unit=>K (dB false) [])) m_ (s215_0 xs ys Z0 ()))):=by kernel_rfl
theorem lvc215_0 (xs:LV) (ys:LV)  (i0:Int) (v0:Unit) (m:Nat) (K:KX):lvT C215 (L215 xs ys) ann215 f215 0 0 (s215_0 xs ys i0 v0) m K =
 (cond (decide (i0<(xs.length:Int))) ((0<=i0)/\(i0<(xs.length:Int))/\(0<=i0)/\(i0<(ys.length:Int))/\cond (!(Ty.beq aa (nV xs i0) (nV ys i0))) (K .ret (⟨[(4,dB false)],[]⟩:St)) (nxT (LP215_0 xs ys) m K (s215_0 xs ys (wrap64 (i0+Z1)) ()))) (K (.exit 0) (⟨[],[]⟩:St))):=by kernel_rfl
theorem con215_ok:bp P 215 c215:=bt C215 func215 kN fun args hp K h0=>by
 obtain⟨xs,ys,rfl,rfl,h_xs,h_ys,hK⟩:=g2e h0
 have h:ok (F.tC xs ys) (fun r=>K (dB r) []):=aA (F.xl xs ys h_xs h_ys) hK
 refine⟨rfl,ann215,(L215 xs ys),(.dat Ty.bool),(bK (i0:=0) (by kernel_rfl) ?_),?_⟩
 ·rintro _ _ K ⟨hc0,i0,v0,rfl,hl0,rfl,hv0,h⟩
  exact cast (lvc215_0 _ _ _ _ _ _).symm (bO h (fun ht0 h=>⟨hl0,⟨ht0,⟨hl0,(oG h fun _ h=>(oC h (fun _ h=>h) fun _ h=>(aV (fun _ hm=>⟨hc0,hm⟩) _ rfl hl0 iM ht0 (bD h_xs) trivial h)))⟩⟩⟩) fun h=>(h trivial))
 ·rw[vc215]
  exact(oC h (fun _ h=>h) fun _ h=>(bE (fun m hm=>⟨trivial,hm⟩) Z0 _ rfl (Int.natCast_nonneg 0) trivial (aR h (fun v0 h hv0=>h) (fun q0 h=>h))))
def c211:Con:=⟨[.lent TVS,.dat TVS],fun args hp K=>g2 (pB TVS) (pD TVS) (fun rows row=>(Sm (Ty.sl TVS) rows)/\(Sm TVS row)/\K (dI (M.fN rows row:Int)) []) args hp,.plain,false⟩
abbrev C211:Ctx:=cx [(215,c215)] 21 [] 0 false
def ann211:=an [[kp 3],[kp 35],[kp 1826],[kp 3874],[kp 1954],[kp 67362],[kp 1826],[kp 1826],[kp 16]] [[kp 32]]
abbrev s211_0 (rows:(List LV)) (row:LV) (i0:Int) (v0:Int):St:=⟨[(1,.data TVS row),(5,dI v0),(8,.brw TVS rows),(9,dI (rows.length:Int)),(10,dI i0)],[]⟩
abbrev LP211_0 (rows:(List LV)) (row:LV) (m:Nat) (st_:St) (K:KX):Prop:=True/\bU (t:=TVS) (s211_0 rows row) rows (F.fR rows row) (fun v0:Int=>True) (bn (fun v0:Int=>True->K (.exit 0) (⟨[(5,dI v0)],[]⟩:St)) (fun _=>False)) m st_
def L211 (rows:(List LV)) (row:LV):bF:=lp1 0 (LP211_0 rows row)
theorem vc211 (rows:(List LV)) (row:LV) (K:KA):vcT C211 (L211 rows row) ann211 f211 [.brw TVS rows,.data TVS row] [] (.dat ay) K =
 (∃m_,True/\bU (t:=TVS) (s211_0 rows row) rows (F.fR rows row) (fun v0:Int=>True) (bn (fun v0:Int=>True->K (dI v0) []) (fun _=>False)) m_ (s211_0 rows row Z0 Z0)):=by kernel_rfl
theorem lvc211_0 (rows:(List LV)) (row:LV)  (i0:Int) (v0:Int) (m:Nat) (K:KX):lvT C211 (L211 rows row) ann211 f211 0 0 (s211_0 rows row i0 v0) m K =
 (cond (decide (i0<(rows.length:Int))) ((0<=i0)/\(i0<(rows.length:Int))/\(Sm TVS (nth (t:=TVS) rows i0))/\(Sm TVS row)/\cond (decide ((nth (t:=TVS) rows i0)=row)) (nxT (LP211_0 rows row) m K (s211_0 rows row (wrap64 (i0+Z1)) (wrap64 (v0+Z1)))) (nxT (LP211_0 rows row) m K (s211_0 rows row (wrap64 (i0+Z1)) v0))) (K (.exit 0) (⟨[(5,dI v0)],[]⟩:St))):=by kernel_rfl
theorem con211_ok:bp P 211 c211:=bt C211 func211 (kC con215_ok kN) fun args hp K h0=>by
 obtain⟨rows,row,rfl,rfl,h_rows,h_row,hK⟩:=g2e h0
 have h:ok (F.pN rows row) (fun r=>K (dI r) []):=aA (F.xe rows row h_rows h_row) hK
 refine⟨rfl,ann211,(L211 rows row),(.dat ay),(bK (i0:=0) (by kernel_rfl) ?_),?_⟩
 ·rintro _ _ K ⟨hc0,i0,v0,rfl,hl0,rfl,hv0,h⟩
  exact cast (lvc211_0 _ _ _ _ _ _).symm (bz (t:=TVS) hl0 h (fun ht0 h=>⟨hl0,⟨ht0,⟨(aU h_rows i0),⟨h_row,(oC h (fun _ h=>(aY (t:=TVS) (fun _ hm=>⟨hc0,hm⟩) _ rfl hl0 ht0 (bD h_rows) trivial h)) fun _ h=>(aY (t:=TVS) (fun _ hm=>⟨hc0,hm⟩) _ rfl hl0 ht0 (bD h_rows) trivial h))⟩⟩⟩⟩) fun h=>(h trivial))
 ·rw[vc211]
  exact(bf (t:=TVS) (fun m hm=>⟨trivial,hm⟩) _ rfl trivial (aR h (fun v0 h hv0=>h) (fun _ h=>h.elim)))
def c193:Con:=⟨[.lent TVS,.dat TVS],fun args hp K=>g2 (pB TVS) (pD TVS) (fun rows row=>(Sm (Ty.sl TVS) rows)/\(Sm TVS row)/\K (dB (decide (0<(M.fN rows row:Int)))) []) args hp,.plain,false⟩
abbrev C193:Ctx:=cx [(211,c211)] 9 [] 0 false
def ann193:=an [[kp 3],[kp 16]] []
theorem vc193 (rows:(List LV)) (row:LV) (K:KA):vcT C193 aC ann193 f193 [.brw TVS rows,.data TVS row] [] (.dat Ty.bool) K =
 ((Sm (Ty.sl TVS) rows)/\(Sm TVS row)/\K (dB (decide (Z0<(M.fN rows row:Int)))) []):=by kernel_rfl
theorem con193_ok:bp P 193 c193:=bt C193 func193 (kC con211_ok kN) fun args hp K h0=>by
 obtain⟨rows,row,rfl,rfl,h_rows,h_row,hK⟩:=g2e h0
 have h:ok (F.ta rows row) (fun r=>K (dB r) []):=aA (F.wP rows row h_rows h_row) hK
 refine⟨rfl,ann193,aC,(.dat Ty.bool),(aH (by kernel_rfl)),?_⟩
 ·rw[vc193]
  exact⟨h_rows,⟨h_row,h⟩⟩
def c161:Con:=⟨[.dat (Ty.sl TVS)],fun args hp K=>g1 (pD (Ty.sl TVS)) (fun rows=>(Sm (Ty.sl TVS) rows)/\(LD (M.iA rows) fun r=>K (.clp 0 (r.length:Int)) [(0,.arr .dp TVS r)])) args hp,.bor,false⟩
abbrev C161:Ctx:=cx [(113,c113),(193,c193)] 23 [] 0 true
def ann161:=an [[kp 1],[.weak 3,kp 9],[kp 456],[kp 968],[kp 488],[kp 33256],[kp 456],[kp 456],[kp 4]] [[kp 8]]
abbrev s161_0 (rows:(List LV)) (i0:Int) (v0:(List LV)):St:=⟨[(3,.own 3 none),(6,.data (Ty.sl TVS) rows),(7,dI (rows.length:Int)),(8,dI i0)],[(3,.arr .sh TVS v0)]⟩
abbrev LP161_0 (rows:(List LV)) (m:Nat) (st_:St) (K:KX):Prop:=True/\bU (t:=TVS) (s161_0 rows) rows (F.fe rows) (fun v0:(List LV)=>True) (bn (fun v0:(List LV)=>True->K (.exit 0) (⟨[(3,.own 3 none)],[(3,.arr .sh TVS v0)]⟩:St)) (fun _=>False)) m st_
def L161 (rows:(List LV)):bF:=lp1 0 (LP161_0 rows)
theorem vc161 (rows:(List LV)) (K:KA):vcT C161 (L161 rows) ann161 f161 [.data (Ty.sl TVS) rows] [] .raw K =
 (∃m_,True/\bU (t:=TVS) (s161_0 rows) rows (F.fe rows) (fun v0:(List LV)=>True) (bn (fun v0:(List LV)=>True->(Sm (Ty.sl TVS) v0)/\(LD v0 fun r1=>K (.clp 0 ((r1.take (r1.length:Int).toNat).length:Int)) [(0,.arr .dp TVS (r1.take (r1.length:Int).toNat))])) (fun _=>False)) m_ (s161_0 rows Z0 [])):=by kernel_rfl
theorem lvc161_0 (rows:(List LV))  (i0:Int) (v0:(List LV)) (m:Nat) (K:KX):lvT C161 (L161 rows) ann161 f161 0 0 (s161_0 rows i0 v0) m K =
 (cond (decide (i0<(rows.length:Int))) ((0<=i0)/\(i0<(rows.length:Int))/\(Sm (Ty.sl TVS) v0)/\(Sm TVS (nth (t:=TVS) rows i0))/\cond (!(decide (0<(M.fN v0 (nth (t:=TVS) rows i0):Int)))) (((v0.length+[(nth (t:=TVS) rows i0)].length) * 24<=lim)/\(nxT (LP161_0 rows) m K (s161_0 rows (wrap64 (i0+Z1)) (v0++[(nth (t:=TVS) rows i0)])))) (nxT (LP161_0 rows) m K (s161_0 rows (wrap64 (i0+Z1)) v0))) (K (.exit 0) (⟨[(3,.own 3 none)],[(3,.arr .sh TVS v0)]⟩:St))):=by kernel_rfl
theorem con161_ok:bp P 161 c161:=bt C161 func161 (kC con113_ok (kC con193_ok kN)) fun args hp K h0=>by
 obtain⟨rows,rfl,rfl,h_rows,hK⟩:=g1e h0
 have h:ok (F.nj rows) (fun r=>K (.clp 0 (r.length:Int)) [(0,.arr .dp TVS r)]):=aA (F.vB rows h_rows) (hK _ rfl)
 refine⟨rfl,ann161,(L161 rows),.raw,(bK (i0:=0) (by kernel_rfl) ?_),?_⟩
 ·rintro _ _ K ⟨hc0,i0,v0,rfl,hl0,rfl,hv0,h⟩
  exact cast (lvc161_0 _ _ _ _ _).symm (bz (t:=TVS) hl0 h (fun ht0 h=>⟨hl0,⟨ht0,(oG h fun _ h=>⟨(aU h_rows i0),(oC h (fun _ h=>(oG h fun _ h=>(aY (t:=TVS) (fun _ hm=>⟨hc0,hm⟩) _ rfl hl0 ht0 (bD h_rows) trivial h))) fun _ h=>(aY (t:=TVS) (fun _ hm=>⟨hc0,hm⟩) _ rfl hl0 ht0 (bD h_rows) trivial h))⟩)⟩⟩) fun h=>(h trivial))
 ·rw[vc161]
  exact(bf (t:=TVS) (fun m hm=>⟨trivial,hm⟩) _ rfl trivial (aR h (fun v0 h hv0=>(oG h fun _ h=>(oL h fun _ _ h=>h))) (fun _ h=>h.elim)))
def c112:Con:=⟨[.dat aj,.dat TTb,.lent (Ty.sl TVS)],fun args hp K=>g3 (pD aj) (pD TTb) (pB (Ty.sl TVS)) (fun s tables ahead=>(Sm aj s)/\(Sm TTb tables)/\(Sm (Ty.sl (Ty.sl TVS)) ahead)/\(M.qY tables ahead s)/\(LD (M.cr tables ahead s) fun r=>K (.data (Ty.sl TVS) r) [])) args hp,.plain,false⟩
abbrev C112:Ctx:=cx [(87,c87),(158,c158),(159,c159),(160,c160),(161,c161)] 126 [] 0 false
def ann112:=an [[.fixRow 3 aj,kp 14],[kp 142],[kp 262286],[kp 786574],[kp 64],[kp 134480012],[kp 60129542280],[kp 128849019016],[kp 60129542792],[kp 4458176053896],[kp 60129542280],[kp 60129542280],[kp 281474976972940],[kp 126100789566374024],[kp 270215977642229896],[kp 126100789566376072],[kp 126100789566374024],[kp 126100789566374024],[.keep [2,3,7,18,68]],[kp 132226261520350065983628],[kp 283341988972178712821900],[kp 132226261520350065991820],[kp 135531918058358817633083532],[kp 290274422969031351995474060],[kp 135531918058358817633116300],[kp 135531918058358817633149068],[kp 79363694432322696411177099404],[kp 135531918058358817633083532],[kp 135531918058358817633083532],[kp 132226261520350065983628],[.keep [2,3,7,18,103]],[kp 64],[.keep [2,3,7,117]],[.weak 124,.freeze 124,kp 64],[kp 64]] [[],[kp 128],[],[kp 128],[],[kp 128],[],[kp 132226261520350065983628]]
abbrev s112_1 (s:aj.D) (tables:LTb) (ahead:(List (List LV))) (i1:Int) (v1:(List LV)):St:=⟨[(3,.adr aj s),(7,.own 7 none),(33,.data (Ty.sl TVS) (nth (t:=(Ty.sl TVS)) ahead s.2.1)),(34,dI ((nth (t:=(Ty.sl TVS)) ahead s.2.1).length:Int)),(35,dI i1)],[(7,.arr .sh TVS v1)]⟩
abbrev LP112_1 (s:aj.D) (tables:LTb) (ahead:(List (List LV))) (m:Nat) (st_:St) (K:KX):Prop:=True/\bU (t:=TVS) (s112_1 s tables ahead) (nth (t:=(Ty.sl TVS)) ahead s.2.1) (F.gf s tables ahead) (fun v1:(List LV)=>True) (bn (fun v1:(List LV)=>True->K (.exit 1) (⟨[(7,.own 7 none)],[(7,.arr .sh TVS v1)]⟩:St)) (fun _=>False)) m st_
abbrev s112_3 (s:aj.D) (tables:LTb) (ahead:(List (List LV))) (i3:Int) (v3:(List LV)):St:=⟨[(3,.adr aj s),(7,.own 7 none),(54,.data (Ty.sl TVS) (nth (t:=(Ty.sl TVS)) ahead s.2.1)),(55,dI ((nth (t:=(Ty.sl TVS)) ahead s.2.1).length:Int)),(56,dI i3)],[(7,.arr .sh TVS v3)]⟩
abbrev LP112_3 (s:aj.D) (tables:LTb) (ahead:(List (List LV))) (m:Nat) (st_:St) (K:KX):Prop:=True/\bU (t:=TVS) (s112_3 s tables ahead) (nth (t:=(Ty.sl TVS)) ahead s.2.1) (F.fZ s tables ahead) (fun v3:(List LV)=>True) (bn (fun v3:(List LV)=>True->K (.exit 3) (⟨[(7,.own 7 none)],[(7,.arr .sh TVS v3)]⟩:St)) (fun _=>False)) m st_
abbrev s112_5 (s:aj.D) (tables:LTb) (ahead:(List (List LV))) (i5:Int) (v5:(List LV)):St:=⟨[(2,.brw (Ty.sl TVS) ahead),(3,.adr aj s),(7,.own 7 none),(74,.data (Ty.sl TVS) (nth (t:=(Ty.sl TVS)) ahead s.2.1)),(75,dI ((nth (t:=(Ty.sl TVS)) ahead s.2.1).length:Int)),(76,dI i5)],[(7,.arr .sh TVS v5)]⟩
abbrev LP112_5 (s:aj.D) (tables:LTb) (ahead:(List (List LV))) (m:Nat) (st_:St) (K:KX):Prop:=True/\cB (s112_5 s tables ahead) Z0 ((nth (t:=(Ty.sl TVS)) ahead s.2.1).length:Int) (F.gu s tables ahead) (fun v5:(List LV)=>True) (bn (fun v5:(List LV)=>True->K (.exit 5) (⟨[(7,.own 7 none)],[(7,.arr .sh TVS v5)]⟩:St)) (fun _=>False)) m st_
abbrev s112_7 (s:aj.D) (tables:LTb) (ahead:(List (List LV))) (c7_0:LV) (c7_1:Int) (i7:Int) (v7:(List LV)):St:=⟨[(2,.brw (Ty.sl TVS) ahead),(3,.adr aj s),(7,.own 7 none),(13,.data TVS c7_0),(74,.data (Ty.sl TVS) (nth (t:=(Ty.sl TVS)) ahead s.2.1)),(75,dI ((nth (t:=(Ty.sl TVS)) ahead s.2.1).length:Int)),(76,dI c7_1),(84,.data (Ty.sl TVS) (nth (t:=(Ty.sl TVS)) ahead s.2.2.1)),(85,dI ((nth (t:=(Ty.sl TVS)) ahead s.2.2.1).length:Int)),(86,dI i7)],[(7,.arr .sh TVS v7)]⟩
abbrev LP112_7 (s:aj.D) (tables:LTb) (ahead:(List (List LV))) (m:Nat) (st_:St) (K:KX):Prop:=∃c7_0:LV,∃c7_1:Int,(Sm TVS c7_0/\True)/\bU (t:=TVS) (s112_7 s tables ahead c7_0 c7_1) (nth (t:=(Ty.sl TVS)) ahead s.2.2.1) (F.gj s tables ahead c7_0 c7_1) (fun v7:(List LV)=>True) (bn (fun v7:(List LV)=>True->K (.exit 7) (⟨[(2,.brw (Ty.sl TVS) ahead),(3,.adr aj s),(7,.own 7 none),(74,.data (Ty.sl TVS) (nth (t:=(Ty.sl TVS)) ahead s.2.1)),(75,dI ((nth (t:=(Ty.sl TVS)) ahead s.2.1).length:Int)),(76,dI c7_1)],[(7,.arr .sh TVS v7)]⟩:St)) (fun _=>False)) m st_
def L112 (s:aj.D) (tables:LTb) (ahead:(List (List LV))):bF:=fun id m st_ K=>match id with
 | 1=>LP112_1 s tables ahead m st_ K
 | 3=>LP112_3 s tables ahead m st_ K
 | 5=>LP112_5 s tables ahead m st_ K
 | 7=>LP112_7 s tables ahead m st_ K
 | _=>False
theorem vc112 (s:aj.D) (tables:LTb) (ahead:(List (List LV))) (K:KA):vcT C112 (L112 s tables ahead) ann112 f112 [.data aj s,.data TTb tables,.brw (Ty.sl TVS) ahead] [] (.dat (Ty.sl TVS)) K =
 (cond (decide (s.1=Z1)) ((0<=s.2.2.2.1)/\(s.2.2.2.1<(tables.length:Int))/\K (.data (Ty.sl TVS) (nT tables s.2.2.2.1).2.1) []) (cond (decide (s.1=Z2)) ((0<=s.2.1)/\(s.2.1<(ahead.length:Int))/\(∃m_,True/\bU (t:=TVS) (s112_1 s tables ahead) (nth (t:=(Ty.sl TVS)) ahead s.2.1) (F.gf s tables ahead) (fun v1:(List LV)=>True) (bn (fun v1:(List LV)=>True->K (.data (Ty.sl TVS) v1) []) (fun _=>False)) m_ (s112_1 s tables ahead Z0 []))) (cond (decide (s.1=Z3)) ((0<=s.2.1)/\(s.2.1<(ahead.length:Int))/\(∃m_,True/\bU (t:=TVS) (s112_3 s tables ahead) (nth (t:=(Ty.sl TVS)) ahead s.2.1) (F.fZ s tables ahead) (fun v3:(List LV)=>True) (bn (fun v3:(List LV)=>True->K (.data (Ty.sl TVS) v3) []) (fun _=>False)) m_ (s112_3 s tables ahead Z0 []))) (cond (decide (s.1=Z4)) ((0<=s.2.1)/\(s.2.1<(ahead.length:Int))/\(∃m_,True/\cB (s112_5 s tables ahead) Z0 ((nth (t:=(Ty.sl TVS)) ahead s.2.1).length:Int) (F.gu s tables ahead) (fun v5:(List LV)=>True) (bn (fun v5:(List LV)=>True->K (.data (Ty.sl TVS) v5) []) (fun _=>False)) m_ (s112_5 s tables ahead Z0 []))) (cond (decide (s.1=Z5)) ((0<=s.2.1)/\(s.2.1<(ahead.length:Int))/\(0<=s.2.2.1)/\(s.2.2.1<(ahead.length:Int))/\(Sm (Ty.sl (Ty.sl TVS)) [(nth (t:=(Ty.sl TVS)) ahead s.2.1),(nth (t:=(Ty.sl TVS)) ahead s.2.2.1)])/\(LD (List.flatten [(nth (t:=(Ty.sl TVS)) ahead s.2.1),(nth (t:=(Ty.sl TVS)) ahead s.2.2.1)]) fun r1=>K (.data (Ty.sl TVS) r1) [])) (cond (decide (s.1=Z6)) ((0<=s.2.1)/\(s.2.1<(ahead.length:Int))/\(Sm (Ty.sl TVS) (nth (t:=(Ty.sl TVS)) ahead s.2.1))/\(LD (M.iA (nth (t:=(Ty.sl TVS)) ahead s.2.1)) fun r2=>K (.data (Ty.sl TVS) (aD r2 (some (Z0,(r2.length:Int))))) [])) (K (.data (Ty.sl TVS) []) []))))))):=by kernel_rfl
theorem lvc112_0 (s:aj.D) (tables:LTb) (ahead:(List (List LV)))  (i1:Int) (v1:(List LV)) (m:Nat) (K:KX):lvT C112 (L112 s tables ahead) ann112 f112 0 1 (s112_1 s tables ahead i1 v1) m K =
 (cond (decide (i1<((nth (t:=(Ty.sl TVS)) ahead s.2.1).length:Int))) ((0<=i1)/\(i1<((nth (t:=(Ty.sl TVS)) ahead s.2.1).length:Int))/\(Sm TVS (nth (t:=TVS) (nth (t:=(Ty.sl TVS)) ahead s.2.1) i1))/\(Sm TPS s.2.2.2.2.1)/\(M.fS (nth (t:=TVS) (nth (t:=(Ty.sl TVS)) ahead s.2.1) i1).length s.2.2.2.2.1)/\cond (M.holds (nth (t:=TVS) (nth (t:=(Ty.sl TVS)) ahead s.2.1) i1) s.2.2.2.2.1) (((v1.length+[(nth (t:=TVS) (nth (t:=(Ty.sl TVS)) ahead s.2.1) i1)].length) * 24<=lim)/\(nxT (LP112_1 s tables ahead) m K (s112_1 s tables ahead (wrap64 (i1+Z1)) (v1++[(nth (t:=TVS) (nth (t:=(Ty.sl TVS)) ahead s.2.1) i1)])))) (nxT (LP112_1 s tables ahead) m K (s112_1 s tables ahead (wrap64 (i1+Z1)) v1))) (K (.exit 1) (⟨[(7,.own 7 none)],[(7,.arr .sh TVS v1)]⟩:St))):=by kernel_rfl
theorem lvc112_1 (s:aj.D) (tables:LTb) (ahead:(List (List LV)))  (i3:Int) (v3:(List LV)) (m:Nat) (K:KX):lvT C112 (L112 s tables ahead) ann112 f112 1 3 (s112_3 s tables ahead i3 v3) m K =
 (cond (decide (i3<((nth (t:=(Ty.sl TVS)) ahead s.2.1).length:Int))) ((0<=i3)/\(i3<((nth (t:=(Ty.sl TVS)) ahead s.2.1).length:Int))/\(Sm TVS (nth (t:=TVS) (nth (t:=(Ty.sl TVS)) ahead s.2.1) i3))/\(Sm (Ty.sl ay) s.2.2.2.2.2.1)/\(M.Av (nth (t:=TVS) (nth (t:=(Ty.sl TVS)) ahead s.2.1) i3) s.2.2.2.2.2.1)/\(LD (M.taken (nth (t:=TVS) (nth (t:=(Ty.sl TVS)) ahead s.2.1) i3) s.2.2.2.2.2.1) fun r3=>((v3.length+[r3].length) * 24<=lim)/\(nxT (LP112_3 s tables ahead) m K (s112_3 s tables ahead (wrap64 (i3+Z1)) (v3++[r3]))))) (K (.exit 3) (⟨[(7,.own 7 none)],[(7,.arr .sh TVS v3)]⟩:St))):=by kernel_rfl
theorem lvc112_2 (s:aj.D) (tables:LTb) (ahead:(List (List LV)))  (i5:Int) (v5:(List LV)) (m:Nat) (K:KX):lvT C112 (L112 s tables ahead) ann112 f112 2 5 (s112_5 s tables ahead i5 v5) m K =
 (cond (decide (i5<((nth (t:=(Ty.sl TVS)) ahead s.2.1).length:Int))) ((0<=i5)/\(i5<((nth (t:=(Ty.sl TVS)) ahead s.2.1).length:Int))/\(0<=s.2.2.1)/\(s.2.2.1<(ahead.length:Int))/\(∃m_,∃c7_0:LV,∃c7_1:Int,(Sm TVS c7_0/\True)/\bU (t:=TVS) (s112_7 s tables ahead c7_0 c7_1) (nth (t:=(Ty.sl TVS)) ahead s.2.2.1) (F.gj s tables ahead c7_0 c7_1) (fun v7:(List LV)=>True) (bn (fun v7:(List LV)=>True->(nxT (LP112_5 s tables ahead) m K (s112_5 s tables ahead (wrap64 (c7_1+Z1)) v7))) (fun _=>False)) m_ (s112_7 s tables ahead (nth (t:=TVS) (nth (t:=(Ty.sl TVS)) ahead s.2.1) i5) i5 Z0 v5))) (K (.exit 5) (⟨[(7,.own 7 none)],[(7,.arr .sh TVS v5)]⟩:St))):=by kernel_rfl
theorem lvc112_3 (s:aj.D) (tables:LTb) (ahead:(List (List LV))) (c7_0:LV) (c7_1:Int) (i7:Int) (v7:(List LV)) (m:Nat) (K:KX):lvT C112 (L112 s tables ahead) ann112 f112 3 7 (s112_7 s tables ahead c7_0 c7_1 i7 v7) m K =
 (cond (decide (i7<((nth (t:=(Ty.sl TVS)) ahead s.2.2.1).length:Int))) ((0<=i7)/\(i7<((nth (t:=(Ty.sl TVS)) ahead s.2.2.1).length:Int))/\(Sm TVS c7_0)/\(Sm TVS (nth (t:=TVS) (nth (t:=(Ty.sl TVS)) ahead s.2.2.1) i7))/\(c7_0.length+(nth (t:=TVS) (nth (t:=(Ty.sl TVS)) ahead s.2.2.1) i7).length<=1048576)/\(LD (c7_0++(nth (t:=TVS) (nth (t:=(Ty.sl TVS)) ahead s.2.2.1) i7)) fun r4=>(Sm TVS (aD r4 (some (Z0,(r4.length:Int)))))/\(Sm TPS s.2.2.2.2.1)/\(M.fS (aD r4 (some (Z0,(r4.length:Int)))).length s.2.2.2.2.1)/\cond (M.holds (aD r4 (some (Z0,(r4.length:Int)))) s.2.2.2.2.1) (((v7.length+[(aD r4 (some (Z0,(r4.length:Int))))].length) * 24<=lim)/\(nxT (LP112_7 s tables ahead) m K (s112_7 s tables ahead c7_0 c7_1 (wrap64 (i7+Z1)) (v7++[(aD r4 (some (Z0,(r4.length:Int))))])))) (nxT (LP112_7 s tables ahead) m K (s112_7 s tables ahead c7_0 c7_1 (wrap64 (i7+Z1)) v7)))) (K (.exit 7) (⟨[(2,.brw (Ty.sl TVS) ahead),(3,.adr aj s),(7,.own 7 none),(74,.data (Ty.sl TVS) (nth (t:=(Ty.sl TVS)) ahead s.2.1)),(75,dI ((nth (t:=(Ty.sl TVS)) ahead s.2.1).length:Int)),(76,dI c7_1)],[(7,.arr .sh TVS v7)]⟩:St))):=by kernel_rfl
theorem con112_ok:bp P 112 c112:=bt C112 func112 (kC con87_ok (kC con158_ok (kC con159_ok (kC con160_ok (kC con161_ok kN))))) fun args hp K h0=>by
 obtain⟨s,tables,ahead,rfl,rfl,h_s,h_tables,h_ahead,p0,hK⟩:=g3e h0
 have h:ok (F.lX s tables ahead) (fun r=>K (.data (Ty.sl TVS) r) []):=aA (F.uw s tables ahead h_s h_tables h_ahead p0) (hK _ rfl)
 refine⟨rfl,ann112,(L112 s tables ahead),(.dat (Ty.sl TVS)),(EC (i0:=1) (i1:=3) (i2:=5) (i3:=7) (by kernel_rfl) ?_ ?_ ?_ ?_),?_⟩
 ·rintro _ _ K ⟨hc1,i1,v1,rfl,hl1,rfl,hv1,h⟩
  exact cast (lvc112_0 _ _ _ _ _ _ _).symm (bz (t:=TVS) hl1 h (fun ht1 h=>⟨hl1,⟨ht1,⟨(aU (aU h_ahead s.2.1) i1),⟨h_s.2.2.2.2.1,(oG h fun _ h=>(oC h (fun _ h=>(oG h fun _ h=>(aY (t:=TVS) (fun _ hm=>⟨hc1,hm⟩) _ rfl hl1 ht1 (bD (aU h_ahead s.2.1)) trivial h))) fun _ h=>(aY (t:=TVS) (fun _ hm=>⟨hc1,hm⟩) _ rfl hl1 ht1 (bD (aU h_ahead s.2.1)) trivial h)))⟩⟩⟩⟩) fun h=>(h trivial))
 ·rintro _ _ K ⟨hc3,i3,v3,rfl,hl3,rfl,hv3,h⟩
  exact cast (lvc112_1 _ _ _ _ _ _ _).symm (bz (t:=TVS) hl3 h (fun ht3 h=>⟨hl3,⟨ht3,⟨(aU (aU h_ahead s.2.1) i3),⟨h_s.2.2.2.2.2.1,(oG h fun _ h=>(oL h fun _ _ h=>(oG h fun _ h=>(aY (t:=TVS) (fun _ hm=>⟨hc3,hm⟩) _ rfl hl3 ht3 (bD (aU h_ahead s.2.1)) trivial h))))⟩⟩⟩⟩) fun h=>(h trivial))
 ·rintro _ _ K ⟨hc5,i5,v5,rfl,hl5,rfl,hv5,h⟩
  exact cast (lvc112_2 _ _ _ _ _ _ _).symm (bO h (fun ht5 h=>⟨hl5,⟨ht5,(oG h fun _ h=>(oG h fun _ h=>(bf (t:=TVS) (fun m hm=>⟨(nth (t:=TVS) (nth (t:=(Ty.sl TVS)) ahead s.2.1) i5),i5,⟨(aU (aU h_ahead s.2.1) i5),trivial⟩,hm⟩) _ rfl trivial (aR h (fun v7 h hv7=>(aV (fun _ hm=>⟨hc5,hm⟩) _ rfl hl5 iM ht5 (bD (aU h_ahead s.2.1)) trivial h)) (fun _ h=>h.elim)))))⟩⟩) fun h=>(h trivial))
 ·rintro _ _ K ⟨c7_0,c7_1,hc7,i7,v7,rfl,hl7,rfl,hv7,h⟩
  exact cast (lvc112_3 _ _ _ _ _ _ _ _ _).symm (bz (t:=TVS) hl7 h (fun ht7 h=>⟨hl7,⟨ht7,⟨hc7.1,⟨(aU (aU h_ahead s.2.2.1) i7),(oG h fun _ h=>(oL h fun _ _ h=>(oG h fun _ h=>⟨h_s.2.2.2.2.1,(oG h fun _ h=>(oC h (fun _ h=>(oG h fun _ h=>(aY (t:=TVS) (fun _ hm=>⟨c7_0,c7_1,hc7,hm⟩) _ rfl hl7 ht7 (bD (aU h_ahead s.2.2.1)) trivial h))) fun _ h=>(aY (t:=TVS) (fun _ hm=>⟨c7_0,c7_1,hc7,hm⟩) _ rfl hl7 ht7 (bD (aU h_ahead s.2.2.1)) trivial h)))⟩)))⟩⟩⟩⟩) fun h=>(h trivial))
 ·rw[vc112]
  exact(oC h (fun _ h=>(oG h fun _ h=>(oG h fun _ h=>h))) fun _ h=>(oC h (fun _ h=>(oG h fun _ h=>(oG h fun _ h=>(bf (t:=TVS) (fun m hm=>⟨trivial,hm⟩) _ rfl trivial (aR h (fun v1 h hv1=>h) (fun _ h=>h.elim)))))) fun _ h=>(oC h (fun _ h=>(oG h fun _ h=>(oG h fun _ h=>(bf (t:=TVS) (fun m hm=>⟨trivial,hm⟩) _ rfl trivial (aR h (fun v3 h hv3=>h) (fun _ h=>h.elim)))))) fun _ h=>(oC h (fun _ h=>(oG h fun _ h=>(oG h fun _ h=>(bE (fun m hm=>⟨trivial,hm⟩) Z0 _ rfl (Int.natCast_nonneg 0) trivial (aR h (fun v5 h hv5=>h) (fun _ h=>h.elim)))))) fun _ h=>(oC h (fun _ h=>(oG h fun _ h=>(oG h fun _ h=>(oG h fun _ h=>(oG h fun _ h=>(oG h fun _ h=>(oL h fun _ _ h=>h))))))) fun _ h=>(oC h (fun _ h=>(oG h fun _ h=>(oG h fun _ h=>⟨(aU h_ahead s.2.1),(oL h fun _ _ h=>h)⟩))) fun _ h=>h))))))
def c61:Con:=⟨[.dat TTb,.dat TSS],fun args hp K=>g2 (pD TTb) (pD TSS) (fun tables plan=>(Sm TTb tables)/\(Sm TSS plan)/\(M.bQ tables plan=true)/\(LD (M.dm tables plan) fun r=>K (.clp 0 (r.length:Int)) [(0,.arr .dp TVS r)])) args hp,.bor,false⟩
abbrev C61:Ctx:=cx [(112,c112),(113,c113)] 29 [] 0 true
def ann61:=an [[kp 3],[.weak 5,kp 35],[kp 1825],[kp 3873],[.fixRow 7 aj,kp 1953],[kp 1825],[kp 1825],[kp 16]] [[kp 32]]
abbrev s61_0 (tables:LTb) (plan:LS) (i0:Int) (v0:(List (List LV))):St:=⟨[(0,.data TTb tables),(5,.own 5 none),(8,.data TSS plan),(9,dI (plan.length:Int)),(10,dI i0)],[(5,.arr .sh (Ty.sl TVS) v0)]⟩
abbrev LP61_0 (tables:LTb) (plan:LS) (m:Nat) (st_:St) (K:KX):Prop:=True/\bU (t:=aj) (s61_0 tables plan) plan (F.fu tables plan) (fun v0:(List (List LV))=>True) (bn (fun v0:(List (List LV))=>True->K (.exit 0) (⟨[(5,.own 5 none)],[(5,.arr .sh (Ty.sl TVS) v0)]⟩:St)) (fun _=>False)) m st_
def L61 (tables:LTb) (plan:LS):bF:=lp1 0 (LP61_0 tables plan)
theorem vc61 (tables:LTb) (plan:LS) (K:KA):vcT C61 (L61 tables plan) ann61 f61 [.data TTb tables,.data TSS plan] [] .raw K =
 (∃m_,True/\bU (t:=aj) (s61_0 tables plan) plan (F.fu tables plan) (fun v0:(List (List LV))=>True) (bn (fun v0:(List (List LV))=>True->(0<=wrap64 ((v0.length:Int)-Z1))/\(wrap64 ((v0.length:Int)-Z1)<(v0.length:Int))/\(Sm (Ty.sl TVS) (nth (t:=(Ty.sl TVS)) v0 (wrap64 ((v0.length:Int)-Z1))))/\(LD (nth (t:=(Ty.sl TVS)) v0 (wrap64 ((v0.length:Int)-Z1))) fun r1=>K (.clp 0 ((r1.take (r1.length:Int).toNat).length:Int)) [(0,.arr .dp TVS (r1.take (r1.length:Int).toNat))])) (fun _=>False)) m_ (s61_0 tables plan Z0 [])):=by kernel_rfl
theorem lvc61_0 (tables:LTb) (plan:LS)  (i0:Int) (v0:(List (List LV))) (m:Nat) (K:KX):lvT C61 (L61 tables plan) ann61 f61 0 0 (s61_0 tables plan i0 v0) m K =
 (cond (decide (i0<(plan.length:Int))) ((0<=i0)/\(i0<(plan.length:Int))/\(Sm aj (nS plan i0))/\(Sm TTb tables)/\(Sm (Ty.sl (Ty.sl TVS)) v0)/\(M.qY tables v0 (nS plan i0))/\(LD (M.cr tables v0 (nS plan i0)) fun r2=>((v0.length+[r2].length) * 24<=lim)/\(nxT (LP61_0 tables plan) m K (s61_0 tables plan (wrap64 (i0+Z1)) (v0++[r2]))))) (K (.exit 0) (⟨[(5,.own 5 none)],[(5,.arr .sh (Ty.sl TVS) v0)]⟩:St))):=by kernel_rfl
theorem con61_ok:bp P 61 c61:=bt C61 func61 (kC con112_ok (kC con113_ok kN)) fun args hp K h0=>by
 obtain⟨tables,plan,rfl,rfl,h_tables,h_plan,p0,hK⟩:=g2e h0
 have h:ok (F.nh tables plan) (fun r=>K (.clp 0 (r.length:Int)) [(0,.arr .dp TVS r)]):=aA (F.uV tables plan h_tables h_plan p0) (hK _ rfl)
 refine⟨rfl,ann61,(L61 tables plan),.raw,(bK (i0:=0) (by kernel_rfl) ?_),?_⟩
 ·rintro _ _ K ⟨hc0,i0,v0,rfl,hl0,rfl,hv0,h⟩
  exact cast (lvc61_0 _ _ _ _ _ _).symm (bz (t:=aj) hl0 h (fun ht0 h=>⟨hl0,⟨ht0,⟨(aU h_plan i0),⟨h_tables,(oG h fun _ h=>(oG h fun _ h=>(oL h fun _ _ h=>(oG h fun _ h=>(aY (t:=aj) (fun _ hm=>⟨hc0,hm⟩) _ rfl hl0 ht0 (bD h_plan) trivial h)))))⟩⟩⟩⟩) fun h=>(h trivial))
 ·rw[vc61]
  exact(bf (t:=aj) (fun m hm=>⟨trivial,hm⟩) _ rfl trivial (aR h (fun v0 h hv0=>(oG h fun _ h=>(oG h fun _ h=>(oG h fun _ h=>(oL h fun _ _ h=>h))))) (fun _ h=>h.elim)))
def c22:Con:=⟨[.dat TTb,.dat TSS],fun args hp K=>g2 (pD TTb) (pD TSS) (fun tables plan=>(Sm TTb tables)/\(Sm TSS plan)/\(LD (M.dm tables plan) fun r=>K (.clp 0 (r.length:Int)) [(0,.arr .dp TVS r)])) args hp,.bor,false⟩
abbrev C22:Ctx:=cx [(20,c20),(61,c61)] 12 [] 0 true
def ann22:=an [[kp 3],[kp 259],[.clip 4,kp 16],[kp 16]] []
theorem vc22 (tables:LTb) (plan:LS) (K:KA):vcT C22 aC ann22 f22 [.data TTb tables,.data TSS plan] [] .raw K =
 ((Sm TTb tables)/\(Sm TSS plan)/\cond (!(M.bQ tables plan)) (K (.clp 0 (([]:List TVS.D).length:Int)) [(0,.arr .dp TVS ([]:List TVS.D))]) ((Sm TTb tables)/\(Sm TSS plan)/\(M.bQ tables plan=true)/\(LD (M.dm tables plan) fun r1=>K (.clp 0 ((r1.take (r1.length:Int).toNat).length:Int)) [(0,.arr .dp TVS (r1.take (r1.length:Int).toNat))]))):=by kernel_rfl
theorem con22_ok:bp P 22 c22:=bt C22 func22 (kC con20_ok (kC con61_ok kN)) fun args hp K h0=>by
 obtain⟨tables,plan,rfl,rfl,h_tables,h_plan,hK⟩:=g2e h0
 have h:ok (F.nN tables plan) (fun r=>K (.clp 0 (r.length:Int)) [(0,.arr .dp TVS r)]):=aA (F.vt tables plan h_tables h_plan) (hK _ rfl)
 refine⟨rfl,ann22,aC,.raw,(aH (by kernel_rfl)),?_⟩
 ·rw[vc22]
  exact⟨h_tables,⟨h_plan,(oC h (fun _ h=>h) fun b_1 h=>⟨h_tables,⟨h_plan,⟨(bnf b_1),(oL h fun _ _ h=>h)⟩⟩⟩)⟩⟩
def c23:Con:=⟨[.dat (Ty.sl ay),.dat (Ty.sl ay)],fun args hp K=>g2 (pD (Ty.sl ay)) (pD (Ty.sl ay)) (fun a b=>(Sm (Ty.sl ay) a)/\(Sm (Ty.sl ay) b)/\(a=b)/\K (dB true) []) args hp,.plain,false⟩
abbrev C23:Ctx:=cx [] 26 [] 0 false
def ann23:=an [[kp 3],[kp 1027],[kp 16],[kp 35],[kp 16419],[kp 35],[kp 33554467],[kp 16],[kp 16]] [[kp 0]]
abbrev s23_0 (a:LI) (b:LI) (i0:Int) (v0:Unit):St:=⟨[(0,.data (Ty.sl ay) a),(1,.data (Ty.sl ay) b),(5,dI i0)],[]⟩
abbrev LP23_0 (a:LI) (b:LI) (m:Nat) (st_:St) (K:KX):Prop:=True/\cB (s23_0 a b) Z0 (a.length:Int) (F.gZ a b) (fun v0:Unit=>True) (bn (fun v0:Unit=>True->K (.exit 0) (⟨[],[]⟩:St)) (fun q0:Unit=>K .ret (⟨[(4,dB false)],[]⟩:St))) m st_
def L23 (a:LI) (b:LI):bF:=lp1 0 (LP23_0 a b)
theorem vc23 (a:LI) (b:LI) (K:KA):vcT C23 (L23 a b) ann23 f23 [.data (Ty.sl ay) a,.data (Ty.sl ay) b] [] (.dat Ty.bool) K =
 (cond (!decide ((a.length:Int)=(b.length:Int))) (K (dB false) []) (∃m_,True/\cB (s23_0 a b) Z0 (a.length:Int) (F.gZ a b) (fun v0:Unit=>True) (bn (fun v0:Unit=>True->K (dB true) []) (fun q0:Unit=>K (dB false) [])) m_ (s23_0 a b Z0 ()))):=by kernel_rfl
theorem lvc23_0 (a:LI) (b:LI)  (i0:Int) (v0:Unit) (m:Nat) (K:KX):lvT C23 (L23 a b) ann23 f23 0 0 (s23_0 a b i0 v0) m K =
 (cond (decide (i0<(a.length:Int))) ((0<=i0)/\(i0<(a.length:Int))/\(0<=i0)/\(i0<(b.length:Int))/\cond (!decide ((nI a i0)=(nI b i0))) (K .ret (⟨[(4,dB false)],[]⟩:St)) (nxT (LP23_0 a b) m K (s23_0 a b (wrap64 (i0+Z1)) ()))) (K (.exit 0) (⟨[],[]⟩:St))):=by kernel_rfl
theorem con23_ok:bp P 23 c23:=bt C23 func23 kN fun args hp K h0=>by
 obtain⟨a,b,rfl,rfl,h_a,h_b,p0,hK⟩:=g2e h0
 have h:ok (F.ny a b) (fun r=>K (dB r) []):=aA (F.ve a b h_a h_b p0) hK
 refine⟨rfl,ann23,(L23 a b),(.dat Ty.bool),(bK (i0:=0) (by kernel_rfl) ?_),?_⟩
 ·rintro _ _ K ⟨hc0,i0,v0,rfl,hl0,rfl,hv0,h⟩
  exact cast (lvc23_0 _ _ _ _ _ _).symm (bO h (fun ht0 h=>⟨hl0,⟨ht0,⟨hl0,(oG h fun _ h=>(oC h (fun _ h=>h) fun _ h=>(aV (fun _ hm=>⟨hc0,hm⟩) _ rfl hl0 iM ht0 (bD h_a) trivial h)))⟩⟩⟩) fun h=>(h trivial))
 ·rw[vc23]
  exact(oC h (fun _ h=>h) fun _ h=>(bE (fun m hm=>⟨trivial,hm⟩) Z0 _ rfl (Int.natCast_nonneg 0) trivial (aR h (fun v0 h hv0=>h) (fun q0 h=>h))))
def c62:Con:=⟨[.dat TSS],fun args hp K=>g1 (pD TSS) (fun plan=>(Sm TSS plan)/\(M.ng plan)/\(LD (M.jm plan) fun r=>K (.own 0 none) [(0,.arr .sh Ty.bool r)])) args hp,.plain,false⟩
abbrev C62:Ctx:=cx [] 51 [] 0 false
def ann62:=an [[kp 1],[kp 9],[kp 9],[kp 25],[kp 262169],[kp 25],[.fixRow 5 aj,kp 57],[kp 8589934649],[kp 57],[kp 35184372088889],[kp 25],[kp 4]] [[kp 8]]
abbrev s62_0 (plan:LS) (v0:Int×(List Bool)):St:=⟨[(0,.data TSS plan),(3,.own 8 none),(4,dI v0.1)],[(8,.arr .sh Ty.bool v0.2)]⟩
abbrev LP62_0 (plan:LS) (m:Nat) (st_:St) (K:KX):Prop:=True/\dX (s62_0 plan) (F.jT plan) (fun v0:Int×(List Bool)=>True) (fun e0:(List Bool)=>True->K (.exit 0) (⟨[(3,.own 8 none)],[(8,.arr .sh Ty.bool e0)]⟩:St)) m st_
def L62 (plan:LS):bF:=lp1 0 (LP62_0 plan)
theorem vc62 (plan:LS) (K:KA):vcT C62 (L62 plan) ann62 f62 [.data TSS plan] [] .raw K =
 (((plan.length:Int)=(plan.length:Int))/\(0<=(plan.length:Int))/\((plan.length:Int) * 1<=(lim:Int))/\(0<=wrap64 ((plan.length:Int)-Z1))/\(wrap64 ((plan.length:Int)-Z1)<((List.replicate (plan.length:Int).toNat false).length:Int))/\(let y1:(List Bool):=((List.replicate (plan.length:Int).toNat false).set (wrap64 ((plan.length:Int)-Z1)).toNat true);(∃m_,True/\dX (s62_0 plan) (F.jT plan) (fun v0:Int×(List Bool)=>True) (fun e0:(List Bool)=>True->K (.own 0 none) [(0,.arr .sh Ty.bool e0)]) m_ (s62_0 plan (wrap64 ((plan.length:Int)-Z1),y1))))):=by kernel_rfl
abbrev S62l0_0 (plan:LS)  (v0:Int×(List Bool)) (m:Nat) (K:KX):Prop:=(0<=(nS plan v0.1).2.2.1)/\((nS plan v0.1).2.2.1<((v0.2.set (nS plan v0.1).2.1.toNat true).length:Int))/\(let y2:(List Bool):=((v0.2.set (nS plan v0.1).2.1.toNat true).set (nS plan v0.1).2.2.1.toNat true);(nxT (LP62_0 plan) m K (s62_0 plan (wrap64 (v0.1-Z1),y2))))
theorem lvc62_0 (plan:LS)  (v0:Int×(List Bool)) (m:Nat) (K:KX):lvT C62 (L62 plan) ann62 f62 0 0 (s62_0 plan v0) m K =
 (cond (decide (Z0<=v0.1)) ((0<=v0.1)/\(v0.1<(plan.length:Int))/\(0<=v0.1)/\(v0.1<(v0.2.length:Int))/\cond ((nth (t:=Ty.bool) v0.2 v0.1)==true) (cond (!decide ((nS plan v0.1).1=Z1)) ((0<=(nS plan v0.1).2.1)/\((nS plan v0.1).2.1<(v0.2.length:Int))/\cond ((decide ((nS plan v0.1).1=Z4))==false) (cond (decide ((nS plan v0.1).1=Z5)) (S62l0_0  plan v0 m K) (nxT (LP62_0 plan) m K (s62_0 plan (wrap64 (v0.1-Z1),(v0.2.set (nS plan v0.1).2.1.toNat true))))) (S62l0_0  plan v0 m K)) (nxT (LP62_0 plan) m K (s62_0 plan (wrap64 (v0.1-Z1),v0.2)))) (nxT (LP62_0 plan) m K (s62_0 plan (wrap64 (v0.1-Z1),v0.2)))) (K (.exit 0) (⟨[(3,.own 8 none)],[(8,.arr .sh Ty.bool v0.2)]⟩:St))):=by kernel_rfl
theorem con62_ok:bp P 62 c62:=bt C62 func62 kN fun args hp K h0=>by
 obtain⟨plan,rfl,rfl,h_plan,p0,hK⟩:=g1e h0
 have h:ok (F.sg plan) (fun r=>K (.own 0 none) [(0,.arr .sh Ty.bool r)]):=aA (F.zJ plan h_plan p0) (hK _ rfl)
 refine⟨rfl,ann62,(L62 plan),.raw,(bK (i0:=0) (by kernel_rfl) ?_),?_⟩
 ·rintro _ _ K ⟨hc0,v0,rfl,hv0,h⟩
  exact cast (lvc62_0 _ _ _ _).symm (cN h (fun m1 hm0 h=>(oC h (fun _ h=>(oG h fun g1 h=>(oG h fun _ h=>⟨g1,(oG h fun _ h=>(oC h (fun _ h=>(oC h (fun _ h=>(oG h fun _ h=>(oG h fun _ h=>(oC h (fun _ h=>(oC h (fun _ h=>(oG h fun _ h=>(oG h fun _ h=>(have h:=cJ h _ rfl;(aX (fun _ hm=>⟨hc0,hm⟩) hm0 _ rfl trivial h))))) fun _ h=>(aX (fun _ hm=>⟨hc0,hm⟩) hm0 _ rfl trivial h))) fun _ h=>(oG h fun _ h=>(oG h fun _ h=>(have h:=cJ h _ rfl;(aX (fun _ hm=>⟨hc0,hm⟩) hm0 _ rfl trivial h)))))))) fun _ h=>(aX (fun _ hm=>⟨hc0,hm⟩) hm0 _ rfl trivial h))) fun _ h=>(aX (fun _ hm=>⟨hc0,hm⟩) hm0 _ rfl trivial h)))⟩))) fun _ h=>((cu h :) trivial))))
 ·rw[vc62]
  exact⟨rfl,⟨(Int.natCast_nonneg _),⟨(Bz h_plan rfl),(oG h fun _ h=>(oG h fun _ h=>(have h:=cJ h _ rfl;(bX (fun m hm=>⟨trivial,hm⟩) _ rfl trivial (gk h (fun e0 h hv0=>h))))))⟩⟩⟩
def c170:Con:=⟨[.dat ay,.dat ay],fun args hp K=>g2 (pD ay) (pD ay) (fun x y=>K (dB (decide (x<y))) []) args hp,.plain,false⟩
abbrev C170:Ctx:=cx [(200,c200)] 17 [] 0 false
def ann170:=an [[kp 3],[kp 16]] []
theorem vc170 (x:Int) (y:Int) (K:KA):vcT C170 aC ann170 f170 [dI x,dI y] [] (.dat Ty.bool) K =
 (cond (false==true) (cond ((!false)==false) (K (dB (decide (x<y))) []) (K (dB true) [])) (K (dB (decide (x<y))) [])):=by kernel_rfl
theorem con170_ok:bp P 170 c170:=bt C170 func170 (kC con200_ok kN) fun args hp K h0=>by
 obtain⟨x,y,rfl,rfl,hK⟩:=g2e h0
 have h:ok (F.uj x y) (fun r=>K (dB r) []):=aA (F.wH x y) hK
 refine⟨rfl,ann170,aC,(.dat Ty.bool),(aH (by kernel_rfl)),?_⟩
 ·rw[vc170]
  exact(oC h (fun b_1 h=>(bG (ugt (unf (bet b_1))) h)) fun _ h=>h)
def c164:Con:=⟨[.dat ay,.dat ay],fun args hp K=>hpN 1000000 .sh ay (fun xs=>we (fun a0 a1 a2=>CZ 1000000 (xs.length:Int) a0 (eM ay a1 fun a=>eM ay a2 fun b=>(Sm (Ty.sl ay) xs)/\(a=0)/\(b=(xs.length:Int))/\(LD (M.gO xs) fun r=>K (.tup []) [(1000000,.arr .sh ay r)]))) args []) hp,.io,false⟩
abbrev C164:Ctx:=cx [(170,c170)] 49 [] 0 false
def ann164:=an [[kp 71],[kp 4167],[kp 71],[kp 199],[kp 1073742023],[kp 199],[kp 199]] [[kp 0],[],[kp 71]]
abbrev s164_0 (xs:LI) (a:Int) (b:Int) (i0:Int) (v0:LI):St:=⟨[(0,.clp 1000000 (xs.length:Int)),(1,dI a),(2,dI b),(6,dI i0)],[(1000000,.arr .sh ay v0)]⟩
abbrev LP164_0 (xs:LI) (a:Int) (b:Int) (m:Nat) (st_:St) (K:KX):Prop:=(b<=dP/\True)/\cB (s164_0 xs a b) Z0 b (F.cQ xs a b) (fun v0:LI=>True) (bn (fun v0:LI=>True->K (.exit 0) (⟨[],[(1000000,.arr .sh ay v0)]⟩:St)) (fun _=>False)) m st_
abbrev s164_2 (xs:LI) (a:Int) (b:Int) (c2_0:Int) (v2:Int×LI):St:=⟨[(0,.clp 1000000 (xs.length:Int)),(1,dI a),(2,dI b),(6,dI c2_0),(7,dI v2.1)],[(1000000,.arr .sh ay v2.2)]⟩
abbrev LP164_2 (xs:LI) (a:Int) (b:Int) (m:Nat) (st_:St) (K:KX):Prop:=∃c2_0:Int,True/\dX (s164_2 xs a b c2_0) (F.cm xs a b c2_0) (fun v2:Int×LI=>True) (fun e2:LI=>True->K (.exit 2) (⟨[(0,.clp 1000000 (xs.length:Int)),(1,dI a),(2,dI b),(6,dI c2_0)],[(1000000,.arr .sh ay e2)]⟩:St)) m st_
def L164 (xs:LI) (a:Int) (b:Int):bF:=lp2 0 (LP164_0 xs a b) 2 (LP164_2 xs a b)
theorem vc164 (xs:LI) (a:Int) (b:Int) (K:KA):vcT C164 (L164 xs a b) ann164 f164 [.clp 1000000 (xs.length:Int),dI a,dI b] [(1000000,.arr .sh ay xs)] .raw K =
 (∃m_,(b<=dP/\True)/\cB (s164_0 xs a b) Z0 b (F.cQ xs a b) (fun v0:LI=>True) (bn (fun v0:LI=>True->K (.tup []) [(1000000,.arr .sh ay v0)]) (fun _=>False)) m_ (s164_0 xs a b (wrap64 (a+Z1)) xs)):=by kernel_rfl
theorem lvc164_0 (xs:LI) (a:Int) (b:Int)  (i0:Int) (v0:LI) (m:Nat) (K:KX):lvT C164 (L164 xs a b) ann164 f164 0 0 (s164_0 xs a b i0 v0) m K =
 (cond (decide (i0<b)) (∃m_,∃c2_0:Int,True/\dX (s164_2 xs a b c2_0) (F.cm xs a b c2_0) (fun v2:Int×LI=>True) (fun e2:LI=>True->(nxT (LP164_0 xs a b) m K (s164_0 xs a b (wrap64 (c2_0+Z1)) e2))) m_ (s164_2 xs a b i0 (i0,v0))) (K (.exit 0) (⟨[],[(1000000,.arr .sh ay v0)]⟩:St))):=by kernel_rfl
abbrev S164l2_0 (xs:LI) (a:Int) (b:Int) (c2_0:Int) (v2:Int×LI) (m:Nat) (K:KX):Prop:=K (.exit 2) (⟨[(0,.clp 1000000 (xs.length:Int)),(1,dI a),(2,dI b),(6,dI c2_0)],[(1000000,.arr .sh ay v2.2)]⟩:St)
theorem lvc164_1 (xs:LI) (a:Int) (b:Int) (c2_0:Int) (v2:Int×LI) (m:Nat) (K:KX):lvT C164 (L164 xs a b) ann164 f164 1 2 (s164_2 xs a b c2_0 v2) m K =
 (cond ((decide (a<v2.1))==true) ((0<=v2.1)/\(v2.1<(xs.length:Int))/\(0<=wrap64 (v2.1-Z1))/\(wrap64 (v2.1-Z1)<(xs.length:Int))/\cond (decide ((nI v2.2 v2.1)<(nI v2.2 (wrap64 (v2.1-Z1))))) ((0<=wrap64 (v2.1-Z1))/\(wrap64 (v2.1-Z1)<(xs.length:Int))/\(0<=v2.1)/\(v2.1<(xs.length:Int))/\(0<=v2.1)/\(v2.1<(xs.length:Int))/\(0<=wrap64 (v2.1-Z1))/\(wrap64 (v2.1-Z1)<(xs.length:Int))/\(let y1:LI:=((v2.2.set v2.1.toNat (nI v2.2 (wrap64 (v2.1-Z1)))).set (wrap64 (v2.1-Z1)).toNat (nI v2.2 v2.1));(nxT (LP164_2 xs a b) m K (s164_2 xs a b c2_0 (wrap64 (v2.1-Z1),y1))))) (S164l2_0  xs a b c2_0 v2 m K)) (S164l2_0  xs a b c2_0 v2 m K)):=by kernel_rfl
theorem con164_ok:bp P 164 c164:=bt C164 func164 (kC con170_ok kN) fun args hp K h0=>by
 unfold c164 at h0
 dsimp only at h0
 obtain⟨xs,rfl,h00⟩:=qm (n:=1000000) (d:=.sh) (t:=ay) h0
 obtain⟨a0,a1,a2,rfl,_,h1⟩:=jC h00
 obtain⟨rfl,h2⟩:=sy h1
 obtain⟨a,rfl,h3⟩:=bg h2
 obtain⟨b,rfl,h4⟩:=bg h3
 obtain⟨h_xs,p0,p1,hK⟩:=h4
 have h:ok (F.gM xs a b) (fun r=>K (.tup []) [(1000000,.arr .sh ay r)]):=aA (F.oh xs a b h_xs p0 p1) (hK _ rfl)
 refine⟨rfl,ann164,(L164 xs a b),.raw,(lz (i0:=0) (i1:=2) (by kernel_rfl) ?_ ?_),?_⟩
 ·rintro _ _ K ⟨hc0,i0,v0,rfl,hl0,rfl,hv0,h⟩
  exact cast (lvc164_0 _ _ _ _ _ _ _).symm (bO h (fun ht0 h=>(bX (fun m hm=>⟨i0,trivial,hm⟩) _ rfl trivial (gk h (fun e2 h hv2=>(aV (fun _ hm=>⟨hc0,hm⟩) _ rfl hl0 iM ht0 hc0.1 trivial h))))) fun h=>(h trivial))
 ·rintro _ _ K ⟨c2_0,hc2,v2,rfl,hv2,h⟩
  exact cast (lvc164_1 _ _ _ _ _ _ _).symm (cN h (fun m1 hm2 h=>(oC h (fun _ h=>(oG h fun g1 h=>(oG h fun g2 h=>(oG h fun g3 h=>(oG h fun g4 h=>(oC h (fun _ h=>⟨g3,⟨g4,⟨g1,⟨g2,⟨g1,⟨g2,⟨g3,⟨g4,(have h:=cJ h _ rfl;(aX (fun _ hm=>⟨c2_0,hc2,hm⟩) hm2 _ rfl trivial h))⟩⟩⟩⟩⟩⟩⟩⟩) fun _ h=>((cu h :) trivial))))))) fun _ h=>((cu h :) trivial))))
 ·rw[vc164]
  exact(have hi_0:=(aB h).1;have hlo:=(aB (aB h).2).1;have h:=(aB (aB h).2).2;(bE (fun m hm=>⟨⟨hi_0,trivial⟩,hm⟩) (wrap64 (a+Z1)) _ rfl hlo trivial (aR h (fun v0 h hv0=>h) (fun _ h=>h.elim))))
def c114:Con:=⟨[.dat ay,.dat ay,.dat ay],fun args hp K=>hpN 1000000 .sh ay (fun xs=>CK (fun a0 a1 a2 a3=>CZ 1000000 (xs.length:Int) a0 (eM ay a1 fun a=>eM ay a2 fun b=>eM ay a3 fun limit=>(Sm (Ty.sl ay) xs)/\(a=0)/\(b=(xs.length:Int))/\(xs.length<=12)/\(LD (M.gO xs) fun r=>K (.tup []) [(1000000,.arr .sh ay r)]))) args []) hp,.io,false⟩
abbrev C114:Ctx:=cx [(164,c164)] 134 [] 0 false
def ann114:=an [[kp 7],[kp 7],[kp 1031],[kp 8388615],[kp 0]] [[kp 0]]
abbrev s114_0 (xs:LI) (a:Int) (b:Int) (limit:Int) (v0:Unit):St:=⟨[(0,.clp 1000000 (xs.length:Int)),(1,dI a),(2,dI b)],[(1000000,.arr .sh ay xs)]⟩
abbrev LP114_0 (xs:LI) (a:Int) (b:Int) (limit:Int) (m:Nat) (st_:St) (K:KX):Prop:=True/\dX (s114_0 xs a b limit) (F.gv xs a b limit) (fun v0:Unit=>True) (fun q0:LI=>K .ret (⟨[],[(1000000,.arr .sh ay q0)]⟩:St)) m st_
def L114 (xs:LI) (a:Int) (b:Int) (limit:Int):bF:=lp1 0 (LP114_0 xs a b limit)
theorem vc114 (xs:LI) (a:Int) (b:Int) (limit:Int) (K:KA):vcT C114 (L114 xs a b limit) ann114 (qc [(23,false)] f114) [.clp 1000000 (xs.length:Int),dI a,dI b,dI limit] [(1000000,.arr .sh ay xs)] .raw K =
 (∃m_,True/\dX (s114_0 xs a b limit) (F.gv xs a b limit) (fun v0:Unit=>True) (fun q0:LI=>K (.tup []) [(1000000,.arr .sh ay q0)]) m_ (s114_0 xs a b limit ())):=by kernel_rfl
theorem lvc114_0 (xs:LI) (a:Int) (b:Int) (limit:Int)  (v0:Unit) (m:Nat) (K:KX):lvT C114 (L114 xs a b limit) ann114 (qc [(23,false)] f114) 0 0 (s114_0 xs a b limit v0) m K =
 (cond (decide (wrap64 (b-a)<=(12:Int))) (((xs.length:Int)=(xs.length:Int))/\((xs.length:Int)=(xs.length:Int))/\(Sm (Ty.sl ay) xs)/\(a=0)/\(b=(xs.length:Int))/\(LD (M.gO xs) fun r1=>(r1.length=xs.length)/\K .ret (⟨[],[(1000000,.arr .sh ay r1)]⟩:St))) False):=by kernel_rfl
theorem con114_ok:bp P 114 c114:=EV [(23,false)] C114 func114 (kC con164_ok kN) fun args hp K h0=>by
 unfold c114 at h0
 dsimp only at h0
 obtain⟨xs,rfl,h00⟩:=qm (n:=1000000) (d:=.sh) (t:=ay) h0
 obtain⟨a0,a1,a2,a3,rfl,_,h1⟩:=sw h00
 obtain⟨rfl,h2⟩:=sy h1
 obtain⟨a,rfl,h3⟩:=bg h2
 obtain⟨b,rfl,h4⟩:=bg h3
 obtain⟨limit,rfl,h5⟩:=bg h4
 obtain⟨h_xs,p0,p1,p2,hK⟩:=h5
 have h:ok (F.mm xs a b limit) (fun r=>K (.tup []) [(1000000,.arr .sh ay r)]):=aA (F.uB xs a b limit h_xs p0 p1 p2) (hK _ rfl)
 refine⟨rfl,ann114,(L114 xs a b limit),.raw,(bK (i0:=0) (by kernel_rfl) ?_),?_⟩
 ·rintro _ _ K ⟨hc0,v0,rfl,hv0,h⟩
  exact cast (lvc114_0 _ _ _ _ _ _ _).symm (cN h (fun m1 hm0 h=>(oC h (fun _ h=>⟨rfl,⟨rfl,⟨h_xs,(oG h fun _ h=>(oG h fun _ h=>(oL h fun _ er1 h=>⟨(by rw[er1];exact(M.lF _)),h⟩)))⟩⟩⟩) fun _ h=>h)))
 ·rw[vc114]
  exact(bX (fun m hm=>⟨trivial,hm⟩) _ rfl trivial (gk h (fun q0 h=>h)))
def c174:Con:=⟨[.dat (Ty.int .u64)],fun args hp K=>g1 (pD (Ty.int .u64)) (fun x=>(0<=x)/\(x<=12)/\K (dI (M.xI x)) []) args hp,.plain,false⟩
abbrev C174:Ctx:=cx [] 25 [] 0 false
def ann174:=an [[kp 5],[kp 21],[],[],[kp 261],[],[],[kp 16389],[],[],[kp 4]] []
theorem vc174 (x:Int) (K:KA):vcT C174 aC ann174 (qc [(4,true),(8,true),(14,true)] f174) [.data (Ty.int .u64) x] [] .raw K =
 (cond (decide ((4294967296:Int)<=x)) False (cond (decide ((65536:Int)<=x)) False (cond (decide ((256:Int)<=x)) False ((0<=(x % 256))/\((x % 256)<((⟨#[0,1,2,2,3,3,3,3,4,4,4,4,4,4,4,4,5,5,5,5,5,5,5,5,5,5,5,5,5,5,5,5,6,6,6,6,6,6,6,6,6,6,6,6,6,6,6,6,6,6,6,6,6,6,6,6,6,6,6,6,6,6,6,6,7,7,7,7,7,7,7,7,7,7,7,7,7,7,7,7,7,7,7,7,7,7,7,7,7,7,7,7,7,7,7,7,7,7,7,7,7,7,7,7,7,7,7,7,7,7,7,7,7,7,7,7,7,7,7,7,7,7,7,7,7,7,7,7,8,8,8,8,8,8,8,8,8,8,8,8,8,8,8,8,8,8,8,8,8,8,8,8,8,8,8,8,8,8,8,8,8,8,8,8,8,8,8,8,8,8,8,8,8,8,8,8,8,8,8,8,8,8,8,8,8,8,8,8,8,8,8,8,8,8,8,8,8,8,8,8,8,8,8,8,8,8,8,8,8,8,8,8,8,8,8,8,8,8,8,8,8,8,8,8,8,8,8,8,8,8,8,8,8,8,8,8,8,8,8,8,8,8,8,8,8,8,8,8,8,8,8,8,8,8,8,8]⟩:ByteArray).size:Int))/\K (dI (wrap64 (Z0+wrap64 (((⟨#[0,1,2,2,3,3,3,3,4,4,4,4,4,4,4,4,5,5,5,5,5,5,5,5,5,5,5,5,5,5,5,5,6,6,6,6,6,6,6,6,6,6,6,6,6,6,6,6,6,6,6,6,6,6,6,6,6,6,6,6,6,6,6,6,7,7,7,7,7,7,7,7,7,7,7,7,7,7,7,7,7,7,7,7,7,7,7,7,7,7,7,7,7,7,7,7,7,7,7,7,7,7,7,7,7,7,7,7,7,7,7,7,7,7,7,7,7,7,7,7,7,7,7,7,7,7,7,7,8,8,8,8,8,8,8,8,8,8,8,8,8,8,8,8,8,8,8,8,8,8,8,8,8,8,8,8,8,8,8,8,8,8,8,8,8,8,8,8,8,8,8,8,8,8,8,8,8,8,8,8,8,8,8,8,8,8,8,8,8,8,8,8,8,8,8,8,8,8,8,8,8,8,8,8,8,8,8,8,8,8,8,8,8,8,8,8,8,8,8,8,8,8,8,8,8,8,8,8,8,8,8,8,8,8,8,8,8,8,8,8,8,8,8,8,8,8,8,8,8,8,8,8,8,8,8,8]⟩:ByteArray).get! (x % 256).toNat).toNat:Int)))) [])))):=by kernel_rfl
theorem con174_ok:bp P 174 c174:=EV [(4,true),(8,true),(14,true)] C174 func174 kN fun args hp K h0=>by
 obtain⟨x,rfl,rfl,p0,p1,hK⟩:=g1e h0
 have h:ok (F.mb x) (fun r=>K (dI r) []):=aA (F.zU x p0 p1) hK
 refine⟨rfl,ann174,aC,.raw,(aH (by kernel_rfl)),?_⟩
 ·rw[vc174]
  exact(oC h (fun _ h=>h) fun _ h=>(oC h (fun _ h=>h) fun _ h=>(oC h (fun _ h=>h) fun _ h=>(oG h fun _ h=>(oG h fun _ h=>h)))))
def c115:Con:=⟨[.dat (Ty.int .u64)],fun args hp K=>g1 (pD (Ty.int .u64)) (fun x=>(0<=x)/\(x<=12)/\K (dI (M.xI x)) []) args hp,.plain,false⟩
abbrev C115:Ctx:=cx [(174,c174)] 8 [] 0 false
def ann115:=an [[kp 1],[kp 4],[kp 4]] []
theorem vc115 (x:Int) (K:KA):vcT C115 aC ann115 f115 [.data (Ty.int .u64) x] [] .raw K =
 ((0<=x)/\(x<=12)/\K (dI (M.xI x)) []):=by kernel_rfl
theorem con115_ok:bp P 115 c115:=bt C115 func115 (kC con174_ok kN) fun args hp K h0=>by
 obtain⟨x,rfl,rfl,p0,p1,hK⟩:=g1e h0
 have h:ok (F.Du x) (fun r=>K (dI r) []):=aA (F.Cr x p0 p1) hK
 refine⟨rfl,ann115,aC,.raw,(aH (by kernel_rfl)),?_⟩
 ·rw[vc115]
  exact⟨p0,⟨p1,h⟩⟩
def c63:Con:=⟨[],fun args hp K=>hpN 1000000 .sh ay (fun xs=>args1 (fun a0=>CZ 1000000 (xs.length:Int) a0 ((Sm (Ty.sl ay) xs)/\(xs.length<=12)/\(LD (M.gO xs) fun r=>K (.tup []) [(1000000,.arr .sh ay r)]))) args []) hp,.io,false⟩
abbrev C63:Ctx:=cx [(114,c114),(115,c115)] 11 [] 0 false
def ann63:=an [[kp 5],[kp 0]] []
theorem vc63 (xs:LI) (K:KA):vcT C63 aC ann63 f63 [.clp 1000000 (xs.length:Int)] [(1000000,.arr .sh ay xs)] .raw K =
 ((0<=(mJ .u64 (xs.length:Int)))/\((mJ .u64 (xs.length:Int))<=12)/\((xs.length:Int)=(xs.length:Int))/\((xs.length:Int)=(xs.length:Int))/\(Sm (Ty.sl ay) xs)/\(Z0=0)/\((xs.length:Int)=(xs.length:Int))/\(xs.length<=12)/\(LD (M.gO xs) fun r1=>(r1.length=xs.length)/\K (.tup []) [(1000000,.arr .sh ay r1)])):=by kernel_rfl
theorem con63_ok:bp P 63 c63:=bt C63 func63 (kC con114_ok (kC con115_ok kN)) fun args hp K h0=>by
 unfold c63 at h0
 dsimp only at h0
 obtain⟨xs,rfl,h00⟩:=qm (n:=1000000) (d:=.sh) (t:=ay) h0
 obtain⟨a0,rfl,_,h1⟩:=sP h00
 obtain⟨rfl,h2⟩:=sy h1
 obtain⟨h_xs,p0,hK⟩:=h2
 have h:ok (F.qC xs) (fun r=>K (.tup []) [(1000000,.arr .sh ay r)]):=aA (F.xX xs h_xs p0) (hK _ rfl)
 refine⟨rfl,ann63,aC,.raw,(aH (by kernel_rfl)),?_⟩
 ·rw[vc63]
  exact(oG h fun _ h=>(oG h fun _ h=>⟨rfl,⟨rfl,⟨h_xs,(oG h fun _ h=>(oG h fun _ h=>⟨p0,(oL h fun _ er1 h=>⟨(by rw[er1];exact(M.lF _)),h⟩)⟩))⟩⟩⟩))
abbrev C116:Ctx:=cx [] 9 [] 400000 true
def T116:Inl:=BM C116 (fun _=>[]) (eZ f116) f116.results.toList
theorem inlOk116:BZ P 116 T116:=GQ C116 func116 kN
def c64:Con:=⟨[.dat (Ty.sl ay)],fun args hp K=>g1 (pD (Ty.sl ay)) (fun xs=>(Sm (Ty.sl ay) xs)/\(LD xs fun r=>K (.clp 0 (r.length:Int)) [(0,.arr .sh ay r)])) args hp,.bor,false⟩
abbrev C64:Ctx:=cx [] 9 [(116,T116)] 0 true
def ann64:=an [[kp 1],[kp 33],[.clip 2,kp 4],[kp 4]] []
theorem vc64 (xs:LI) (K:KA):vcT C64 aC ann64 f64 [.data (Ty.sl ay) xs] [] .raw K =
 (cond (decide ((xs.length:Int)=Z0)) (K (.clp 0 (([]:List ay.D).length:Int)) [(0,.arr .sh ay ([]:List ay.D))]) ((xs.length * 8<=lim)/\(0<=Z0)/\(Z0<=(xs.length:Int))/\((xs.length:Int)<=(xs.length:Int))/\((xs.length:Int)=(xs.length:Int))/\(Z0=0)/\K (.clp 0 ((xs.take (xs.length:Int).toNat).length:Int)) [(0,.arr .sh ay (xs.take (xs.length:Int).toNat))])):=by kernel_rfl
theorem con64_ok:bp P 64 c64:=bt C64 func64 (kI inlOk116 kN) fun args hp K h0=>by
 obtain⟨xs,rfl,rfl,h_xs,hK⟩:=g1e h0
 have h:ok (F.tP xs) (fun r=>K (.clp 0 (r.length:Int)) [(0,.arr .sh ay r)]):=aA (F.wT xs h_xs) (hK _ rfl)
 refine⟨rfl,ann64,aC,.raw,(aH (by kernel_rfl)),?_⟩
 ·rw[vc64]
  exact(oC h (fun _ h=>h) fun _ h=>⟨(Ba h_xs rfl),⟨(Int.natCast_nonneg 0),⟨(Int.natCast_nonneg _),⟨(Int.le_refl _),⟨rfl,⟨rfl,h⟩⟩⟩⟩⟩⟩)
def c65:Con:=⟨[.mv],fun args hp K=>hpN 0 .sh ay (fun xs=>args1 (fun a0=>EB 0 a0 ((Sm (Ty.sl ay) xs)/\(LD (M.cD xs) fun r=>K (.own 0 none) [(0,.arr .sh ay r)]))) args []) hp,.mv,false⟩
abbrev C65:Ctx:=cx [] 61 [] 0 false
def ann65:=an [[kp 1],[kp 257],[kp 4],[kp 9],[kp 8201],[kp 9],[kp 33554441],[kp 25],[kp 57],[kp 4294967353],[kp 57],[kp 17592186044473],[kp 57],[kp 57],[kp 9],[kp 4],[kp 4]] [[kp 1],[],[kp 9]]
abbrev s65_0 (xs:LI) (i0:Int) (v0:Unit):St:=⟨[(0,.own 0 none),(3,dI i0)],[(0,.arr .sh ay xs)]⟩
abbrev LP65_0 (xs:LI) (m:Nat) (st_:St) (K:KX):Prop:=True/\cB (s65_0 xs) Z0 (xs.length:Int) (F.dN xs) (fun v0:Unit=>True) (bn (fun v0:Unit=>True->K (.exit 0) (⟨[(0,.own 0 none)],[(0,.arr .sh ay xs)]⟩:St)) (fun q0:Int×LI=>K .ret (⟨[(2,.own 0 (some (Z0,q0.1)))],[(0,.arr .sh ay q0.2)]⟩:St))) m st_
abbrev s65_2 (xs:LI) (c2_0:Int) (i2:Int) (v2:Int×LI):St:=⟨[(0,.own 0 none),(3,dI v2.1),(4,.own 0 (some (c2_0,(xs.length:Int)))),(5,dI i2)],[(0,.arr .sh ay v2.2)]⟩
abbrev LP65_2 (xs:LI) (m:Nat) (st_:St) (K:KX):Prop:=∃c2_0:Int,(((xs.length:Int)-Z1)<=dP/\((xs.length:Int)-c2_0)<=dP/\True)/\cB (s65_2 xs c2_0) Z0 ((xs.length:Int)-c2_0) (F.eV xs c2_0) (fun v2:Int×LI=>True) (bn (fun v2:Int×LI=>True->K (.exit 2) (⟨[(0,.own 0 none),(3,dI v2.1)],[(0,.arr .sh ay v2.2)]⟩:St)) (fun _=>False)) m st_
def L65 (xs:LI):bF:=lp2 0 (LP65_0 xs) 2 (LP65_2 xs)
theorem vc65 (xs:LI) (K:KA):vcT C65 (L65 xs) ann65 f65 [.own 0 none] [(0,.arr .sh ay xs)] .raw K =
 (cond (decide ((xs.length:Int)<Z2)) (K (.own 0 none) [(0,.arr .sh ay xs)]) (∃m_,True/\cB (s65_0 xs) Z0 (xs.length:Int) (F.dN xs) (fun v0:Unit=>True) (bn (fun v0:Unit=>True->K (.own 0 none) [(0,.arr .sh ay xs)]) (fun q0:Int×LI=>(Z0=0)/\K (.own 0 none) [(0,.arr .sh ay (q0.2.take q0.1.toNat))])) m_ (s65_0 xs Z1 ()))):=by kernel_rfl
theorem lvc65_0 (xs:LI)  (i0:Int) (v0:Unit) (m:Nat) (K:KX):lvT C65 (L65 xs) ann65 f65 0 0 (s65_0 xs i0 v0) m K =
 (cond (decide (i0<(xs.length:Int))) ((0<=i0)/\(i0<(xs.length:Int))/\(0<=wrap64 (i0-Z1))/\(wrap64 (i0-Z1)<(xs.length:Int))/\cond (decide ((nI xs i0)=(nI xs (wrap64 (i0-Z1))))) ((0<=i0)/\(i0<=(xs.length:Int))/\((xs.length:Int)<=(xs.length:Int))/\((xs.length:Int)=(xs.length:Int))/\(∃m_,∃c2_0:Int,(((xs.length:Int)-Z1)<=dP/\((xs.length:Int)-c2_0)<=dP/\True)/\cB (s65_2 xs c2_0) Z0 ((xs.length:Int)-c2_0) (F.eV xs c2_0) (fun v2:Int×LI=>True) (bn (fun v2:Int×LI=>True->(0<=v2.1)/\(v2.1<=(v2.2.length:Int))/\((v2.2.length:Int)<=(v2.2.length:Int))/\((v2.2.length:Int)=(v2.2.length:Int))/\(0<=Z0)/\(Z0<=v2.1)/\(v2.1<=((v2.2.take v2.1.toNat++(List.replicate ((v2.2.length:Int)-v2.1).toNat Z0++v2.2.drop (v2.2.length:Int).toNat)).length:Int))/\(v2.1=v2.1)/\K .ret (⟨[(2,.own 0 (some (Z0,v2.1)))],[(0,.arr .sh ay (v2.2.take v2.1.toNat++(List.replicate ((v2.2.length:Int)-v2.1).toNat Z0++v2.2.drop (v2.2.length:Int).toNat)))]⟩:St)) (fun _=>False)) m_ (s65_2 xs i0 Z1 (i0,xs)))) (nxT (LP65_0 xs) m K (s65_0 xs (wrap64 (i0+Z1)) ()))) (K (.exit 0) (⟨[(0,.own 0 none)],[(0,.arr .sh ay xs)]⟩:St))):=by kernel_rfl
theorem lvc65_1 (xs:LI) (c2_0:Int) (i2:Int) (v2:Int×LI) (m:Nat) (K:KX):lvT C65 (L65 xs) ann65 f65 1 2 (s65_2 xs c2_0 i2 v2) m K =
 (cond (decide (i2<((xs.length:Int)-c2_0))) ((0<=i2)/\(i2<(xs.length:Int)-c2_0)/\(0<=wrap64 (i2-Z1))/\(wrap64 (i2-Z1)<(xs.length:Int)-c2_0)/\cond (!decide ((nI v2.2 (c2_0+i2))=(nI v2.2 (c2_0+wrap64 (i2-Z1))))) ((0<=i2)/\(i2<(xs.length:Int)-c2_0)/\(0<=v2.1)/\(v2.1<(v2.2.length:Int))/\(nxT (LP65_2 xs) m K (s65_2 xs c2_0 (wrap64 (i2+Z1)) (wrap64 (v2.1+Z1),(v2.2.set v2.1.toNat (nI v2.2 (c2_0+i2))))))) (nxT (LP65_2 xs) m K (s65_2 xs c2_0 (wrap64 (i2+Z1)) (v2.1,v2.2)))) (K (.exit 2) (⟨[(0,.own 0 none),(3,dI v2.1)],[(0,.arr .sh ay v2.2)]⟩:St))):=by kernel_rfl
theorem con65_ok:bp P 65 c65:=bt C65 func65 kN fun args hp K h0=>by
 unfold c65 at h0
 dsimp only at h0
 obtain⟨xs,rfl,h00⟩:=qm (n:=0) (d:=.sh) (t:=ay) h0
 obtain⟨a0,rfl,_,h1⟩:=sP h00
 obtain⟨rfl,h2⟩:=xG h1
 obtain⟨h_xs,hK⟩:=h2
 have h:ok (F.ju xs) (fun r=>K (.own 0 none) [(0,.arr .sh ay r)]):=aA (F.uA xs h_xs) (hK _ rfl)
 refine⟨rfl,ann65,(L65 xs),.raw,(lz (i0:=0) (i1:=2) (by kernel_rfl) ?_ ?_),?_⟩
 ·rintro _ _ K ⟨hc0,i0,v0,rfl,hl0,rfl,hv0,h⟩
  exact cast (lvc65_0 _ _ _ _ _).symm (bO h (fun ht0 h=>⟨hl0,⟨ht0,(oG h fun _ h=>(oG h fun _ h=>(oC h (fun _ h=>⟨hl0,(oG h fun _ h=>⟨(Int.le_refl _),⟨rfl,(have hi_0:=(aB h).1;have hi_1:=(aB (aB h).2).1;have h:=(aB (aB h).2).2;(bE (fun m hm=>⟨i0,⟨hi_0,hi_1,trivial⟩,hm⟩) Z1 _ rfl (Int.natCast_nonneg 1) trivial (aR h (fun v2 h hv2=>(oG h fun _ h=>(oG h fun _ h=>⟨(Int.le_refl _),⟨rfl,⟨(Int.natCast_nonneg 0),(oG h fun _ h=>(oG h fun _ h=>⟨rfl,h⟩))⟩⟩⟩))) (fun _ h=>h.elim))))⟩⟩)⟩) fun _ h=>(aV (fun _ hm=>⟨hc0,hm⟩) _ rfl hl0 iM ht0 (bD h_xs) trivial h))))⟩⟩) fun h=>(h trivial))
 ·rintro _ _ K ⟨c2_0,hc2,i2,v2,rfl,hl2,rfl,hv2,h⟩
  exact cast (lvc65_1 _ _ _ _ _ _).symm (bO h (fun ht2 h=>⟨hl2,(oG h fun g1 h=>(oG h fun _ h=>(oG h fun _ h=>(oC h (fun _ h=>⟨hl2,⟨g1,(oG h fun _ h=>(oG h fun _ h=>(aV (fun _ hm=>⟨c2_0,hc2,hm⟩) _ rfl hl2 iM ht2 hc2.2.1 trivial h)))⟩⟩) fun _ h=>(aV (fun _ hm=>⟨c2_0,hc2,hm⟩) _ rfl hl2 iM ht2 hc2.2.1 trivial h)))))⟩) fun h=>(h trivial))
 ·rw[vc65]
  exact(oC h (fun _ h=>h) fun _ h=>(bE (fun m hm=>⟨trivial,hm⟩) Z1 _ rfl (Int.natCast_nonneg 1) trivial (aR h (fun v0 h hv0=>h) (fun q0 h=>⟨rfl,h⟩))))
def c24:Con:=⟨[.dat TTb,.dat TSS],fun args hp K=>g2 (pD TTb) (pD TSS) (fun tables plan=>(Sm TTb tables)/\(Sm TSS plan)/\(LD (M.br tables plan) fun r=>K (.clp 0 (r.length:Int)) [(0,.arr .sh ay r)])) args hp,.bor,false⟩
abbrev C24:Ctx:=cx [(20,c20),(62,c62),(63,c63),(64,c64),(65,c65)] 43 [] 0 true
def ann24:=an [[kp 3],[kp 2050],[.clip 4,kp 16],[kp 34],[kp 57378],[kp 122914],[kp 57570],[kp 268492898],[kp 57378],[kp 57378],[kp 32],[kp 16]] [[kp 32]]
abbrev s24_0 (tables:LTb) (plan:LS) (c0_0:Int) (c0_1:(List Bool)) (i0:Int) (v0:LI):St:=⟨[(1,.data TSS plan),(5,.own 5 none),(13,.own 13 none),(14,dI c0_0),(15,dI i0)],[(5,.arr .sh ay v0),(13,.arr .sh Ty.bool c0_1)]⟩
abbrev LP24_0 (tables:LTb) (plan:LS) (m:Nat) (st_:St) (K:KX):Prop:=∃c0_0:Int,∃c0_1:(List Bool),(c0_0<=dP/\True)/\cB (s24_0 tables plan c0_0 c0_1) Z0 c0_0 (F.fK tables plan c0_0 c0_1) (fun v0:LI=>True) (bn (fun v0:LI=>True->K (.exit 0) (⟨[(5,.own 5 none)],[(5,.arr .sh ay v0)]⟩:St)) (fun _=>False)) m st_
def L24 (tables:LTb) (plan:LS):bF:=lp1 0 (LP24_0 tables plan)
theorem vc24 (tables:LTb) (plan:LS) (K:KA):vcT C24 (L24 tables plan) ann24 f24 [.data TTb tables,.data TSS plan] [] .raw K =
 ((Sm TTb tables)/\(Sm TSS plan)/\cond (!(M.bQ tables plan)) (K (.clp 0 (([]:List ay.D).length:Int)) [(0,.arr .sh ay ([]:List ay.D))]) ((Sm TSS plan)/\(M.ng plan)/\(LD (M.jm plan) fun r1=>(∃m_,∃c0_0:Int,∃c0_1:(List Bool),(c0_0<=dP/\True)/\cB (s24_0 tables plan c0_0 c0_1) Z0 c0_0 (F.fK tables plan c0_0 c0_1) (fun v0:LI=>True) (bn (fun v0:LI=>True->((v0.length:Int)=(v0.length:Int))/\(Sm (Ty.sl ay) v0)/\(v0.length<=12)/\(LD (M.gO v0) fun r2=>(r2.length=v0.length)/\(Sm (Ty.sl ay) r2)/\(LD (M.cD r2) fun r3=>(Sm (Ty.sl ay) r3)/\(LD r3 fun r4=>K (.clp 0 ((r4.take (r4.length:Int).toNat).length:Int)) [(0,.arr .sh ay (r4.take (r4.length:Int).toNat))])))) (fun _=>False)) m_ (s24_0 tables plan (r1.length:Int) r1 Z0 []))))):=by kernel_rfl
theorem lvc24_0 (tables:LTb) (plan:LS) (c0_0:Int) (c0_1:(List Bool)) (i0:Int) (v0:LI) (m:Nat) (K:KX):lvT C24 (L24 tables plan) ann24 f24 0 0 (s24_0 tables plan c0_0 c0_1 i0 v0) m K =
 (cond (decide (i0<c0_0)) ((0<=i0)/\(i0<(c0_1.length:Int))/\cond ((nth (t:=Ty.bool) c0_1 i0)==true) ((0<=i0)/\(i0<(plan.length:Int))/\cond (decide ((nS plan i0).1=Z1)) ((0<=i0)/\(i0<(plan.length:Int))/\((v0.length+[(nS plan i0).2.2.2.1].length) * 8<=lim)/\(nxT (LP24_0 tables plan) m K (s24_0 tables plan c0_0 c0_1 (wrap64 (i0+Z1)) (v0++[(nS plan i0).2.2.2.1])))) (nxT (LP24_0 tables plan) m K (s24_0 tables plan c0_0 c0_1 (wrap64 (i0+Z1)) v0))) (nxT (LP24_0 tables plan) m K (s24_0 tables plan c0_0 c0_1 (wrap64 (i0+Z1)) v0))) (K (.exit 0) (⟨[(5,.own 5 none)],[(5,.arr .sh ay v0)]⟩:St))):=by kernel_rfl
theorem con24_ok:bp P 24 c24:=bt C24 func24 (kC con20_ok (kC con62_ok (kC con63_ok (kC con64_ok (kC con65_ok kN))))) fun args hp K h0=>by
 obtain⟨tables,plan,rfl,rfl,h_tables,h_plan,hK⟩:=g2e h0
 have h:ok (F.kV tables plan) (fun r=>K (.clp 0 (r.length:Int)) [(0,.arr .sh ay r)]):=aA (F.sE tables plan h_tables h_plan) (hK _ rfl)
 refine⟨rfl,ann24,(L24 tables plan),.raw,(bK (i0:=0) (by kernel_rfl) ?_),?_⟩
 ·rintro _ _ K ⟨c0_0,c0_1,hc0,i0,v0,rfl,hl0,rfl,hv0,h⟩
  exact cast (lvc24_0 _ _ _ _ _ _ _ _).symm (bO h (fun ht0 h=>⟨hl0,(oG h fun _ h=>(oC h (fun _ h=>⟨hl0,(oG h fun g1 h=>(oC h (fun _ h=>⟨hl0,⟨g1,(oG h fun _ h=>(aV (fun _ hm=>⟨c0_0,c0_1,hc0,hm⟩) _ rfl hl0 iM ht0 hc0.1 trivial h))⟩⟩) fun _ h=>(aV (fun _ hm=>⟨c0_0,c0_1,hc0,hm⟩) _ rfl hl0 iM ht0 hc0.1 trivial h)))⟩) fun _ h=>(aV (fun _ hm=>⟨c0_0,c0_1,hc0,hm⟩) _ rfl hl0 iM ht0 hc0.1 trivial h)))⟩) fun h=>(h trivial))
 ·rw[vc24]
  exact⟨h_tables,⟨h_plan,(oC h (fun _ h=>h) fun _ h=>⟨h_plan,(oG h fun _ h=>(oL h fun r1 _ h=>(have hi_0:=(aB h).1;have h:=(aB h).2;(bE (fun m hm=>⟨(r1.length:Int),r1,⟨hi_0,trivial⟩,hm⟩) Z0 _ rfl (Int.natCast_nonneg 0) trivial (aR h (fun v0 h hv0=>⟨rfl,(oG h fun _ h=>(oG h fun _ h=>(oL h fun _ er2 h=>⟨(by rw[er2];exact(M.lF _)),(oG h fun _ h=>(oL h fun _ _ h=>(oG h fun _ h=>(oL h fun _ _ h=>h))))⟩)))⟩) (fun _ h=>h.elim))))))⟩)⟩⟩
abbrev C39:Ctx:=cx [] 11 [] 200000 false
def T39:Inl:=BM C39 (fun _=>[]) (eZ f39) f39.results.toList
theorem inlOk39:BZ P 39 T39:=GQ C39 func39 kN
def c41:Con:=⟨[.any,.dat ay],fun args hp K=>hpR (fun b p=>args2 (fun a0 a1=>mS a0 (eM ay a1 fun n=>(Sm TBy b)/\(M.ax b)/\(0<=p)/\(p<=1000000000000000)/\(LD (M.pick b p n) fun r=>K (dI r.1) [(1000000,.box [.data TBy b,dI r.2])]))) args []) hp,.plain,true⟩
abbrev C41:Ctx:=cx [] 99 [] 0 false
def ann41:=an [[kp 3],[kp 3],[kp 16777219],[kp 16],[kp 35],[kp 68719476771],[kp 16],[kp 66],[kp 66],[kp 16]] []
abbrev S41_0 (b:LI) (p:Int) (n:Int) (K:KA):Prop:=K (dI Z0) [(1000000,.box [.data TBy b,dI (wrap64 (p+Z1))])]
abbrev S41_1 (b:LI) (p:Int) (n:Int) (K:KA):Prop:=((64:Int)≠0)/\(n≠0)/\K (dI ((mM .xor .i64 (wrap64 (wrap64 (wrap64 (wrap64 ((wrap64 (nth (t:=(Ty.int .u8)) b ((wrap64 (wrap64 (p+Z1)-Z1)).tmod (b.length:Int)))) * (131:Int))+wrap64 ((wrap64 (nth (t:=(Ty.int .u8)) b ((wrap64 (wrap64 ((wrap64 (wrap64 (p+Z1)-Z1)) * (7:Int))+Z3)).tmod (b.length:Int)))) * (1117:Int)))+wrap64 ((wrap64 (wrap64 (p+Z1)-Z1)) * (29:Int)))+wrap64 ((wrap64 ((wrap64 (wrap64 (p+Z1)-Z1)).tdiv (b.length:Int))) * (53:Int)))) (wrap64 ((wrap64 (wrap64 (wrap64 (wrap64 ((wrap64 (nth (t:=(Ty.int .u8)) b ((wrap64 (wrap64 (p+Z1)-Z1)).tmod (b.length:Int)))) * (131:Int))+wrap64 ((wrap64 (nth (t:=(Ty.int .u8)) b ((wrap64 (wrap64 ((wrap64 (wrap64 (p+Z1)-Z1)) * (7:Int))+Z3)).tmod (b.length:Int)))) * (1117:Int)))+wrap64 ((wrap64 (wrap64 (p+Z1)-Z1)) * (29:Int)))+wrap64 ((wrap64 ((wrap64 (wrap64 (p+Z1)-Z1)).tdiv (b.length:Int))) * (53:Int)))).tdiv (64:Int)))).tmod n)) [(1000000,.box [.data TBy b,dI (wrap64 (p+Z1))])]
abbrev S41_2 (b:LI) (p:Int) (n:Int) (K:KA):Prop:=(S41_1 b p n K)
theorem vc41 (b:LI) (p:Int) (n:Int) (K:KA):vcT C41 aC ann41 f41 [.ptr 1000000 0,dI n] [(1000000,.box [.data TBy b,dI p])] (.dat ay) K =
 (cond ((decide (n<Z1))==false) (cond (decide ((b.length:Int)=Z0)) (S41_0 b p n K) (cond (decide (wrap64 (wrap64 (p+Z1)-Z1)<(b.length:Int))) ((0<=wrap64 (wrap64 (p+Z1)-Z1))/\(wrap64 (wrap64 (p+Z1)-Z1)<(b.length:Int))/\(n≠0)/\K (dI ((wrap64 (nth (t:=(Ty.int .u8)) b (wrap64 (wrap64 (p+Z1)-Z1)))).tmod n)) [(1000000,.box [.data TBy b,dI (wrap64 (p+Z1))])]) (((b.length:Int)≠0)/\(0<=((wrap64 (wrap64 (p+Z1)-Z1)).tmod (b.length:Int)))/\(((wrap64 (wrap64 (p+Z1)-Z1)).tmod (b.length:Int))<(b.length:Int))/\((b.length:Int)≠0)/\(0<=((wrap64 (wrap64 ((wrap64 (wrap64 (p+Z1)-Z1)) * (7:Int))+Z3)).tmod (b.length:Int)))/\(((wrap64 (wrap64 ((wrap64 (wrap64 (p+Z1)-Z1)) * (7:Int))+Z3)).tmod (b.length:Int))<(b.length:Int))/\((b.length:Int)≠0)/\Q0 (S41_2 b p n K)))) (S41_0 b p n K)):=by kernel_rfl
theorem con41_ok:bp P 41 c41:=bt C41 func41 kN fun args hp K h0=>by
 unfold c41 at h0
 dsimp only at h0
 obtain⟨b,p,rfl,h00⟩:=fq h0
 obtain⟨a0,a1,rfl,_,h1⟩:=bP h00
 obtain⟨rfl,h2⟩:=dw h1
 obtain⟨n,rfl,h3⟩:=bg h2
 obtain⟨h_b,p0,p1,p2,hK⟩:=h3
 have h:ok (F.od b p n) (fun r=>K (dI r.1) [(1000000,.box [.data TBy b,dI r.2])]):=aA (F.Bm b p n h_b p0 p1 p2) (hK _ rfl)
 refine⟨rfl,ann41,aC,(.dat ay),(aH (by kernel_rfl)),?_⟩
 ·rw[vc41]
  exact(oC h (fun _ h=>(oC h (fun _ h=>h) fun _ h=>(oC h (fun _ h=>(oG h fun _ h=>(oG h fun _ h=>(oG h fun _ h=>h)))) fun _ h=>(oG h fun g1 h=>(oG h fun _ h=>(oG h fun _ h=>⟨g1,(oG h fun _ h=>(oG h fun _ h=>⟨g1,(q0 (⟨(by decide),(oG h fun _ h=>h)⟩))⟩))⟩)))))) fun _ h=>h)
def c106:Con:=⟨[.any,.dat ay],fun args hp K=>hpR (fun b p=>args2 (fun a0 a1=>mS a0 (eM ay a1 fun n=>(Sm TBy b)/\(M.ax b)/\(0<=p)/\(p<=999000000000000)/\(LD (M.odd b p n) fun r=>K (dB r.1) [(1000000,.box [.data TBy b,dI r.2])]))) args []) hp,.plain,true⟩
abbrev C106:Ctx:=cx [(41,c41)] 15 [] 0 false
def ann106:=an [[kp 3],[kp 16]] []
theorem vc106 (b:LI) (p:Int) (n:Int) (K:KA):vcT C106 aC ann106 f106 [.ptr 1000000 0,dI n] [(1000000,.box [.data TBy b,dI p])] (.dat Ty.bool) K =
 (cond ((decide (Z0<n))==true) ((Sm TBy b)/\(M.ax b)/\(0<=p)/\(p<=1000000000000000)/\(LD (M.pick b p n) fun r1=>K (dB (decide (r1.1=wrap64 (n-Z1)))) [(1000000,.box [.data TBy b,dI r1.2])])) (K (dB false) [(1000000,.box [.data TBy b,dI p])])):=by kernel_rfl
theorem con106_ok:bp P 106 c106:=bt C106 func106 (kC con41_ok kN) fun args hp K h0=>by
 unfold c106 at h0
 dsimp only at h0
 obtain⟨b,p,rfl,h00⟩:=fq h0
 obtain⟨a0,a1,rfl,_,h1⟩:=bP h00
 obtain⟨rfl,h2⟩:=dw h1
 obtain⟨n,rfl,h3⟩:=bg h2
 obtain⟨h_b,p0,p1,p2,hK⟩:=h3
 have h:ok (F.qR b p n) (fun r=>K (dB r.1) [(1000000,.box [.data TBy b,dI r.2])]):=aA (F.Dt b p n h_b p0 p1 p2) (hK _ rfl)
 refine⟨rfl,ann106,aC,(.dat Ty.bool),(aH (by kernel_rfl)),?_⟩
 ·rw[vc106]
  exact(oC h (fun _ h=>⟨h_b,⟨p0,⟨p1,(oG h fun _ h=>(oL h fun _ _ h=>h))⟩⟩⟩) fun _ h=>h)
def c88:Con:=⟨[.any,.dat ay],fun args hp K=>hpR (fun b p=>args2 (fun a0 a1=>mS a0 (eM ay a1 fun n=>(Sm TBy b)/\(M.ax b)/\(0<=p)/\(p<=998000000000000)/\(LD (M.fI b p n) fun r=>K (.own 0 none) [(0,.arr .sh ag r.1),(1000000,.box [.data TBy b,dI r.2])]))) args []) hp,.plain,true⟩
abbrev C88:Ctx:=cx [(41,c41),(106,c106)] 40 [] 0 false
def ann88:=an [[kp 3],[kp 35],[kp 99],[kp 4195],[kp 99],[kp 99],[kp 536870945],[kp 32],[kp 16]] [[kp 35]]
abbrev s88_0 (b:LI) (p:Int) (n:Int) (v0:Int×Int×LC):St:=⟨[(0,.ptr 1000000 0),(1,dI n),(5,.own 7 none),(6,dI v0.1)],[(1000000,.box [.data TBy b,dI v0.2.1]),(7,.arr .sh ag v0.2.2)]⟩
abbrev LP88_0 (b:LI) (p:Int) (n:Int) (m:Nat) (st_:St) (K:KX):Prop:=True/\dX (s88_0 b p n) (F.fH b p n) (fun v0:Int×Int×LC=>True) (fun e0:Int×LC=>True->K (.exit 0) (⟨[(0,.ptr 1000000 0),(1,dI n),(5,.own 7 none)],[(1000000,.box [.data TBy b,dI e0.1]),(7,.arr .sh ag e0.2)]⟩:St)) m st_
def L88 (b:LI) (p:Int) (n:Int):bF:=lp1 0 (LP88_0 b p n)
theorem vc88 (b:LI) (p:Int) (n:Int) (K:KA):vcT C88 (L88 b p n) ann88 f88 [.ptr 1000000 0,dI n] [(1000000,.box [.data TBy b,dI p])] .raw K =
 ((Sm TBy b)/\(M.ax b)/\(0<=p)/\(p<=1000000000000000)/\(LD (M.pick b p Z3) fun r1=>(∃m_,True/\dX (s88_0 b p n) (F.fH b p n) (fun v0:Int×Int×LC=>True) (fun e0:Int×LC=>True->(Sm TBy b)/\(M.ax b)/\(0<=e0.1)/\(e0.1<=999000000000000)/\(LD (M.odd b e0.1 n) fun r2=>cond r2.1 ((Sm TBy b)/\(M.ax b)/\(0<=r2.2)/\(r2.2<=1000000000000000)/\(LD (M.pick b r2.2 Z6) fun r3=>((e0.2.length+[(wrap64 (r3.1-Z1),(false,())),(Z1,(false,())),(Z1,(false,()))].length) * 16<=lim)/\K (.own 0 none) [(0,.arr .sh ag (e0.2++[(wrap64 (r3.1-Z1),(false,())),(Z1,(false,())),(Z1,(false,()))])),(1000000,.box [.data TBy b,dI r3.2])])) (K (.own 0 none) [(0,.arr .sh ag e0.2),(1000000,.box [.data TBy b,dI r2.2])]))) m_ (s88_0 b p n (wrap64 (Z1+r1.1),r1.2,[]))))):=by kernel_rfl
theorem lvc88_0 (b:LI) (p:Int) (n:Int)  (v0:Int×Int×LC) (m:Nat) (K:KX):lvT C88 (L88 b p n) ann88 f88 0 0 (s88_0 b p n v0) m K =
 (cond (decide (Z0<v0.1)) (((Sm TBy b)/\(M.ax b)/\(0<=v0.2.1)/\(v0.2.1<=1000000000000000)/\(LD (M.pick b v0.2.1 Z4) fun r4=>(0<=r4.1)/\(r4.1<([Z1,Z1,Z2,Z3].length:Int))/\Q0 ((Sm TBy b)/\(M.ax b)/\(0<=r4.2)/\(r4.2<=1000000000000000)/\(LD (M.pick b r4.2 Z3) fun r5=>((v0.2.2.length+[((nI [Z1,Z1,Z2,Z3] r4.1),((decide (Z0<r5.1)),()))].length) * 16<=lim)/\(nxT (LP88_0 b p n) m K (s88_0 b p n (wrap64 (v0.1-Z1),r5.2,(v0.2.2++[((nI [Z1,Z1,Z2,Z3] r4.1),((decide (Z0<r5.1)),()))]))))))))/\((Sm TBy b)/\(M.ax b)/\(0<=v0.2.1)/\(v0.2.1<=1000000000000000)/\(LD (M.pick b v0.2.1 Z4) fun r4=>((0<=r4.1)/\(r4.1<([Z1,Z1,Z2,Z3].length:Int))/\Q0 ((Sm TBy b)/\(M.ax b)/\(0<=r4.2)/\(r4.2<=1000000000000000)/\(LD (M.pick b r4.2 Z3) fun r5=>((v0.2.2.length+[((nI [Z1,Z1,Z2,Z3] r4.1),((decide (Z0<r5.1)),()))].length) * 16<=lim)/\(nxT (LP88_0 b p n) m K (s88_0 b p n (wrap64 (v0.1-Z1),r5.2,(v0.2.2++[((nI [Z1,Z1,Z2,Z3] r4.1),((decide (Z0<r5.1)),()))])))))))/\((Sm TBy b)/\(M.ax b)/\(0<=r4.2)/\(r4.2<=1000000000000000)/\(LD (M.pick b r4.2 Z3) fun r5=>(0<=r4.1)/\(r4.1<([Z1,Z1,Z2,Z3].length:Int))/\((v0.2.2.length+[((nI [Z1,Z1,Z2,Z3] r4.1),((decide (Z0<r5.1)),()))].length) * 16<=lim)/\(nxT (LP88_0 b p n) m K (s88_0 b p n (wrap64 (v0.1-Z1),r5.2,(v0.2.2++[((nI [Z1,Z1,Z2,Z3] r4.1),((decide (Z0<r5.1)),()))]))))))))) (K (.exit 0) (⟨[(0,.ptr 1000000 0),(1,dI n),(5,.own 7 none)],[(1000000,.box [.data TBy b,dI v0.2.1]),(7,.arr .sh ag v0.2.2)]⟩:St))):=by kernel_rfl
theorem con88_ok:bp P 88 c88:=bt C88 func88 (kC con41_ok (kC con106_ok kN)) fun args hp K h0=>by
 unfold c88 at h0
 dsimp only at h0
 obtain⟨b,p,rfl,h00⟩:=fq h0
 obtain⟨a0,a1,rfl,_,h1⟩:=bP h00
 obtain⟨rfl,h2⟩:=dw h1
 obtain⟨n,rfl,h3⟩:=bg h2
 obtain⟨h_b,p0,p1,p2,hK⟩:=h3
 have h:ok (F.fO b p n) (fun r=>K (.own 0 none) [(0,.arr .sh ag r.1),(1000000,.box [.data TBy b,dI r.2])]):=aA (F.sU b p n h_b p0 p1 p2) (hK _ rfl)
 refine⟨rfl,ann88,(L88 b p n),.raw,(bK (i0:=0) (by kernel_rfl) ?_),?_⟩
 ·rintro _ _ K ⟨hc0,v0,rfl,hv0,h⟩
  exact cast (lvc88_0 _ _ _ _ _ _).symm (cN h (fun m1 hm0 h=>(oC h (fun _ h=>((fun(g1_0:M.ax b)=>(fun(g1_1:0<=v0.2.1)=>(fun(g1_2:v0.2.1<=1000000000000000)=>(fun(g1_3:0<=(M.pick b v0.2.1 Z4).1)=>(fun(g1_4:(M.pick b v0.2.1 Z4).1<([Z1,Z1,Z2,Z3].length:Int))=>(fun(g1_5:0<=(M.pick b v0.2.1 Z4).2)=>(fun(g1_6:(M.pick b v0.2.1 Z4).2<=1000000000000000)=>(fun(g1_7:(v0.2.2.length+[((nI [Z1,Z1,Z2,Z3] (M.pick b v0.2.1 Z4).1),((decide (Z0<(M.pick b (M.pick b v0.2.1 Z4).2 Z3).1)),()))].length) * 16<=lim)=>⟨⟨h_b,⟨g1_0,have g1:=g1_0;⟨g1_1,have g2:=g1_1;⟨g1_2,have g3:=g1_2;(fun r4 er4=>(have g4:0<=r4.1:=(by rw[er4];exact g1_3);⟨g4,(have g5:r4.1<([Z1,Z1,Z2,Z3].length:Int):=(by rw[er4];exact g1_4);⟨g5,(q0 (⟨h_b,⟨g1,(have g6:0<=r4.2:=(by rw[er4];exact g1_5);⟨g6,(have g7:r4.2<=1000000000000000:=(by rw[er4];exact g1_6);⟨g7,(fun r5 er5=>(have g8:(v0.2.2.length+[((nI [Z1,Z1,Z2,Z3] r4.1),((decide (Z0<r5.1)),()))].length) * 16<=lim:=(by rw[er5,er4];exact g1_7);⟨g8,(have h:=(aB (cJ (aB (aB (aB (aB (cJ (aB (aB (aB h).2).2).2 r4 er4)).2).2).2).2 r5 er5)).2;(aX (fun _ hm=>⟨hc0,hm⟩) hm0 _ rfl trivial h))⟩))⟩)⟩)⟩⟩))⟩)⟩))⟩⟩⟩⟩,⟨h_b,⟨g1_0,have g9:=g1_0;⟨g1_1,have g10:=g1_1;⟨g1_2,have g11:=g1_2;(fun r4 er4=>⟨(have g12:0<=r4.1:=(by rw[er4];exact g1_3);⟨g12,(have g13:r4.1<([Z1,Z1,Z2,Z3].length:Int):=(by rw[er4];exact g1_4);⟨g13,(q0 (⟨h_b,⟨g9,(have g14:0<=r4.2:=(by rw[er4];exact g1_5);⟨g14,(have g15:r4.2<=1000000000000000:=(by rw[er4];exact g1_6);⟨g15,(fun r5 er5=>(have g16:(v0.2.2.length+[((nI [Z1,Z1,Z2,Z3] r4.1),((decide (Z0<r5.1)),()))].length) * 16<=lim:=(by rw[er5,er4];exact g1_7);⟨g16,(have h:=(aB (cJ (aB (aB (aB (aB (cJ (aB (aB (aB h).2).2).2 r4 er4)).2).2).2).2 r5 er5)).2;(aX (fun _ hm=>⟨hc0,hm⟩) hm0 _ rfl trivial h))⟩))⟩)⟩)⟩⟩))⟩)⟩),⟨h_b,⟨g9,(have g17:0<=r4.2:=(by rw[er4];exact g1_5);⟨g17,(have g18:r4.2<=1000000000000000:=(by rw[er4];exact g1_6);⟨g18,(fun r5 er5=>(have g19:0<=r4.1:=(by rw[er4];exact g1_3);⟨g19,(have g20:r4.1<([Z1,Z1,Z2,Z3].length:Int):=(by rw[er4];exact g1_4);⟨g20,(have g21:(v0.2.2.length+[((nI [Z1,Z1,Z2,Z3] r4.1),((decide (Z0<r5.1)),()))].length) * 16<=lim:=(by rw[er5,er4];exact g1_7);⟨g21,(have h:=(aB (cJ (aB (aB (aB (aB (cJ (aB (aB (aB h).2).2).2 r4 er4)).2).2).2).2 r5 er5)).2;(aX (fun _ hm=>⟨hc0,hm⟩) hm0 _ rfl trivial h))⟩)⟩)⟩))⟩)⟩)⟩⟩⟩)⟩⟩⟩⟩⟩) (aB (cJ (aB (aB (aB (aB (cJ (aB (aB (aB h).2).2).2 _ rfl)).2).2).2).2 _ rfl)).1) (aB (aB (aB (aB (cJ (aB (aB (aB h).2).2).2 _ rfl)).2).2).2).1) (aB (aB (aB (cJ (aB (aB (aB h).2).2).2 _ rfl)).2).2).1) (aB (aB (cJ (aB (aB (aB h).2).2).2 _ rfl)).2).1) (aB (cJ (aB (aB (aB h).2).2).2 _ rfl)).1) (aB (aB (aB h).2).2).1) (aB (aB h).2).1) (aB h).1)) fun _ h=>((cu h :) trivial))))
 ·rw[vc88]
  exact⟨h_b,⟨p0,⟨p1,(oG h fun _ h=>(oL h fun _ _ h=>(bX (fun m hm=>⟨trivial,hm⟩) _ rfl trivial (gk h (fun e0 h hv0=>⟨h_b,⟨p0,(oG h fun _ h=>(oG h fun _ h=>(oL h fun _ _ h=>(oC h (fun _ h=>⟨h_b,⟨p0,(oG h fun _ h=>(oG h fun _ h=>(oL h fun _ _ h=>(oG h fun _ h=>h))))⟩⟩) fun _ h=>h))))⟩⟩)))))⟩⟩⟩
def c129:Con:=⟨[.any,.dat ag],fun args hp K=>hpR (fun b p=>args2 (fun a0 a1=>mS a0 (eM ag a1 fun c=>(Sm TBy b)/\(M.ax b)/\(0<=p)/\(p<=998000000000000)/\(LD (M.jU b p c) fun r=>K (.data aa r.1) [(1000000,.box [.data TBy b,dI r.2])]))) args []) hp,.plain,true⟩
abbrev C129:Ctx:=cx [(41,c41)] 31 [] 0 false
def ann129:=an [[.fixRow 3 ag,kp 25],[kp 2073],[kp 16],[kp 16401],[kp 49169],[kp 16],[kp 1048593],[kp 16],[kp 16]] []
theorem vc129 (b:LI) (p:Int) (c:ag.D) (K:KA):vcT C129 aC ann129 f129 [.ptr 1000000 0,.data ag c] [(1000000,.box [.data TBy b,dI p])] (.dat aa) K =
 (cond (c.2.1==true) ((Sm TBy b)/\(M.ax b)/\(0<=p)/\(p<=1000000000000000)/\(LD (M.pick b p Z5) fun r1=>cond (decide (r1.1=Z0)) (K (.data aa (Z0,(Z0,((⟨#[]⟩:ByteArray),())))) [(1000000,.box [.data TBy b,dI r1.2])]) (cond (decide (c.1=Z1)) ((Sm TBy b)/\(M.ax b)/\(0<=r1.2)/\(r1.2<=1000000000000000)/\(LD (M.pick b r1.2 Z4) fun r2=>K (.data aa (Z1,(r2.1,((⟨#[]⟩:ByteArray),())))) [(1000000,.box [.data TBy b,dI r2.2])])) (cond (decide (c.1=Z2)) ((Sm TBy b)/\(M.ax b)/\(0<=r1.2)/\(r1.2<=1000000000000000)/\(LD (M.pick b r1.2 Z4) fun r3=>(0<=r3.1)/\(r3.1<([(⟨#[]⟩:ByteArray),(⟨#[97]⟩:ByteArray),(⟨#[98]⟩:ByteArray),(⟨#[97,98]⟩:ByteArray)].length:Int))/\K (.data aa (Z2,(Z0,((nth (t:=Ty.str) [(⟨#[]⟩:ByteArray),(⟨#[97]⟩:ByteArray),(⟨#[98]⟩:ByteArray),(⟨#[97,98]⟩:ByteArray)] r3.1),())))) [(1000000,.box [.data TBy b,dI r3.2])])) ((Sm TBy b)/\(M.ax b)/\(0<=r1.2)/\(r1.2<=1000000000000000)/\(LD (M.pick b r1.2 Z2) fun r4=>K (.data aa (Z3,(r4.1,((⟨#[]⟩:ByteArray),())))) [(1000000,.box [.data TBy b,dI r4.2])])))))) (cond (decide (c.1=Z1)) ((Sm TBy b)/\(M.ax b)/\(0<=p)/\(p<=1000000000000000)/\(LD (M.pick b p Z4) fun r2=>K (.data aa (Z1,(r2.1,((⟨#[]⟩:ByteArray),())))) [(1000000,.box [.data TBy b,dI r2.2])])) (cond (decide (c.1=Z2)) ((Sm TBy b)/\(M.ax b)/\(0<=p)/\(p<=1000000000000000)/\(LD (M.pick b p Z4) fun r3=>(0<=r3.1)/\(r3.1<([(⟨#[]⟩:ByteArray),(⟨#[97]⟩:ByteArray),(⟨#[98]⟩:ByteArray),(⟨#[97,98]⟩:ByteArray)].length:Int))/\K (.data aa (Z2,(Z0,((nth (t:=Ty.str) [(⟨#[]⟩:ByteArray),(⟨#[97]⟩:ByteArray),(⟨#[98]⟩:ByteArray),(⟨#[97,98]⟩:ByteArray)] r3.1),())))) [(1000000,.box [.data TBy b,dI r3.2])])) ((Sm TBy b)/\(M.ax b)/\(0<=p)/\(p<=1000000000000000)/\(LD (M.pick b p Z2) fun r4=>K (.data aa (Z3,(r4.1,((⟨#[]⟩:ByteArray),())))) [(1000000,.box [.data TBy b,dI r4.2])]))))):=by kernel_rfl
theorem con129_ok:bp P 129 c129:=bt C129 func129 (kC con41_ok kN) fun args hp K h0=>by
 unfold c129 at h0
 dsimp only at h0
 obtain⟨b,p,rfl,h00⟩:=fq h0
 obtain⟨a0,a1,rfl,_,h1⟩:=bP h00
 obtain⟨rfl,h2⟩:=dw h1
 obtain⟨c,rfl,h3⟩:=bg h2
 obtain⟨h_b,p0,p1,p2,hK⟩:=h3
 have h:ok (F.iZ b p c) (fun r=>K (.data aa r.1) [(1000000,.box [.data TBy b,dI r.2])]):=aA (F.xu b p c h_b p0 p1 p2) (hK _ rfl)
 refine⟨rfl,ann129,aC,(.dat aa),(aH (by kernel_rfl)),?_⟩
 ·rw[vc129]
  exact(oC h (fun _ h=>⟨h_b,⟨p0,⟨p1,(oG h fun _ h=>(oL h fun _ _ h=>(oC h (fun _ h=>h) fun _ h=>(oC h (fun _ h=>⟨h_b,⟨p0,(oG h fun _ h=>(oG h fun _ h=>(oL h fun _ _ h=>h)))⟩⟩) fun _ h=>(oC h (fun _ h=>⟨h_b,⟨p0,(oG h fun _ h=>(oG h fun _ h=>(oL h fun _ _ h=>(oG h fun _ h=>(oG h fun _ h=>h)))))⟩⟩) fun _ h=>⟨h_b,⟨p0,(oG h fun _ h=>(oG h fun _ h=>(oL h fun _ _ h=>h)))⟩⟩)))))⟩⟩⟩) fun _ h=>(oC h (fun _ h=>⟨h_b,⟨p0,⟨p1,(oG h fun _ h=>(oL h fun _ _ h=>h))⟩⟩⟩) fun _ h=>(oC h (fun _ h=>⟨h_b,⟨p0,⟨p1,(oG h fun _ h=>(oL h fun _ _ h=>(oG h fun _ h=>(oG h fun _ h=>h))))⟩⟩⟩) fun _ h=>⟨h_b,⟨p0,⟨p1,(oG h fun _ h=>(oL h fun _ _ h=>h))⟩⟩⟩)))
def c130:Con:=⟨[.any,.dat ay],fun args hp K=>hpR (fun b p=>args2 (fun a0 a1=>mS a0 (eM ay a1 fun n=>(Sm TBy b)/\(M.ax b)/\(0<=p)/\(p<=998000000000000)/\(LD (M.eU b p n) fun r=>K (.data aa r.1) [(1000000,.box [.data TBy b,dI r.2])]))) args []) hp,.plain,true⟩
abbrev C130:Ctx:=cx [(41,c41),(106,c106)] 77 [] 0 false
def ann130:=an [[kp 19],[kp 51],[kp 563],[kp 51],[kp 8755],[kp 33331],[kp 33331],[kp 33331],[kp 51],[kp 33554483],[kp 51],[kp 4294967859],[kp 4294967347],[kp 51],[kp 115],[kp 549755814003],[kp 115],[kp 115],[.keep [0,4,5,54]],[.keep [0,4,5,56]],[kp 48],[kp 2377900603251621937],[kp 48],[kp 18518801667747479601],[kp 48],[.keep [0,4,5,70]],[kp 48],[kp 16]] [[kp 51],[kp 51]]
abbrev s130_0 (b:LI) (p:Int) (n:Int) (c0_0:Int) (c0_1:Int) (v0:Unit):St:=⟨[(0,.ptr 1000000 0),(1,dI n),(4,.ptr 4 0),(5,.ptr 5 0),(9,dI c0_0)],[(1000000,.box [.data TBy b,dI c0_1]),(4,.box [dI Z0,dI Z0,.data Ty.str (⟨#[]⟩:ByteArray)]),(5,.box [dI Z0,dI Z0,.data Ty.str (⟨#[]⟩:ByteArray)])]⟩
abbrev LP130_0 (b:LI) (p:Int) (n:Int) (m:Nat) (st_:St) (K:KX):Prop:=∃c0_0:Int,∃c0_1:Int,True/\dX (s130_0 b p n c0_0 c0_1) (F.gW b p n c0_0 c0_1) (fun v0:Unit=>True) (fun e0:Int×Int×Int×ByteArray=>True->K (.exit 0) (⟨[(0,.ptr 1000000 0),(1,dI n),(4,.ptr 4 0),(5,.ptr 5 0)],[(1000000,.box [.data TBy b,dI e0.1]),(4,.box [dI Z0,dI Z0,.data Ty.str (⟨#[]⟩:ByteArray)]),(5,.box [dI e0.2.1,dI e0.2.2.1,.data Ty.str e0.2.2.2])]⟩:St)) m st_
abbrev s130_1 (b:LI) (p:Int) (n:Int) (v1:Int×Int×ByteArray):St:=⟨[(0,.ptr 1000000 0),(1,dI n),(4,.ptr 4 0),(5,.ptr 5 0),(6,dI v1.1)],[(1000000,.box [.data TBy b,dI v1.2.1]),(4,.box [dI Z0,dI Z0,.data Ty.str (⟨#[]⟩:ByteArray)]),(5,.box [dI Z2,dI Z0,.data Ty.str v1.2.2])]⟩
abbrev LP130_1 (b:LI) (p:Int) (n:Int) (m:Nat) (st_:St) (K:KX):Prop:=True/\dX (s130_1 b p n) (F.eg b p n) (fun v1:Int×Int×ByteArray=>True) (fun e1:Int×ByteArray=>True->K (.exit 1) (⟨[(0,.ptr 1000000 0),(1,dI n),(4,.ptr 4 0),(5,.ptr 5 0)],[(1000000,.box [.data TBy b,dI e1.1]),(4,.box [dI Z0,dI Z0,.data Ty.str (⟨#[]⟩:ByteArray)]),(5,.box [dI Z2,dI Z0,.data Ty.str e1.2])]⟩:St)) m st_
def L130 (b:LI) (p:Int) (n:Int):bF:=lp2 0 (LP130_0 b p n) 1 (LP130_1 b p n)
theorem vc130 (b:LI) (p:Int) (n:Int) (K:KA):vcT C130 (L130 b p n) ann130 (qc [(1000000,true)] f130) [.ptr 1000000 0,dI n] [(1000000,.box [.data TBy b,dI p])] (.dat aa) K =
 ((Sm TBy b)/\(M.ax b)/\(0<=p)/\(p<=1000000000000000)/\(LD (M.pick b p (7:Int)) fun r1=>(∃m_,∃c0_0:Int,∃c0_1:Int,True/\dX (s130_0 b p n c0_0 c0_1) (F.gW b p n c0_0 c0_1) (fun v0:Unit=>True) (fun e0:Int×Int×Int×ByteArray=>True->(Sm TBy b)/\(M.ax b)/\(0<=e0.1)/\(e0.1<=999000000000000)/\(LD (M.odd b e0.1 n) fun r2=>cond r2.1 ((Sm TBy b)/\(M.ax b)/\(0<=r2.2)/\(r2.2<=1000000000000000)/\(LD (M.pick b r2.2 Z4) fun r3=>cond (decide (r3.1=Z0)) (K (.data aa (e0.2.1,((10000:Int),(e0.2.2.2,())))) [(1000000,.box [.data TBy b,dI r3.2])]) (cond (decide (r3.1=Z1)) ((e0.2.2.2.size+(⟨#[97,98,99,100,101,102,103]⟩:ByteArray).size<=9223372036854775807)/\K (.data aa (e0.2.1,(e0.2.2.1,((e0.2.2.2++(⟨#[97,98,99,100,101,102,103]⟩:ByteArray)),())))) [(1000000,.box [.data TBy b,dI r3.2])]) (cond (decide (r3.1=Z2)) ((Sm TBy b)/\(M.ax b)/\(0<=r3.2)/\(r3.2<=1000000000000000)/\(LD (M.pick b r3.2 (7:Int)) fun r4=>K (.data aa (wrap64 (r4.1-Z1),(e0.2.2.1,(e0.2.2.2,())))) [(1000000,.box [.data TBy b,dI r4.2])])) ((e0.2.2.2.size+(⟨#[65]⟩:ByteArray).size<=9223372036854775807)/\K (.data aa (e0.2.1,(e0.2.2.1,((e0.2.2.2++(⟨#[65]⟩:ByteArray)),())))) [(1000000,.box [.data TBy b,dI r3.2])]))))) (K (.data aa (e0.2.1,(e0.2.2.1,(e0.2.2.2,())))) [(1000000,.box [.data TBy b,dI r2.2])]))) m_ (s130_0 b p n r1.1 r1.2 ())))):=by kernel_rfl
abbrev S130l0_0 (b:LI) (p:Int) (n:Int) (c0_0:Int) (c0_1:Int) (v0:Unit) (m:Nat) (K:KX):Prop:=(Sm TBy b)/\(M.ax b)/\(0<=c0_1)/\(c0_1<=1000000000000000)/\(LD (M.pick b c0_1 (7:Int)) fun r5=>(Sm TBy b)/\(M.ax b)/\(0<=r5.2)/\(r5.2<=1000000000000000)/\(LD (M.pick b r5.2 (8:Int)) fun r6=>cond (decide (r6.1=Z0)) ((Sm TBy b)/\(M.ax b)/\(0<=r6.2)/\(r6.2<=1000000000000000)/\(LD (M.pick b r6.2 Z5) fun r7=>(0<=r7.1)/\(r7.1<([(9999:Int),(-9999:Int),(255:Int),(256:Int),(-256:Int)].length:Int))/\K (.exit 0) (⟨[(0,.ptr 1000000 0),(1,dI n),(4,.ptr 4 0),(5,.ptr 5 0)],[(1000000,.box [.data TBy b,dI r7.2]),(4,.box [dI Z0,dI Z0,.data Ty.str (⟨#[]⟩:ByteArray)]),(5,.box [dI Z1,dI (nI [(9999:Int),(-9999:Int),(255:Int),(256:Int),(-256:Int)] r7.1),.data Ty.str (⟨#[]⟩:ByteArray)])]⟩:St))) (K (.exit 0) (⟨[(0,.ptr 1000000 0),(1,dI n),(4,.ptr 4 0),(5,.ptr 5 0)],[(1000000,.box [.data TBy b,dI r6.2]),(4,.box [dI Z0,dI Z0,.data Ty.str (⟨#[]⟩:ByteArray)]),(5,.box [dI Z1,dI (wrap64 (r5.1-Z3)),.data Ty.str (⟨#[]⟩:ByteArray)])]⟩:St))))
abbrev S130l0_1 (b:LI) (p:Int) (n:Int) (c0_0:Int) (c0_1:Int) (v0:Unit) (m:Nat) (K:KX):Prop:=(Sm TBy b)/\(M.ax b)/\(0<=c0_1)/\(c0_1<=1000000000000000)/\(LD (M.pick b c0_1 Z4) fun r8=>(∃m_,True/\dX (s130_1 b p n) (F.eg b p n) (fun v1:Int×Int×ByteArray=>True) (fun e1:Int×ByteArray=>True->K (.exit 0) (⟨[(0,.ptr 1000000 0),(1,dI n),(4,.ptr 4 0),(5,.ptr 5 0)],[(1000000,.box [.data TBy b,dI e1.1]),(4,.box [dI Z0,dI Z0,.data Ty.str (⟨#[]⟩:ByteArray)]),(5,.box [dI Z2,dI Z0,.data Ty.str e1.2])]⟩:St)) m_ (s130_1 b p n (r8.1,r8.2,(⟨#[]⟩:ByteArray)))))
abbrev S130l0_2 (b:LI) (p:Int) (n:Int) (c0_0:Int) (c0_1:Int) (v0:Unit) (m:Nat) (K:KX):Prop:=(Sm TBy b)/\(M.ax b)/\(0<=c0_1)/\(c0_1<=1000000000000000)/\(LD (M.pick b c0_1 Z2) fun r9=>K (.exit 0) (⟨[(0,.ptr 1000000 0),(1,dI n),(4,.ptr 4 0),(5,.ptr 5 0)],[(1000000,.box [.data TBy b,dI r9.2]),(4,.box [dI Z0,dI Z0,.data Ty.str (⟨#[]⟩:ByteArray)]),(5,.box [dI Z3,dI r9.1,.data Ty.str (⟨#[]⟩:ByteArray)])]⟩:St))
abbrev S130l0_3 (b:LI) (p:Int) (n:Int) (c0_0:Int) (c0_1:Int) (v0:Unit) (m:Nat) (K:KX):Prop:=cond (decide (c0_0=Z4)) (cond (decide (c0_0=Z4)) (S130l0_1  b p n c0_0 c0_1 v0 m K) (S130l0_2  b p n c0_0 c0_1 v0 m K)) (cond (decide (c0_0=Z5)) (S130l0_1  b p n c0_0 c0_1 v0 m K) (S130l0_2  b p n c0_0 c0_1 v0 m K))
theorem lvc130_0 (b:LI) (p:Int) (n:Int) (c0_0:Int) (c0_1:Int) (v0:Unit) (m:Nat) (K:KX):lvT C130 (L130 b p n) ann130 (qc [(1000000,true)] f130) 0 0 (s130_0 b p n c0_0 c0_1 v0) m K =
 (cond (decide (c0_0=Z0)) (K (.exit 0) (⟨[(0,.ptr 1000000 0),(1,dI n),(4,.ptr 4 0),(5,.ptr 5 0)],[(1000000,.box [.data TBy b,dI c0_1]),(4,.box [dI Z0,dI Z0,.data Ty.str (⟨#[]⟩:ByteArray)]),(5,.box [dI Z0,dI Z0,.data Ty.str (⟨#[]⟩:ByteArray)])]⟩:St)) (cond (decide (c0_0=Z1)) (cond (decide (c0_0=Z1)) (S130l0_0  b p n c0_0 c0_1 v0 m K) (S130l0_3  b p n c0_0 c0_1 v0 m K)) (cond (decide (c0_0=Z2)) (cond (decide (c0_0=Z2)) (S130l0_0  b p n c0_0 c0_1 v0 m K) (S130l0_3  b p n c0_0 c0_1 v0 m K)) (cond (decide (c0_0=Z3)) (S130l0_0  b p n c0_0 c0_1 v0 m K) (S130l0_3  b p n c0_0 c0_1 v0 m K))))):=by kernel_rfl
theorem lvc130_1 (b:LI) (p:Int) (n:Int)  (v1:Int×Int×ByteArray) (m:Nat) (K:KX):lvT C130 (L130 b p n) ann130 (qc [(1000000,true)] f130) 1 1 (s130_1 b p n v1) m K =
 (cond (decide (Z0<v1.1)) (((Sm TBy b)/\(M.ax b)/\(0<=v1.2.1)/\(v1.2.1<=1000000000000000)/\(LD (M.pick b v1.2.1 Z3) fun r10=>(v1.2.2.size+(strOf [((wrap64 ((97:Int)+r10.1)) % 256)]).size<=9223372036854775807)/\(nxT (LP130_1 b p n) m K (s130_1 b p n (wrap64 (v1.1-Z1),r10.2,(v1.2.2++(strOf [((wrap64 ((97:Int)+r10.1)) % 256)])))))))/\((Sm TBy b)/\(M.ax b)/\(0<=v1.2.1)/\(v1.2.1<=1000000000000000)/\(LD (M.pick b v1.2.1 Z3) fun r10=>Q4 ((v1.2.2.size+(strOf [((wrap64 ((97:Int)+r10.1)) % 256)]).size<=9223372036854775807)/\(nxT (LP130_1 b p n) m K (s130_1 b p n (wrap64 (v1.1-Z1),r10.2,(v1.2.2++(strOf [((wrap64 ((97:Int)+r10.1)) % 256)]))))))))) (K (.exit 1) (⟨[(0,.ptr 1000000 0),(1,dI n),(4,.ptr 4 0),(5,.ptr 5 0)],[(1000000,.box [.data TBy b,dI v1.2.1]),(4,.box [dI Z0,dI Z0,.data Ty.str (⟨#[]⟩:ByteArray)]),(5,.box [dI Z2,dI Z0,.data Ty.str v1.2.2])]⟩:St))):=by kernel_rfl
theorem con130_ok:bp P 130 c130:=EV [(1000000,true)] C130 func130 (kC con41_ok (kC con106_ok kN)) fun args hp K h0=>by
 unfold c130 at h0
 dsimp only at h0
 obtain⟨b,p,rfl,h00⟩:=fq h0
 obtain⟨a0,a1,rfl,_,h1⟩:=bP h00
 obtain⟨rfl,h2⟩:=dw h1
 obtain⟨n,rfl,h3⟩:=bg h2
 obtain⟨h_b,p0,p1,p2,hK⟩:=h3
 have h:ok (F.iu b p n) (fun r=>K (.data aa r.1) [(1000000,.box [.data TBy b,dI r.2])]):=aA (F.uO b p n h_b p0 p1 p2) (hK _ rfl)
 refine⟨rfl,ann130,(L130 b p n),(.dat aa),(lz (i0:=0) (i1:=1) (by kernel_rfl) ?_ ?_),?_⟩
 ·rintro _ _ K ⟨c0_0,c0_1,hc0,v0,rfl,hv0,h⟩
  exact cast (lvc130_0 _ _ _ _ _ _ _ _).symm (cN h (fun m1 hm0 h=>(oC h (fun _ h=>((cu h :) trivial)) fun _ h=>(oC h (fun b_3 h=>(bG b_3 ⟨h_b,(oG h fun g1 h=>(oG h fun _ h=>(oG h fun _ h=>(oL h fun _ _ h=>⟨h_b,⟨g1,(oG h fun _ h=>(oG h fun _ h=>(oL h fun _ _ h=>(oC h (fun _ h=>⟨h_b,⟨g1,(oG h fun _ h=>(oG h fun _ h=>(oL h fun _ _ h=>(oG h fun _ h=>(oG h fun _ h=>((cu h :) trivial))))))⟩⟩) fun _ h=>((cu h :) trivial)))))⟩⟩))))⟩)) fun _ h=>(oC h (fun b_51 h=>(bG b_51 ⟨h_b,(oG h fun g2 h=>(oG h fun _ h=>(oG h fun _ h=>(oL h fun _ _ h=>⟨h_b,⟨g2,(oG h fun _ h=>(oG h fun _ h=>(oL h fun _ _ h=>(oC h (fun _ h=>⟨h_b,⟨g2,(oG h fun _ h=>(oG h fun _ h=>(oL h fun _ _ h=>(oG h fun _ h=>(oG h fun _ h=>((cu h :) trivial))))))⟩⟩) fun _ h=>((cu h :) trivial)))))⟩⟩))))⟩)) fun _ h=>(oC h (fun _ h=>⟨h_b,(oG h fun g3 h=>(oG h fun _ h=>(oG h fun _ h=>(oL h fun _ _ h=>⟨h_b,⟨g3,(oG h fun _ h=>(oG h fun _ h=>(oL h fun _ _ h=>(oC h (fun _ h=>⟨h_b,⟨g3,(oG h fun _ h=>(oG h fun _ h=>(oL h fun _ _ h=>(oG h fun _ h=>(oG h fun _ h=>((cu h :) trivial))))))⟩⟩) fun _ h=>((cu h :) trivial)))))⟩⟩))))⟩) fun _ h=>(oC h (fun b_74 h=>(bG b_74 ⟨h_b,(oG h fun _ h=>(oG h fun _ h=>(oG h fun _ h=>(oL h fun _ _ h=>(bX (fun m hm=>⟨trivial,hm⟩) _ rfl trivial (gk h (fun e1 h hv1=>((cu h :) trivial))))))))⟩)) fun _ h=>(oC h (fun _ h=>⟨h_b,(oG h fun _ h=>(oG h fun _ h=>(oG h fun _ h=>(oL h fun _ _ h=>(bX (fun m hm=>⟨trivial,hm⟩) _ rfl trivial (gk h (fun e1 h hv1=>((cu h :) trivial))))))))⟩) fun _ h=>⟨h_b,(oG h fun _ h=>(oG h fun _ h=>(oG h fun _ h=>(oL h fun _ _ h=>((cu h :) trivial)))))⟩))))))))
 ·rintro _ _ K ⟨hc1,v1,rfl,hv1,h⟩
  exact cast (lvc130_1 _ _ _ _ _ _).symm (cN h (fun m1 hm1 h=>(oC h (fun _ h=>((fun(g2_0:M.ax b)=>(fun(g2_1:0<=v1.2.1)=>(fun(g2_2:v1.2.1<=1000000000000000)=>(fun(g2_3:v1.2.2.size+(strOf [((wrap64 ((97:Int)+(M.pick b v1.2.1 Z3).1)) % 256)]).size<=9223372036854775807)=>⟨⟨h_b,⟨g2_0,have g4:=g2_0;⟨g2_1,have g5:=g2_1;⟨g2_2,have g6:=g2_2;(fun r10 er10=>(have g7:v1.2.2.size+(strOf [((wrap64 ((97:Int)+r10.1)) % 256)]).size<=9223372036854775807:=(by rw[er10];exact g2_3);⟨g7,(have h:=(aB (cJ (aB (aB (aB h).2).2).2 r10 er10)).2;(aX (fun _ hm=>⟨hc1,hm⟩) hm1 _ rfl trivial h))⟩))⟩⟩⟩⟩,⟨h_b,⟨g2_0,have g8:=g2_0;⟨g2_1,have g9:=g2_1;⟨g2_2,have g10:=g2_2;(fun r10 er10=>(q4 (have g11:v1.2.2.size+(strOf [((wrap64 ((97:Int)+r10.1)) % 256)]).size<=9223372036854775807:=(by rw[er10];exact g2_3);⟨g11,(have h:=(aB (cJ (aB (aB (aB h).2).2).2 r10 er10)).2;(aX (fun _ hm=>⟨hc1,hm⟩) hm1 _ rfl trivial h))⟩)))⟩⟩⟩⟩⟩) (aB (cJ (aB (aB (aB h).2).2).2 _ rfl)).1) (aB (aB (aB h).2).2).1) (aB (aB h).2).1) (aB h).1)) fun _ h=>((cu h :) trivial))))
 ·rw[vc130]
  exact⟨h_b,⟨p0,⟨p1,(oG h fun _ h=>(oL h fun r1 _ h=>(bX (fun m hm=>⟨r1.1,r1.2,trivial,hm⟩) _ rfl trivial (gk h (fun e0 h hv0=>⟨h_b,⟨p0,(oG h fun _ h=>(oG h fun _ h=>(oL h fun _ _ h=>(oC h (fun _ h=>⟨h_b,⟨p0,(oG h fun _ h=>(oG h fun _ h=>(oL h fun _ _ h=>(oC h (fun _ h=>h) fun _ h=>(oC h (fun _ h=>(oG h fun _ h=>h)) fun _ h=>(oC h (fun _ h=>⟨h_b,⟨p0,(oG h fun _ h=>(oG h fun _ h=>(oL h fun _ _ h=>h)))⟩⟩) fun _ h=>(oG h fun _ h=>h)))))))⟩⟩) fun _ h=>h))))⟩⟩)))))⟩⟩⟩
def c89:Con:=⟨[.any,.lent ag,.dat ay],fun args hp K=>hpR (fun b p=>we (fun a0 a1 a2=>mS a0 (lg ag a1 fun columns=>eM ay a2 fun n=>(Sm TBy b)/\(Sm TCS columns)/\(M.ax b)/\(0<=p)/\(p<=997000000000000)/\(LD (M.kQ b p columns n) fun r=>K (.own 0 none) [(0,.arr .sh aa r.1),(1000000,.box [.data TBy b,dI r.2])]))) args []) hp,.plain,true⟩
abbrev C89:Ctx:=cx [(41,c41),(106,c106),(129,c129),(130,c130)] 59 [] 0 false
def ann89:=an [[kp 7],[kp 135],[kp 391],[kp 8583],[kp 391],[kp 391],[kp 134217857],[kp 536871041],[kp 128],[kp 550292684929],[kp 128],[.keep [0,7,45]],[.keep [0,7,49]],[kp 128],[kp 64]] [[kp 133]]
abbrev s89_0 (b:LI) (p:Int) (columns:LC) (n:Int) (i0:Int) (v0:Int×LV):St:=⟨[(0,.ptr 1000000 0),(1,.brw ag columns),(2,dI n),(7,.own 9 none),(8,dI i0)],[(1000000,.box [.data TBy b,dI v0.1]),(9,.arr .sh aa v0.2)]⟩
abbrev LP89_0 (b:LI) (p:Int) (columns:LC) (n:Int) (m:Nat) (st_:St) (K:KX):Prop:=True/\bU (t:=ag) (s89_0 b p columns n) columns (F.iV b p columns n) (fun v0:Int×LV=>True) (bn (fun v0:Int×LV=>True->K (.exit 0) (⟨[(0,.ptr 1000000 0),(2,dI n),(7,.own 9 none)],[(1000000,.box [.data TBy b,dI v0.1]),(9,.arr .sh aa v0.2)]⟩:St)) (fun _=>False)) m st_
def L89 (b:LI) (p:Int) (columns:LC) (n:Int):bF:=lp1 0 (LP89_0 b p columns n)
theorem vc89 (b:LI) (p:Int) (columns:LC) (n:Int) (K:KA):vcT C89 (L89 b p columns n) ann89 f89 [.ptr 1000000 0,.brw ag columns,dI n] [(1000000,.box [.data TBy b,dI p])] .raw K =
 (∃m_,True/\bU (t:=ag) (s89_0 b p columns n) columns (F.iV b p columns n) (fun v0:Int×LV=>True) (bn (fun v0:Int×LV=>True->(Sm TBy b)/\(M.ax b)/\(0<=v0.1)/\(v0.1<=999000000000000)/\(LD (M.odd b v0.1 n) fun r1=>cond r1.1 ((Sm TBy b)/\(M.ax b)/\(0<=r1.2)/\(r1.2<=1000000000000000)/\(LD (M.pick b r1.2 Z3) fun r2=>cond (decide (r2.1=Z0)) (((v0.2.length+([(Z0,(Z0,((⟨#[]⟩:ByteArray),())))]:List aa.D).length) * 32<=lim)/\K (.own 0 none) [(0,.arr .sh aa (v0.2++[(Z0,(Z0,((⟨#[]⟩:ByteArray),())))])),(1000000,.box [.data TBy b,dI r2.2])]) (cond (decide (r2.1=Z1)) (cond (decide (Z0<(v0.2.length:Int))) ((Sm TBy b)/\(M.ax b)/\(0<=r2.2)/\(r2.2<=1000000000000000)/\(LD (M.pick b r2.2 (v0.2.length:Int)) fun r3=>(Sm TBy b)/\(M.ax b)/\(0<=r3.2)/\(r3.2<=998000000000000)/\(LD (M.eU b r3.2 Z3) fun r4=>(0<=r3.1)/\(r3.1<(v0.2.length:Int))/\K (.own 0 none) [(0,.arr .sh aa (v0.2.set r3.1.toNat r4.1)),(1000000,.box [.data TBy b,dI r4.2])]))) (K (.own 0 none) [(0,.arr .sh aa v0.2),(1000000,.box [.data TBy b,dI r2.2])])) ((Sm TBy b)/\(M.ax b)/\(0<=r2.2)/\(r2.2<=998000000000000)/\(LD (M.eU b r2.2 Z0) fun r5=>(Sm TBy b)/\(M.ax b)/\(0<=r5.2)/\(r5.2<=998000000000000)/\(LD (M.eU b r5.2 Z0) fun r6=>(Sm TBy b)/\(M.ax b)/\(0<=r6.2)/\(r6.2<=998000000000000)/\(LD (M.eU b r6.2 Z0) fun r7=>((v0.2.length+[r5.1,r6.1,r7.1].length) * 32<=lim)/\K (.own 0 none) [(0,.arr .sh aa (v0.2++[r5.1,r6.1,r7.1])),(1000000,.box [.data TBy b,dI r7.2])]))))))) (K (.own 0 none) [(0,.arr .sh aa v0.2),(1000000,.box [.data TBy b,dI r1.2])]))) (fun _=>False)) m_ (s89_0 b p columns n Z0 (p,[]))):=by kernel_rfl
theorem lvc89_0 (b:LI) (p:Int) (columns:LC) (n:Int)  (i0:Int) (v0:Int×LV) (m:Nat) (K:KX):lvT C89 (L89 b p columns n) ann89 f89 0 0 (s89_0 b p columns n i0 v0) m K =
 (cond (decide (i0<(columns.length:Int))) ((0<=i0)/\(i0<(columns.length:Int))/\(Sm TBy b)/\(M.ax b)/\(0<=v0.1)/\(v0.1<=998000000000000)/\(LD (M.jU b v0.1 (nC columns i0)) fun r8=>((v0.2.length+[r8.1].length) * 32<=lim)/\(nxT (LP89_0 b p columns n) m K (s89_0 b p columns n (wrap64 (i0+Z1)) (r8.2,(v0.2++[r8.1])))))) (K (.exit 0) (⟨[(0,.ptr 1000000 0),(2,dI n),(7,.own 9 none)],[(1000000,.box [.data TBy b,dI v0.1]),(9,.arr .sh aa v0.2)]⟩:St))):=by kernel_rfl
theorem con89_ok:bp P 89 c89:=bt C89 func89 (kC con41_ok (kC con106_ok (kC con129_ok (kC con130_ok kN)))) fun args hp K h0=>by
 unfold c89 at h0
 dsimp only at h0
 obtain⟨b,p,rfl,h00⟩:=fq h0
 obtain⟨a0,a1,a2,rfl,_,h1⟩:=jC h00
 obtain⟨rfl,h2⟩:=dw h1
 obtain⟨columns,rfl,h3⟩:=cV h2
 obtain⟨n,rfl,h4⟩:=bg h3
 obtain⟨h_b,h_columns,p0,p1,p2,hK⟩:=h4
 have h:ok (F.kD b p columns n) (fun r=>K (.own 0 none) [(0,.arr .sh aa r.1),(1000000,.box [.data TBy b,dI r.2])]):=aA (F.yE b p columns n h_b h_columns p0 p1 p2) (hK _ rfl)
 refine⟨rfl,ann89,(L89 b p columns n),.raw,(bK (i0:=0) (by kernel_rfl) ?_),?_⟩
 ·rintro _ _ K ⟨hc0,i0,v0,rfl,hl0,rfl,hv0,h⟩
  exact cast (lvc89_0 _ _ _ _ _ _ _ _).symm (bz (t:=ag) hl0 h (fun ht0 h=>⟨hl0,⟨ht0,⟨h_b,(oG h fun _ h=>(oG h fun _ h=>(oG h fun _ h=>(oL h fun _ _ h=>(oG h fun _ h=>(aY (t:=ag) (fun _ hm=>⟨hc0,hm⟩) _ rfl hl0 ht0 (bD h_columns) trivial h))))))⟩⟩⟩) fun h=>(h trivial))
 ·rw[vc89]
  exact(bf (t:=ag) (fun m hm=>⟨trivial,hm⟩) _ rfl trivial (aR h (fun v0 h hv0=>⟨h_b,⟨p0,(oG h fun _ h=>(oG h fun _ h=>(oL h fun _ _ h=>(oC h (fun _ h=>⟨h_b,⟨p0,(oG h fun _ h=>(oG h fun _ h=>(oL h fun _ _ h=>(oC h (fun _ h=>(oG h fun _ h=>h)) fun _ h=>(oC h (fun _ h=>(oC h (fun _ h=>⟨h_b,⟨p0,(oG h fun _ h=>(oG h fun _ h=>(oL h fun _ _ h=>⟨h_b,⟨p0,(oG h fun _ h=>(oG h fun _ h=>(oL h fun _ _ h=>(oG h fun _ h=>(oG h fun _ h=>h)))))⟩⟩)))⟩⟩) fun _ h=>h)) fun _ h=>⟨h_b,⟨p0,(oG h fun _ h=>(oG h fun _ h=>(oL h fun _ _ h=>⟨h_b,⟨p0,(oG h fun _ h=>(oG h fun _ h=>(oL h fun _ _ h=>⟨h_b,⟨p0,(oG h fun _ h=>(oG h fun _ h=>(oL h fun _ _ h=>(oG h fun _ h=>h))))⟩⟩)))⟩⟩)))⟩⟩)))))⟩⟩) fun _ h=>h))))⟩⟩) (fun _ h=>h.elim)))
def c185:Con:=⟨[.dat TVS],fun args hp K=>g1 (pD TVS) (fun row=>(Sm TVS row)/\(LD row fun r=>K (.own 0 none) [(0,.arr .sh aa r)])) args hp,.bor,false⟩
abbrev C185:Ctx:=cx [] 6 [] 0 false
def ann185:=an [[kp 1],[kp 4]] []
theorem vc185 (row:LV) (K:KA):vcT C185 aC ann185 f185 [.data TVS row] [] .raw K =
 (((([]:List aa.D).length+row.length) * 32<=lim)/\K (.own 0 none) [(0,.arr .sh aa ([]++row))]):=by kernel_rfl
theorem con185_ok:bp P 185 c185:=bt C185 func185 kN fun args hp K h0=>by
 obtain⟨row,rfl,rfl,h_row,hK⟩:=g1e h0
 have h:ok (F.yG row) (fun r=>K (.own 0 none) [(0,.arr .sh aa r)]):=aA (F.zM row h_row) (hK _ rfl)
 refine⟨rfl,ann185,aC,.raw,(aH (by kernel_rfl)),?_⟩
 ·rw[vc185]
  exact⟨(uq (lY aa) h_row rfl),h⟩
def c151:Con:=⟨[.any,.lent ag,.dat ay],fun args hp K=>hpR (fun b p=>we (fun a0 a1 a2=>mS a0 (lg ag a1 fun c=>eM ay a2 fun n=>(Sm TBy b)/\(Sm TCS c)/\(M.ax b)/\(0<=p)/\(p<=996000000000000)/\(c.length<=6)/\(n=0)/\(LD (M.nK b p c n) fun r=>K (.own 0 none) [(0,.arr .dp TVS r.1),(1000000,.box [.data TBy b,dI r.2])]))) args []) hp,.plain,true⟩
abbrev C151:Ctx:=cx [(41,c41),(89,c89),(185,c185)] 43 [] 0 true
def ann151:=an [[kp 7],[kp 135],[kp 391],[kp 8583],[kp 391],[kp 8388999],[kp 391],[kp 391],[kp 64]] [[kp 128]]
abbrev s151_0 (b:LI) (p:Int) (c:LC) (n:Int) (v0:Int×Int×(List LV)):St:=⟨[(0,.ptr 1000000 0),(1,.brw ag c),(2,dI n),(7,.own 9 none),(8,dI v0.1)],[(1000000,.box [.data TBy b,dI v0.2.1]),(9,.arr .dp TVS v0.2.2)]⟩
abbrev LP151_0 (b:LI) (p:Int) (c:LC) (n:Int) (m:Nat) (st_:St) (K:KX):Prop:=True/\dX (s151_0 b p c n) (F.iW b p c n) (fun v0:Int×Int×(List LV)=>True) (fun e0:Int×(List LV)=>True->K (.exit 0) (⟨[(7,.own 9 none)],[(1000000,.box [.data TBy b,dI e0.1]),(9,.arr .dp TVS e0.2)]⟩:St)) m st_
def L151 (b:LI) (p:Int) (c:LC) (n:Int):bF:=lp1 0 (LP151_0 b p c n)
theorem vc151 (b:LI) (p:Int) (c:LC) (n:Int) (K:KA):vcT C151 (L151 b p c n) ann151 f151 [.ptr 1000000 0,.brw ag c,dI n] [(1000000,.box [.data TBy b,dI p])] .raw K =
 ((Sm TBy b)/\(M.ax b)/\(0<=p)/\(p<=1000000000000000)/\(LD (M.pick b p (7:Int)) fun r1=>(∃m_,True/\dX (s151_0 b p c n) (F.iW b p c n) (fun v0:Int×Int×(List LV)=>True) (fun e0:Int×(List LV)=>True->K (.own 0 none) [(0,.arr .dp TVS e0.2),(1000000,.box [.data TBy b,dI e0.1])]) m_ (s151_0 b p c n (r1.1,r1.2,[]))))):=by kernel_rfl
theorem lvc151_0 (b:LI) (p:Int) (c:LC) (n:Int)  (v0:Int×Int×(List LV)) (m:Nat) (K:KX):lvT C151 (L151 b p c n) ann151 f151 0 0 (s151_0 b p c n v0) m K =
 (cond (decide (Z0<v0.1)) (cond ((decide (Z0<(v0.2.2.length:Int)))==true) ((Sm TBy b)/\(M.ax b)/\(0<=v0.2.1)/\(v0.2.1<=1000000000000000)/\(LD (M.pick b v0.2.1 Z3) fun r2=>cond (decide (r2.1=Z0)) ((Sm TBy b)/\(M.ax b)/\(0<=r2.2)/\(r2.2<=1000000000000000)/\(LD (M.pick b r2.2 (v0.2.2.length:Int)) fun r3=>(0<=r3.1)/\(r3.1<(v0.2.2.length:Int))/\(Sm TVS (nth (t:=TVS) v0.2.2 r3.1))/\(LD (nth (t:=TVS) v0.2.2 r3.1) fun r4=>((v0.2.2.length+[r4].length) * 24<=lim)/\(nxT (LP151_0 b p c n) m K (s151_0 b p c n (wrap64 (v0.1-Z1),r3.2,(v0.2.2++[r4]))))))) ((Sm TBy b)/\(Sm TCS c)/\(M.ax b)/\(0<=r2.2)/\(r2.2<=997000000000000)/\(LD (M.kQ b r2.2 c n) fun r5=>((v0.2.2.length+[r5.1].length) * 24<=lim)/\(nxT (LP151_0 b p c n) m K (s151_0 b p c n (wrap64 (v0.1-Z1),r5.2,(v0.2.2++[r5.1])))))))) ((Sm TBy b)/\(Sm TCS c)/\(M.ax b)/\(0<=v0.2.1)/\(v0.2.1<=997000000000000)/\(LD (M.kQ b v0.2.1 c n) fun r5=>((v0.2.2.length+[r5.1].length) * 24<=lim)/\(nxT (LP151_0 b p c n) m K (s151_0 b p c n (wrap64 (v0.1-Z1),r5.2,(v0.2.2++[r5.1]))))))) (K (.exit 0) (⟨[(7,.own 9 none)],[(1000000,.box [.data TBy b,dI v0.2.1]),(9,.arr .dp TVS v0.2.2)]⟩:St))):=by kernel_rfl
theorem con151_ok:bp P 151 c151:=bt C151 func151 (kC con41_ok (kC con89_ok (kC con185_ok kN))) fun args hp K h0=>by
 unfold c151 at h0
 dsimp only at h0
 obtain⟨b,p,rfl,h00⟩:=fq h0
 obtain⟨a0,a1,a2,rfl,_,h1⟩:=jC h00
 obtain⟨rfl,h2⟩:=dw h1
 obtain⟨c,rfl,h3⟩:=cV h2
 obtain⟨n,rfl,h4⟩:=bg h3
 obtain⟨h_b,h_c,p0,p1,p2,p3,p4,hK⟩:=h4
 have h:ok (F.kq b p c n) (fun r=>K (.own 0 none) [(0,.arr .dp TVS r.1),(1000000,.box [.data TBy b,dI r.2])]):=aA (F.yj b p c n h_b h_c p0 p1 p2 p3 p4) (hK _ rfl)
 refine⟨rfl,ann151,(L151 b p c n),.raw,(bK (i0:=0) (by kernel_rfl) ?_),?_⟩
 ·rintro _ _ K ⟨hc0,v0,rfl,hv0,h⟩
  exact cast (lvc151_0 _ _ _ _ _ _ _).symm (cN h (fun m1 hm0 h=>(oC h (fun _ h=>(oC h (fun _ h=>⟨h_b,(oG h fun g1 h=>(oG h fun _ h=>(oG h fun _ h=>(oL h fun _ _ h=>(oC h (fun _ h=>⟨h_b,⟨g1,(oG h fun _ h=>(oG h fun _ h=>(oL h fun _ _ h=>(oG h fun _ h=>(oG h fun _ h=>(oG h fun _ h=>(oL h fun _ _ h=>(oG h fun _ h=>(aX (fun _ hm=>⟨hc0,hm⟩) hm0 _ rfl trivial h)))))))))⟩⟩) fun _ h=>⟨h_b,⟨h_c,⟨g1,(oG h fun _ h=>(oG h fun _ h=>(oL h fun _ _ h=>(oG h fun _ h=>(aX (fun _ hm=>⟨hc0,hm⟩) hm0 _ rfl trivial h)))))⟩⟩⟩)))))⟩) fun _ h=>⟨h_b,⟨h_c,(oG h fun _ h=>(oG h fun _ h=>(oG h fun _ h=>(oL h fun _ _ h=>(oG h fun _ h=>(aX (fun _ hm=>⟨hc0,hm⟩) hm0 _ rfl trivial h))))))⟩⟩)) fun _ h=>((cu h :) trivial))))
 ·rw[vc151]
  exact⟨h_b,⟨p0,⟨p1,(oG h fun _ h=>(oL h fun _ _ h=>(bX (fun m hm=>⟨trivial,hm⟩) _ rfl trivial (gk h (fun e0 h hv0=>h)))))⟩⟩⟩
def c104:Con:=⟨[.any,.dat ay],fun args hp K=>hpR (fun b p=>args2 (fun a0 a1=>mS a0 (eM ay a1 fun n=>(Sm TBy b)/\(M.ax b)/\(0<=p)/\(p<=995000000000000)/\(LD (M.dO b p n) fun r=>K (.own 0 none) [(0,.arr .dp aq r.1),(1000000,.box [.data TBy b,dI r.2])]))) args []) hp,.plain,true⟩
abbrev C104:Ctx:=cx [(41,c41),(88,c88),(106,c106),(151,c151)] 73 [] 0 true
def ann104:=an [[kp 3],[kp 35],[kp 99],[kp 16483],[kp 99],[kp 227],[kp 227],[.fixRow 8 aq,kp 355],[kp 99],[kp 274877906977],[.keep [5,40]],[kp 32],[.keep [5,40,51]],[kp 32],[.keep [5,59]],[kp 32],[kp 16]] [[kp 35]]
abbrev s104_0 (b:LI) (p:Int) (n:Int) (v0:Int×Int×LTb):St:=⟨[(0,.ptr 1000000 0),(1,dI n),(5,.own 9 none),(6,dI v0.1)],[(1000000,.box [.data TBy b,dI v0.2.1]),(9,.arr .dp aq v0.2.2)]⟩
abbrev LP104_0 (b:LI) (p:Int) (n:Int) (m:Nat) (st_:St) (K:KX):Prop:=True/\dX (s104_0 b p n) (F.gp b p n) (fun v0:Int×Int×LTb=>True) (fun e0:Int×LTb=>True->K (.exit 0) (⟨[(0,.ptr 1000000 0),(1,dI n),(5,.own 9 none)],[(1000000,.box [.data TBy b,dI e0.1]),(9,.arr .dp aq e0.2)]⟩:St)) m st_
def L104 (b:LI) (p:Int) (n:Int):bF:=lp1 0 (LP104_0 b p n)
theorem vc104 (b:LI) (p:Int) (n:Int) (K:KA):vcT C104 (L104 b p n) ann104 f104 [.ptr 1000000 0,dI n] [(1000000,.box [.data TBy b,dI p])] .raw K =
 ((Sm TBy b)/\(M.ax b)/\(0<=p)/\(p<=1000000000000000)/\(LD (M.pick b p Z3) fun r1=>(∃m_,True/\dX (s104_0 b p n) (F.gp b p n) (fun v0:Int×Int×LTb=>True) (fun e0:Int×LTb=>True->(Sm TBy b)/\(M.ax b)/\(0<=e0.1)/\(e0.1<=999000000000000)/\(LD (M.odd b e0.1 n) fun r2=>cond r2.1 ((Sm TBy b)/\(M.ax b)/\(0<=r2.2)/\(r2.2<=1000000000000000)/\(LD (M.pick b r2.2 Z3) fun r3=>cond (decide (r3.1=Z0)) (((e0.2.length+([([],([],())),([],([],())),([],([],()))]:List aq.D).length) * 48<=lim)/\K (.own 0 none) [(0,.arr .dp aq (e0.2++[([],([],())),([],([],())),([],([],()))])),(1000000,.box [.data TBy b,dI r3.2])]) (cond (decide (r3.1=Z1)) ((0<=Z0)/\(Z0<(e0.2.length:Int))/\(((nT e0.2 Z0).2.1.length+([[((9:Int),(Z0,((⟨#[]⟩:ByteArray),())))]]:List TVS.D).length) * 24<=lim)/\(0<=Z0)/\(Z0<((e0.2.set Z0.toNat ((nT e0.2 Z0).1,([],()))).length:Int))/\(Z0=Z0)/\(let y1:LTb:=((e0.2.set Z0.toNat ((nT e0.2 Z0).1,([],()))).set Z0.toNat ((nT (e0.2.set Z0.toNat ((nT e0.2 Z0).1,([],()))) Z0).1,(((nT e0.2 Z0).2.1++[[((9:Int),(Z0,((⟨#[]⟩:ByteArray),())))]]),())));K (.own 0 none) [(0,.arr .dp aq y1),(1000000,.box [.data TBy b,dI r3.2])])) ((0<=Z0)/\(Z0<(e0.2.length:Int))/\(((nT e0.2 Z0).1.length+[(Z1,(false,()))].length) * 16<=lim)/\(0<=Z0)/\(Z0<((e0.2.set Z0.toNat ([],(nT e0.2 Z0).2)).length:Int))/\(Z0=Z0)/\(let y2:LTb:=((e0.2.set Z0.toNat ([],(nT e0.2 Z0).2)).set Z0.toNat (((nT e0.2 Z0).1++[(Z1,(false,()))]),(nT (e0.2.set Z0.toNat ([],(nT e0.2 Z0).2)) Z0).2));K (.own 0 none) [(0,.arr .dp aq y2),(1000000,.box [.data TBy b,dI r3.2])]))))) (K (.own 0 none) [(0,.arr .dp aq e0.2),(1000000,.box [.data TBy b,dI r2.2])]))) m_ (s104_0 b p n (wrap64 (Z1+r1.1),r1.2,[]))))):=by kernel_rfl
theorem lvc104_0 (b:LI) (p:Int) (n:Int)  (v0:Int×Int×LTb) (m:Nat) (K:KX):lvT C104 (L104 b p n) ann104 f104 0 0 (s104_0 b p n v0) m K =
 (cond (decide (Z0<v0.1)) ((Sm TBy b)/\(M.ax b)/\(0<=v0.2.1)/\(v0.2.1<=998000000000000)/\(LD (M.fI b v0.2.1 Z0) fun r4=>(Sm TBy b)/\(M.ax b)/\(0<=r4.2)/\(r4.2<=1000000000000000)/\(LD (M.pick b r4.2 Z2) fun r5=>((r4.1.length:Int)≠0)/\(0<=Z0)/\(Z0<=wrap64 (Z1+(r5.1.tmod (r4.1.length:Int))))/\(wrap64 (Z1+(r5.1.tmod (r4.1.length:Int)))<=(r4.1.length:Int))/\(wrap64 (Z1+(r5.1.tmod (r4.1.length:Int)))=wrap64 (Z1+(r5.1.tmod (r4.1.length:Int))))/\(Sm TBy b)/\(Sm TCS (aD r4.1 (some (Z0,wrap64 (Z1+(r5.1.tmod (r4.1.length:Int)))))))/\(M.ax b)/\(0<=r5.2)/\(r5.2<=996000000000000)/\((aD r4.1 (some (Z0,wrap64 (Z1+(r5.1.tmod (r4.1.length:Int)))))).length<=6)/\(Z0=0)/\(LD (M.nK b r5.2 (aD r4.1 (some (Z0,wrap64 (Z1+(r5.1.tmod (r4.1.length:Int)))))) Z0) fun r6=>((v0.2.2.length+[((aD r4.1 (some (Z0,wrap64 (Z1+(r5.1.tmod (r4.1.length:Int)))))),(r6.1,()))].length) * 48<=lim)/\(nxT (LP104_0 b p n) m K (s104_0 b p n (wrap64 (v0.1-Z1),r6.2,(v0.2.2++[((aD r4.1 (some (Z0,wrap64 (Z1+(r5.1.tmod (r4.1.length:Int)))))),(r6.1,()))])))))))) (K (.exit 0) (⟨[(0,.ptr 1000000 0),(1,dI n),(5,.own 9 none)],[(1000000,.box [.data TBy b,dI v0.2.1]),(9,.arr .dp aq v0.2.2)]⟩:St))):=by kernel_rfl
theorem con104_ok:bp P 104 c104:=bt C104 func104 (kC con41_ok (kC con88_ok (kC con106_ok (kC con151_ok kN)))) fun args hp K h0=>by
 unfold c104 at h0
 dsimp only at h0
 obtain⟨b,p,rfl,h00⟩:=fq h0
 obtain⟨a0,a1,rfl,_,h1⟩:=bP h00
 obtain⟨rfl,h2⟩:=dw h1
 obtain⟨n,rfl,h3⟩:=bg h2
 obtain⟨h_b,p0,p1,p2,hK⟩:=h3
 have h:ok (F.gN b p n) (fun r=>K (.own 0 none) [(0,.arr .dp aq r.1),(1000000,.box [.data TBy b,dI r.2])]):=aA (F.tT b p n h_b p0 p1 p2) (hK _ rfl)
 refine⟨rfl,ann104,(L104 b p n),.raw,(bK (i0:=0) (by kernel_rfl) ?_),?_⟩
 ·rintro _ _ K ⟨hc0,v0,rfl,hv0,h⟩
  exact cast (lvc104_0 _ _ _ _ _ _).symm (cN h (fun m1 hm0 h=>(oC h (fun _ h=>⟨h_b,(oG h fun g1 h=>(oG h fun _ h=>(oG h fun _ h=>(oL h fun _ _ h=>⟨h_b,⟨g1,(oG h fun _ h=>(oG h fun _ h=>(oL h fun _ _ h=>(oG h fun _ h=>⟨(Int.natCast_nonneg 0),(oG h fun _ h=>(oG h fun _ h=>⟨rfl,⟨h_b,(oG h fun _ h=>⟨g1,(oG h fun _ h=>(oG h fun _ h=>(oG h fun _ h=>(oG h fun _ h=>(oL h fun _ _ h=>(oG h fun _ h=>(aX (fun _ hm=>⟨hc0,hm⟩) hm0 _ rfl trivial h)))))))⟩)⟩⟩))⟩))))⟩⟩))))⟩) fun _ h=>((cu h :) trivial))))
 ·rw[vc104]
  exact⟨h_b,⟨p0,⟨p1,(oG h fun _ h=>(oL h fun _ _ h=>(bX (fun m hm=>⟨trivial,hm⟩) _ rfl trivial (gk h (fun e0 h hv0=>⟨h_b,⟨p0,(oG h fun _ h=>(oG h fun _ h=>(oL h fun _ _ h=>(oC h (fun _ h=>⟨h_b,⟨p0,(oG h fun _ h=>(oG h fun _ h=>(oL h fun _ _ h=>(oC h (fun _ h=>(oG h fun _ h=>h)) fun _ h=>(oC h (fun _ h=>⟨(Int.natCast_nonneg 0),(oG h fun _ h=>(oG h fun _ h=>⟨(Int.natCast_nonneg 0),(oG h fun _ h=>⟨rfl,(have h:=cJ h _ rfl;h)⟩)⟩))⟩) fun _ h=>⟨(Int.natCast_nonneg 0),(oG h fun _ h=>(oG h fun _ h=>⟨(Int.natCast_nonneg 0),(oG h fun _ h=>⟨rfl,(have h:=cJ h _ rfl;h)⟩)⟩))⟩)))))⟩⟩) fun _ h=>h))))⟩⟩)))))⟩⟩⟩
def c91:Con:=⟨[.any,.dat TCS,.dat ay],fun args hp K=>hpR (fun b p=>we (fun a0 a1 a2=>mS a0 (eM TCS a1 fun columns=>eM ay a2 fun kind=>(Sm TBy b)/\(Sm TCS columns)/\(M.ax b)/\(0<=p)/\(p<=997000000000000)/\(LD (M.dy b p columns kind) fun r=>K (.data aE r.1) [(1000000,.box [.data TBy b,dI r.2])]))) args []) hp,.plain,true⟩
abbrev C91:Ctx:=cx [(41,c41),(129,c129)] 41 [] 0 false
def ann91:=an [[kp 71],[kp 199],[kp 32967],[kp 199],[kp 455],[kp 8589935047],[kp 64],[kp 64]] [[kp 69]]
abbrev s91_0 (b:LI) (p:Int) (columns:LC) (kind:Int) (v0:Int×Int):St:=⟨[(0,.ptr 1000000 0),(1,.data TCS columns),(2,dI kind),(6,.ptr 6 0),(7,dI v0.1)],[(1000000,.box [.data TBy b,dI v0.2]),(6,.box [dI Z0,dI Z0,dI Z0,dI Z0,.data Ty.str (⟨#[]⟩:ByteArray)])]⟩
abbrev LP91_0 (b:LI) (p:Int) (columns:LC) (kind:Int) (m:Nat) (st_:St) (K:KX):Prop:=True/\dX (s91_0 b p columns kind) (F.iB b p columns kind) (fun v0:Int×Int=>True) (bn (fun e0:Int=>True->K (.exit 0) (⟨[(0,.ptr 1000000 0),(2,dI kind),(6,.ptr 6 0)],[(1000000,.box [.data TBy b,dI e0]),(6,.box [dI Z0,dI Z0,dI Z0,dI Z0,.data Ty.str (⟨#[]⟩:ByteArray)])]⟩:St)) (fun q0:Int×Int=>K .ret (⟨[(6,.ptr 6 0)],[(1000000,.box [.data TBy b,dI q0.1]),(6,.box [dI Z2,dI q0.2,dI Z0,dI Z0,.data Ty.str (⟨#[]⟩:ByteArray)])]⟩:St))) m st_
def L91 (b:LI) (p:Int) (columns:LC) (kind:Int):bF:=lp1 0 (LP91_0 b p columns kind)
theorem vc91 (b:LI) (p:Int) (columns:LC) (kind:Int) (K:KA):vcT C91 (L91 b p columns kind) ann91 f91 [.ptr 1000000 0,.data TCS columns,dI kind] [(1000000,.box [.data TBy b,dI p])] (.dat aE) K =
 (∃m_,True/\dX (s91_0 b p columns kind) (F.iB b p columns kind) (fun v0:Int×Int=>True) (bn (fun e0:Int=>True->(Sm TBy b)/\(M.ax b)/\(0<=e0)/\(e0<=998000000000000)/\(LD (M.jU b e0 (kind,(false,()))) fun r1=>K (.data aE (Z1,(Z0,(r1.1,())))) [(1000000,.box [.data TBy b,dI r1.2])])) (fun q0:Int×Int=>K (.data aE (Z2,(q0.2,((Z0,(Z0,((⟨#[]⟩:ByteArray),()))),())))) [(1000000,.box [.data TBy b,dI q0.1])])) m_ (s91_0 b p columns kind (Z0,p))):=by kernel_rfl
abbrev S91l0_0 (b:LI) (p:Int) (columns:LC) (kind:Int)  (v0:Int×Int) (m:Nat) (K:KX):Prop:=K (.exit 0) (⟨[(0,.ptr 1000000 0),(2,dI kind),(6,.ptr 6 0)],[(1000000,.box [.data TBy b,dI v0.2]),(6,.box [dI Z0,dI Z0,dI Z0,dI Z0,.data Ty.str (⟨#[]⟩:ByteArray)])]⟩:St)
theorem lvc91_0 (b:LI) (p:Int) (columns:LC) (kind:Int)  (v0:Int×Int) (m:Nat) (K:KX):lvT C91 (L91 b p columns kind) ann91 f91 0 0 (s91_0 b p columns kind v0) m K =
 (cond ((decide (v0.1<Z4))==true) (cond (decide (Z0<(columns.length:Int))) ((Sm TBy b)/\(M.ax b)/\(0<=v0.2)/\(v0.2<=1000000000000000)/\(LD (M.pick b v0.2 (columns.length:Int)) fun r2=>(0<=r2.1)/\(r2.1<(columns.length:Int))/\cond ((decide ((nC columns r2.1).1=kind))==true) ((Sm TBy b)/\(M.ax b)/\(0<=r2.2)/\(r2.2<=1000000000000000)/\(LD (M.pick b r2.2 Z3) fun r3=>cond (decide (Z0<r3.1)) (K .ret (⟨[(6,.ptr 6 0)],[(1000000,.box [.data TBy b,dI r3.2]),(6,.box [dI Z2,dI r2.1,dI Z0,dI Z0,.data Ty.str (⟨#[]⟩:ByteArray)])]⟩:St)) (nxT (LP91_0 b p columns kind) m K (s91_0 b p columns kind (wrap64 (v0.1+Z1),r3.2))))) (nxT (LP91_0 b p columns kind) m K (s91_0 b p columns kind (wrap64 (v0.1+Z1),r2.2))))) (S91l0_0  b p columns kind v0 m K)) (S91l0_0  b p columns kind v0 m K)):=by kernel_rfl
theorem con91_ok:bp P 91 c91:=bt C91 func91 (kC con41_ok (kC con129_ok kN)) fun args hp K h0=>by
 unfold c91 at h0
 dsimp only at h0
 obtain⟨b,p,rfl,h00⟩:=fq h0
 obtain⟨a0,a1,a2,rfl,_,h1⟩:=jC h00
 obtain⟨rfl,h2⟩:=dw h1
 obtain⟨columns,rfl,h3⟩:=bg h2
 obtain⟨kind,rfl,h4⟩:=bg h3
 obtain⟨h_b,h_columns,p0,p1,p2,hK⟩:=h4
 have h:ok (F.jl b p columns kind) (fun r=>K (.data aE r.1) [(1000000,.box [.data TBy b,dI r.2])]):=aA (F.wO b p columns kind h_b h_columns p0 p1 p2) (hK _ rfl)
 refine⟨rfl,ann91,(L91 b p columns kind),(.dat aE),(bK (i0:=0) (by kernel_rfl) ?_),?_⟩
 ·rintro _ _ K ⟨hc0,v0,rfl,hv0,h⟩
  exact cast (lvc91_0 _ _ _ _ _ _ _).symm (cN h (fun m1 hm0 h=>(oC h (fun _ h=>(oC h (fun _ h=>⟨h_b,(oG h fun g1 h=>(oG h fun _ h=>(oG h fun _ h=>(oL h fun _ _ h=>(oG h fun _ h=>(oG h fun _ h=>(oC h (fun _ h=>⟨h_b,⟨g1,(oG h fun _ h=>(oG h fun _ h=>(oL h fun _ _ h=>(oC h (fun _ h=>h) fun _ h=>(aX (fun _ hm=>⟨hc0,hm⟩) hm0 _ rfl trivial h)))))⟩⟩) fun _ h=>(aX (fun _ hm=>⟨hc0,hm⟩) hm0 _ rfl trivial h))))))))⟩) fun _ h=>((cu h :) trivial))) fun _ h=>((cu h :) trivial))))
 ·rw[vc91]
  exact(bX (fun m hm=>⟨trivial,hm⟩) _ rfl trivial (aR h (fun e0 h hv0=>⟨h_b,⟨p0,(oG h fun _ h=>(oG h fun _ h=>(oL h fun _ _ h=>h)))⟩⟩) (fun q0 h=>h)))
def c42r (n_:Nat):Con:=⟨[.any,.dat TCS,.dat ay,.dat ay],fun args hp K=>hpR (fun b p=>CK (fun a0 a1 a2 a3=>mS a0 (eM TCS a1 fun columns=>eM ay a2 fun kind=>eM ay a3 fun deep=>(Sm TBy b)/\(Sm TCS columns)/\(M.ax b)/\(0<=p)/\(p+40 * (M.eB deep:Int)<=996000000000000)/\(deep<=3)/\(deep.toNat<n_)/\(LD (M.bB n_ b p columns kind deep) fun r=>K (.own 0 none) [(0,.arr .sh aE r.1),(1000000,.box [.data TBy b,dI r.2])]))) args []) hp,.plain,true⟩
abbrev C42 (n_:Nat):Ctx:=cx [(41,c41),(91,c91),(42,c42r n_)] 111 [] 0 false
def ann42:=an [[kp 15],[kp 65551],[kp 256],[kp 8388623],[kp 256],[kp 1099511627791],[kp 256],[kp 140737488355339],[kp 422212465065995],[kp 256],[.keep [0,1,3,47,67]],[kp 256],[.keep [0,1,3,77]],[kp 256],[kp 523],[kp 256]] []
theorem vc42 (n_:Nat) (b:LI) (p:Int) (columns:LC) (kind:Int) (deep:Int) (K:KA):vcT (C42 n_) aC ann42 f42 [.ptr 1000000 0,.data TCS columns,dI kind,dI deep] [(1000000,.box [.data TBy b,dI p])] .raw K =
 (cond ((decide (deep<Z1))==false) ((Sm TBy b)/\(M.ax b)/\(0<=p)/\(p<=1000000000000000)/\(LD (M.pick b p Z4) fun r1=>cond (decide (r1.1=Z0)) ((Sm TBy b)/\(Sm TCS columns)/\(M.ax b)/\(0<=r1.2)/\(r1.2<=997000000000000)/\(LD (M.dy b r1.2 columns kind) fun r2=>K (.own 0 none) [(0,.arr .sh aE [r2.1]),(1000000,.box [.data TBy b,dI r2.2])])) (cond (decide (kind=Z1)) ((Sm TBy b)/\(Sm TCS columns)/\(M.ax b)/\(0<=r1.2)/\(r1.2+40 * (M.eB (wrap64 (deep-Z1)):Int)<=996000000000000)/\((wrap64 (deep-Z1))<=3)/\((wrap64 (deep-Z1)).toNat<n_)/\(LD (M.bB n_ b r1.2 columns kind (wrap64 (deep-Z1))) fun r3=>(Sm TBy b)/\(Sm TCS columns)/\(M.ax b)/\(0<=r3.2)/\(r3.2<=997000000000000)/\(LD (M.dy b r3.2 columns kind) fun r4=>((r3.1.length+[r4.1].length) * 48<=lim)/\(((r3.1++[r4.1]).length+([(Z3,(Z0,((Z0,(Z0,((⟨#[]⟩:ByteArray),()))),())))]:List aE.D).length) * 48<=lim)/\K (.own 0 none) [(0,.arr .sh aE ((r3.1++[r4.1])++[(Z3,(Z0,((Z0,(Z0,((⟨#[]⟩:ByteArray),()))),())))])),(1000000,.box [.data TBy b,dI r4.2])]))) (cond (decide (kind=Z2)) ((Sm TBy b)/\(Sm TCS columns)/\(M.ax b)/\(0<=r1.2)/\(r1.2<=997000000000000)/\(LD (M.dy b r1.2 columns kind) fun r5=>K (.own 0 none) [(0,.arr .sh aE [r5.1]),(1000000,.box [.data TBy b,dI r5.2])])) ((Sm TBy b)/\(M.ax b)/\(0<=r1.2)/\(r1.2<=1000000000000000)/\(LD (M.pick b r1.2 Z6) fun r6=>cond (decide (r6.1=Z0)) ((Sm TBy b)/\(Sm TCS columns)/\(M.ax b)/\(0<=r6.2)/\(r6.2+40 * (M.eB (wrap64 (deep-Z1)):Int)<=996000000000000)/\((wrap64 (deep-Z1))<=3)/\((wrap64 (deep-Z1)).toNat<n_)/\(LD (M.bB n_ b r6.2 columns Z3 (wrap64 (deep-Z1))) fun r7=>(Sm TBy b)/\(Sm TCS columns)/\(M.ax b)/\(0<=r7.2)/\(r7.2+40 * (M.eB (wrap64 (deep-Z2)):Int)<=996000000000000)/\((wrap64 (deep-Z2))<=3)/\((wrap64 (deep-Z2)).toNat<n_)/\(LD (M.bB n_ b r7.2 columns Z3 (wrap64 (deep-Z2))) fun r8=>((r7.1.length+r8.1.length) * 48<=lim)/\(Sm TBy b)/\(M.ax b)/\(0<=r8.2)/\(r8.2<=1000000000000000)/\(LD (M.pick b r8.2 Z2) fun r9=>(((r7.1++r8.1).length+([(wrap64 (Z5+r9.1),(Z0,((Z0,(Z0,((⟨#[]⟩:ByteArray),()))),())))]:List aE.D).length) * 48<=lim)/\K (.own 0 none) [(0,.arr .sh aE ((r7.1++r8.1)++[(wrap64 (Z5+r9.1),(Z0,((Z0,(Z0,((⟨#[]⟩:ByteArray),()))),())))])),(1000000,.box [.data TBy b,dI r9.2])])))) (cond (decide (r6.1=Z1)) ((Sm TBy b)/\(Sm TCS columns)/\(M.ax b)/\(0<=r6.2)/\(r6.2+40 * (M.eB (wrap64 (deep-Z1)):Int)<=996000000000000)/\((wrap64 (deep-Z1))<=3)/\((wrap64 (deep-Z1)).toNat<n_)/\(LD (M.bB n_ b r6.2 columns Z3 (wrap64 (deep-Z1))) fun r10=>((r10.1.length+([((7:Int),(Z0,((Z0,(Z0,((⟨#[]⟩:ByteArray),()))),())))]:List aE.D).length) * 48<=lim)/\K (.own 0 none) [(0,.arr .sh aE (r10.1++[((7:Int),(Z0,((Z0,(Z0,((⟨#[]⟩:ByteArray),()))),())))])),(1000000,.box [.data TBy b,dI r10.2])])) (cond (decide (r6.1=Z2)) ((Sm TBy b)/\(M.ax b)/\(0<=r6.2)/\(r6.2<=1000000000000000)/\(LD (M.pick b r6.2 Z3) fun r11=>(Sm TBy b)/\(Sm TCS columns)/\(M.ax b)/\(0<=r11.2)/\(r11.2+40 * (M.eB (wrap64 (deep-Z1)):Int)<=996000000000000)/\((wrap64 (deep-Z1))<=3)/\((wrap64 (deep-Z1)).toNat<n_)/\(LD (M.bB n_ b r11.2 columns (wrap64 (Z1+r11.1)) (wrap64 (deep-Z1))) fun r12=>((r12.1.length+([((8:Int),(Z0,((Z0,(Z0,((⟨#[]⟩:ByteArray),()))),())))]:List aE.D).length) * 48<=lim)/\K (.own 0 none) [(0,.arr .sh aE (r12.1++[((8:Int),(Z0,((Z0,(Z0,((⟨#[]⟩:ByteArray),()))),())))])),(1000000,.box [.data TBy b,dI r12.2])]))) ((Sm TBy b)/\(M.ax b)/\(0<=r6.2)/\(r6.2<=1000000000000000)/\(LD (M.pick b r6.2 Z3) fun r13=>(Sm TBy b)/\(Sm TCS columns)/\(M.ax b)/\(0<=r13.2)/\(r13.2+40 * (M.eB (wrap64 (deep-Z1)):Int)<=996000000000000)/\((wrap64 (deep-Z1))<=3)/\((wrap64 (deep-Z1)).toNat<n_)/\(LD (M.bB n_ b r13.2 columns (wrap64 (Z1+r13.1)) (wrap64 (deep-Z1))) fun r14=>(Sm TBy b)/\(Sm TCS columns)/\(M.ax b)/\(0<=r14.2)/\(r14.2<=997000000000000)/\(LD (M.dy b r14.2 columns (wrap64 (Z1+r13.1))) fun r15=>((r14.1.length+[r15.1].length) * 48<=lim)/\(Sm TBy b)/\(M.ax b)/\(0<=r15.2)/\(r15.2<=1000000000000000)/\(LD (M.pick b r15.2 Z4) fun r16=>(((r14.1++[r15.1]).length+([(Z4,(wrap64 (Z1+r16.1),((Z0,(Z0,((⟨#[]⟩:ByteArray),()))),())))]:List aE.D).length) * 48<=lim)/\K (.own 0 none) [(0,.arr .sh aE ((r14.1++[r15.1])++[(Z4,(wrap64 (Z1+r16.1),((Z0,(Z0,((⟨#[]⟩:ByteArray),()))),())))])),(1000000,.box [.data TBy b,dI r16.2])]))))))))))))) ((Sm TBy b)/\(Sm TCS columns)/\(M.ax b)/\(0<=p)/\(p<=997000000000000)/\(LD (M.dy b p columns kind) fun r2=>K (.own 0 none) [(0,.arr .sh aE [r2.1]),(1000000,.box [.data TBy b,dI r2.2])]))):=by kernel_rfl
theorem con42r_ok:∀n_,bp P 42 (c42r n_)
 | 0=>bt (cx [] 111 [] 0 false) func42 kN fun args hp K h0=>by
  unfold c42r at h0
  dsimp only at h0
  obtain⟨b,p,rfl,h00⟩:=fq h0
  obtain⟨a0,a1,a2,a3,rfl,_,h1⟩:=sw h00
  obtain⟨rfl,h2⟩:=dw h1
  obtain⟨columns,rfl,h3⟩:=bg h2
  obtain⟨kind,rfl,h4⟩:=bg h3
  obtain⟨deep,rfl,h5⟩:=bg h4
  obtain⟨h_b,h_columns,p0,p1,p2,p3,p4,_⟩:=h5
  exact absurd p4 (Nat.not_lt_zero _)
 | n_+1=>(fun ih=>bt (C42 n_) func42 (kC con41_ok (kC con91_ok (kC ih kN))) fun args hp K h0=>by
  unfold c42r at h0
  dsimp only at h0
  obtain⟨b,p,rfl,h00⟩:=fq h0
  obtain⟨a0,a1,a2,a3,rfl,_,h1⟩:=sw h00
  obtain⟨rfl,h2⟩:=dw h1
  obtain⟨columns,rfl,h3⟩:=bg h2
  obtain⟨kind,rfl,h4⟩:=bg h3
  obtain⟨deep,rfl,h5⟩:=bg h4
  obtain⟨h_b,h_columns,p0,p1,p2,p3,p4,hK⟩:=h5
  have h:ok (F.lJ n_ b p columns kind deep) (fun r=>K (.own 0 none) [(0,.arr .sh aE r.1),(1000000,.box [.data TBy b,dI r.2])]):=aA (F.wG n_ b p columns kind deep h_b h_columns p0 p1 p2 p3 p4) (hK _ rfl)
  refine⟨rfl,ann42,aC,.raw,(aH (by kernel_rfl)),?_⟩
  ·rw[vc42]
   exact(oC h (fun _ h=>⟨h_b,⟨p0,⟨p1,(oG h fun _ h=>(oL h fun _ _ h=>(oC h (fun _ h=>⟨h_b,⟨h_columns,⟨p0,(oG h fun _ h=>(oG h fun _ h=>(oL h fun _ _ h=>h)))⟩⟩⟩) fun _ h=>(oC h (fun _ h=>⟨h_b,⟨h_columns,⟨p0,(oG h fun _ h=>(oG h fun _ h=>(oG h fun _ h=>(oG h fun _ h=>(oL h fun _ _ h=>⟨h_b,⟨h_columns,⟨p0,(oG h fun _ h=>(oG h fun _ h=>(oL h fun _ _ h=>(oG h fun _ h=>(oG h fun _ h=>h)))))⟩⟩⟩)))))⟩⟩⟩) fun _ h=>(oC h (fun _ h=>⟨h_b,⟨h_columns,⟨p0,(oG h fun _ h=>(oG h fun _ h=>(oL h fun _ _ h=>h)))⟩⟩⟩) fun _ h=>⟨h_b,⟨p0,(oG h fun _ h=>(oG h fun _ h=>(oL h fun _ _ h=>(oC h (fun _ h=>⟨h_b,⟨h_columns,⟨p0,(oG h fun _ h=>(oG h fun _ h=>(oG h fun _ h=>(oG h fun _ h=>(oL h fun _ _ h=>⟨h_b,⟨h_columns,⟨p0,(oG h fun _ h=>(oG h fun _ h=>(oG h fun _ h=>(oG h fun _ h=>(oL h fun _ _ h=>(oG h fun _ h=>⟨h_b,⟨p0,(oG h fun _ h=>(oG h fun _ h=>(oL h fun _ _ h=>(oG h fun _ h=>h))))⟩⟩))))))⟩⟩⟩)))))⟩⟩⟩) fun _ h=>(oC h (fun _ h=>⟨h_b,⟨h_columns,⟨p0,(oG h fun _ h=>(oG h fun _ h=>(oG h fun _ h=>(oG h fun _ h=>(oL h fun _ _ h=>(oG h fun _ h=>h))))))⟩⟩⟩) fun _ h=>(oC h (fun _ h=>⟨h_b,⟨p0,(oG h fun _ h=>(oG h fun _ h=>(oL h fun _ _ h=>⟨h_b,⟨h_columns,⟨p0,(oG h fun _ h=>(oG h fun _ h=>(oG h fun _ h=>(oG h fun _ h=>(oL h fun _ _ h=>(oG h fun _ h=>h))))))⟩⟩⟩)))⟩⟩) fun _ h=>⟨h_b,⟨p0,(oG h fun _ h=>(oG h fun _ h=>(oL h fun _ _ h=>⟨h_b,⟨h_columns,⟨p0,(oG h fun _ h=>(oG h fun _ h=>(oG h fun _ h=>(oG h fun _ h=>(oL h fun _ _ h=>⟨h_b,⟨h_columns,⟨p0,(oG h fun _ h=>(oG h fun _ h=>(oL h fun _ _ h=>(oG h fun _ h=>⟨h_b,⟨p0,(oG h fun _ h=>(oG h fun _ h=>(oL h fun _ _ h=>(oG h fun _ h=>h))))⟩⟩))))⟩⟩⟩)))))⟩⟩⟩)))⟩⟩))))))⟩⟩)))))⟩⟩⟩) fun _ h=>⟨h_b,⟨h_columns,⟨p0,⟨p1,(oG h fun _ h=>(oL h fun _ _ h=>h))⟩⟩⟩⟩)) (con42r_ok n_)
def c42:Con:=c42r 64
theorem con42_ok:bp P 42 c42:=con42r_ok 64
def c69:Con:=⟨[.dat ay,.dat ay,.dat ay],fun args hp K=>g3 (pD ay) (pD ay) (pD ay) (fun n low high=>K (dB (M.inR n low high)) []) args hp,.plain,false⟩
abbrev C69:Ctx:=cx [] 15 [] 0 false
def ann69:=an [[kp 7],[kp 64]] []
theorem vc69 (n:Int) (low:Int) (high:Int) (K:KA):vcT C69 aC ann69 f69 [dI n,dI low,dI high] [] (.dat Ty.bool) K =
 (cond ((decide (low<=n))==true) (K (dB (decide (n<=high))) []) (K (dB false) [])):=by kernel_rfl
theorem con69_ok:bp P 69 c69:=bt C69 func69 kN fun args hp K h0=>by
 obtain⟨n,low,high,rfl,rfl,hK⟩:=g3e h0
 have h:ok (F.uU n low high) (fun r=>K (dB r) []):=aA (F.AZ n low high) hK
 refine⟨rfl,ann69,aC,(.dat Ty.bool),(aH (by kernel_rfl)),?_⟩
 ·rw[vc69]
  exact(oC h (fun _ h=>h) fun _ h=>h)
def c94:Con:=⟨[.dat TCS],fun args hp K=>g1 (pD TCS) (fun columns=>(Sm TCS columns)/\K (dB (M.bA columns)) []) args hp,.plain,false⟩
abbrev C94:Ctx:=cx [(69,c69)] 20 [] 0 false
def ann94:=an [[kp 1],[kp 9],[kp 137],[kp 9],[kp 65545],[kp 4],[kp 4]] [[kp 1]]
abbrev s94_0 (columns:LC) (i0:Int) (v0:Unit):St:=⟨[(0,.data TCS columns),(3,dI i0)],[]⟩
abbrev LP94_0 (columns:LC) (m:Nat) (st_:St) (K:KX):Prop:=True/\bU (t:=ag) (s94_0 columns) columns (F.gi columns) (fun v0:Unit=>True) (bn (fun v0:Unit=>True->K (.exit 0) (⟨[(0,.data TCS columns)],[]⟩:St)) (fun q0:Unit=>K .ret (⟨[(2,dB false)],[]⟩:St))) m st_
def L94 (columns:LC):bF:=lp1 0 (LP94_0 columns)
theorem vc94 (columns:LC) (K:KA):vcT C94 (L94 columns) ann94 f94 [.data TCS columns] [] (.dat Ty.bool) K =
 (∃m_,True/\bU (t:=ag) (s94_0 columns) columns (F.gi columns) (fun v0:Unit=>True) (bn (fun v0:Unit=>True->K (dB (decide ((columns.length:Int)<=Z4))) []) (fun q0:Unit=>K (dB false) [])) m_ (s94_0 columns Z0 ())):=by kernel_rfl
theorem lvc94_0 (columns:LC)  (i0:Int) (v0:Unit) (m:Nat) (K:KX):lvT C94 (L94 columns) ann94 f94 0 0 (s94_0 columns i0 v0) m K =
 (cond (decide (i0<(columns.length:Int))) ((0<=i0)/\(i0<(columns.length:Int))/\cond (!(M.inR (nC columns i0).1 Z1 Z3)) (K .ret (⟨[(2,dB false)],[]⟩:St)) (nxT (LP94_0 columns) m K (s94_0 columns (wrap64 (i0+Z1)) ()))) (K (.exit 0) (⟨[(0,.data TCS columns)],[]⟩:St))):=by kernel_rfl
theorem con94_ok:bp P 94 c94:=bt C94 func94 (kC con69_ok kN) fun args hp K h0=>by
 obtain⟨columns,rfl,rfl,h_columns,hK⟩:=g1e h0
 have h:ok (F.mq columns) (fun r=>K (dB r) []):=aA (F.ue columns h_columns) hK
 refine⟨rfl,ann94,(L94 columns),(.dat Ty.bool),(bK (i0:=0) (by kernel_rfl) ?_),?_⟩
 ·rintro _ _ K ⟨hc0,i0,v0,rfl,hl0,rfl,hv0,h⟩
  exact cast (lvc94_0 _ _ _ _ _).symm (bz (t:=ag) hl0 h (fun ht0 h=>⟨hl0,⟨ht0,(oC h (fun _ h=>h) fun _ h=>(aY (t:=ag) (fun _ hm=>⟨hc0,hm⟩) _ rfl hl0 ht0 (bD h_columns) trivial h))⟩⟩) fun h=>(h trivial))
 ·rw[vc94]
  exact(bf (t:=ag) (fun m hm=>⟨trivial,hm⟩) _ rfl trivial (aR h (fun v0 h hv0=>h) (fun q0 h=>h)))
def c180:Con:=⟨[.dat Ty.str],fun args hp K=>g1 (pD Ty.str) (fun s=>(Sm Ty.str s)/\K (dB (M.text s)) []) args hp,.plain,false⟩
abbrev C180:Ctx:=cx [] 23 [] 0 false
def ann180:=an [[kp 1],[kp 9],[kp 137],[kp 9],[kp 524297],[kp 4],[kp 4]] [[kp 1]]
abbrev s180_0 (s:ByteArray) (i0:Int) (v0:Unit):St:=⟨[(0,.data Ty.str s),(3,dI i0)],[]⟩
abbrev LP180_0 (s:ByteArray) (m:Nat) (st_:St) (K:KX):Prop:=True/\cB (s180_0 s) Z0 (s.size:Int) (F.jr s) (fun v0:Unit=>True) (bn (fun v0:Unit=>True->K (.exit 0) (⟨[(0,.data Ty.str s)],[]⟩:St)) (fun q0:Unit=>K .ret (⟨[(2,dB false)],[]⟩:St))) m st_
def L180 (s:ByteArray):bF:=lp1 0 (LP180_0 s)
theorem vc180 (s:ByteArray) (K:KA):vcT C180 (L180 s) ann180 f180 [.data Ty.str s] [] (.dat Ty.bool) K =
 (∃m_,True/\cB (s180_0 s) Z0 (s.size:Int) (F.jr s) (fun v0:Unit=>True) (bn (fun v0:Unit=>True->K (dB (decide ((s.size:Int)<=Z6))) []) (fun q0:Unit=>K (dB false) [])) m_ (s180_0 s Z0 ())):=by kernel_rfl
theorem lvc180_0 (s:ByteArray)  (i0:Int) (v0:Unit) (m:Nat) (K:KX):lvT C180 (L180 s) ann180 f180 0 0 (s180_0 s i0 v0) m K =
 (cond (decide (i0<(s.size:Int))) ((0<=i0)/\(i0<(s.size:Int))/\cond ((decide (((s.get! i0.toNat).toNat:Int)<(97:Int)))==false) ((0<=i0)/\(i0<(s.size:Int))/\cond (decide ((122:Int)<((s.get! i0.toNat).toNat:Int))) (K .ret (⟨[(2,dB false)],[]⟩:St)) (nxT (LP180_0 s) m K (s180_0 s (wrap64 (i0+Z1)) ()))) (K .ret (⟨[(2,dB false)],[]⟩:St))) (K (.exit 0) (⟨[(0,.data Ty.str s)],[]⟩:St))):=by kernel_rfl
theorem con180_ok:bp P 180 c180:=bt C180 func180 kN fun args hp K h0=>by
 obtain⟨s,rfl,rfl,h_s,hK⟩:=g1e h0
 have h:ok (F.qA s) (fun r=>K (dB r) []):=aA (F.yB s h_s) hK
 refine⟨rfl,ann180,(L180 s),(.dat Ty.bool),(bK (i0:=0) (by kernel_rfl) ?_),?_⟩
 ·rintro _ _ K ⟨hc0,i0,v0,rfl,hl0,rfl,hv0,h⟩
  exact cast (lvc180_0 _ _ _ _ _).symm (bO h (fun ht0 h=>⟨hl0,⟨ht0,(oC h (fun _ h=>⟨hl0,⟨ht0,(oC h (fun _ h=>h) fun _ h=>(aV (fun _ hm=>⟨hc0,hm⟩) _ rfl hl0 iM ht0 (HU h_s) trivial h))⟩⟩) fun _ h=>h)⟩⟩) fun h=>(h trivial))
 ·rw[vc180]
  exact(bE (fun m hm=>⟨trivial,hm⟩) Z0 _ rfl (Int.natCast_nonneg 0) trivial (aR h (fun v0 h hv0=>h) (fun q0 h=>h)))
def c137:Con:=⟨[.dat aa],fun args hp K=>g1 (pD aa) (fun v=>(Sm aa v)/\K (dB (M.aP v)) []) args hp,.plain,false⟩
abbrev C137:Ctx:=cx [(69,c69),(180,c180)] 45 [] 0 false
def ann137:=an [[.fixRow 1 aa,kp 2],[kp 18],[kp 50],[kp 4],[kp 32786],[kp 4],[kp 33554450],[kp 4],[.keep [1,35]],[kp 4],[kp 4]] []
theorem vc137 (v:aa.D) (K:KA):vcT C137 aC ann137 f137 [.data aa v] [] (.dat Ty.bool) K =
 (cond (decide (v.1=Z0)) (cond ((decide (v.2.1=Z0))==true) (K (dB (decide (v.2.2.1=(⟨#[]⟩:ByteArray)))) []) (K (dB false) [])) (cond (decide (v.1=Z1)) (cond ((M.inR v.2.1 (-9999:Int) (9999:Int))==true) (K (dB (decide (v.2.2.1=(⟨#[]⟩:ByteArray)))) []) (K (dB false) [])) (cond (decide (v.1=Z2)) (cond ((decide (v.2.1=Z0))==true) ((Sm Ty.str v.2.2.1)/\K (dB (M.text v.2.2.1)) []) (K (dB false) [])) (cond (decide (v.1=Z3)) (cond ((M.inR v.2.1 Z0 Z1)==true) (K (dB (decide (v.2.2.1=(⟨#[]⟩:ByteArray)))) []) (K (dB false) [])) (K (dB false) []))))):=by kernel_rfl
theorem con137_ok:bp P 137 c137:=bt C137 func137 (kC con69_ok (kC con180_ok kN)) fun args hp K h0=>by
 obtain⟨v,rfl,rfl,h_v,hK⟩:=g1e h0
 have h:ok (F.oE v) (fun r=>K (dB r) []):=aA (F.wU v h_v) hK
 refine⟨rfl,ann137,aC,(.dat Ty.bool),(aH (by kernel_rfl)),?_⟩
 ·rw[vc137]
  exact(oC h (fun _ h=>(oC h (fun _ h=>h) fun _ h=>h)) fun _ h=>(oC h (fun _ h=>(oC h (fun _ h=>h) fun _ h=>h)) fun _ h=>(oC h (fun _ h=>(oC h (fun _ h=>⟨h_v.2.2.1,h⟩) fun _ h=>h)) fun _ h=>(oC h (fun _ h=>(oC h (fun _ h=>h) fun _ h=>h)) fun _ h=>h))))
def c95:Con:=⟨[.dat TCS,.mv,.dat aE],fun args hp K=>hpN 0 .sh ay (fun kinds=>we (fun a0 a1 a2=>eM TCS a0 fun columns=>EB 0 a1 (eM aE a2 fun p=>(Sm TCS columns)/\(Sm (Ty.sl ay) kinds)/\(Sm aE p)/\(kinds.length<=1000)/\(LD (M.vr columns kinds p) fun r=>K (.tup [.own 0 none,dB r.2]) [(0,.arr .sh ay r.1)]))) args []) hp,.mv,false⟩
abbrev C95:Ctx:=cx [(69,c69),(137,c137)] 191 [] 0 true
def ann95:=an [[.fixRow 5 aE,kp 35],[kp 291],[kp 137438953763],[kp 192],[kp 1099511628067],[kp 3298534883619],[.keep [1,5,52]],[kp 192],[kp 192],[kp 1152922604118475043],[.keep [0,1,5,68]],[kp 192],[kp 192],[.keep [1,5,8,40,79]],[kp 770],[kp 192],[.keep [1,5,8,40,107]],[kp 1282],[kp 192],[.keep [1,8,40,137]],[.keep [1,8,40,137]],[kp 2306],[kp 192],[.keep [1,8,40,166]],[kp 192],[.keep [1,8,179]],[kp 192],[kp 192]] []
abbrev S95_0 (columns:LC) (kinds:LI) (p:aE.D) (K:KA):Prop:=(0<=Z0)/\(Z0<=(bC (wrap64 ((kinds.length:Int)-Z2)) Z0))/\((bC (wrap64 ((kinds.length:Int)-Z2)) Z0)<=(kinds.length:Int))/\((bC (wrap64 ((kinds.length:Int)-Z2)) Z0)=(bC (wrap64 ((kinds.length:Int)-Z2)) Z0))/\(Z0=0)/\(((bC (wrap64 ((kinds.length:Int)-Z2)) Z0).toNat+[Z1].length) * 8<=lim)/\K (.tup [.own 0 none,dB false]) [(0,.arr .sh ay (kinds.take (bC (wrap64 ((kinds.length:Int)-Z2)) Z0).toNat++[Z1]))]
abbrev S95_1 (columns:LC) (kinds:LI) (p:aE.D) (K:KA):Prop:=(0<=Z0)/\(Z0<=(bC (wrap64 ((kinds.length:Int)-Z2)) Z0))/\((bC (wrap64 ((kinds.length:Int)-Z2)) Z0)<=(kinds.length:Int))/\((bC (wrap64 ((kinds.length:Int)-Z2)) Z0)=(bC (wrap64 ((kinds.length:Int)-Z2)) Z0))/\(Z0=0)/\(((bC (wrap64 ((kinds.length:Int)-Z2)) Z0).toNat+[Z3].length) * 8<=lim)/\K (.tup [.own 0 none,dB false]) [(0,.arr .sh ay (kinds.take (bC (wrap64 ((kinds.length:Int)-Z2)) Z0).toNat++[Z3]))]
abbrev S95_2 (columns:LC) (kinds:LI) (p:aE.D) (K:KA):Prop:=(S95_1 columns kinds p K)
abbrev S95_3 (columns:LC) (kinds:LI) (p:aE.D) (K:KA):Prop:=cond ((decide (Z1<(kinds.length:Int)))==true) ((0<=wrap64 ((kinds.length:Int)-Z1))/\(wrap64 ((kinds.length:Int)-Z1)<(kinds.length:Int))/\cond ((decide ((nI kinds (wrap64 ((kinds.length:Int)-Z1)))=Z3))==true) ((0<=wrap64 ((kinds.length:Int)-Z2))/\(wrap64 ((kinds.length:Int)-Z2)<(kinds.length:Int))/\(0<=Z0)/\(Z0<=(bC (wrap64 ((kinds.length:Int)-Z2)) Z0))/\((bC (wrap64 ((kinds.length:Int)-Z2)) Z0)<=(kinds.length:Int))/\((bC (wrap64 ((kinds.length:Int)-Z2)) Z0)=(bC (wrap64 ((kinds.length:Int)-Z2)) Z0))/\(Z0=0)/\(((bC (wrap64 ((kinds.length:Int)-Z2)) Z0).toNat+[Z3].length) * 8<=lim)/\K (.tup [.own 0 none,dB (decide ((nI kinds (wrap64 ((kinds.length:Int)-Z2)))=Z3))]) [(0,.arr .sh ay (kinds.take (bC (wrap64 ((kinds.length:Int)-Z2)) Z0).toNat++[Z3]))]) (S95_2 columns kinds p K)) (S95_2 columns kinds p K)
abbrev S95_4 (columns:LC) (kinds:LI) (p:aE.D) (K:KA):Prop:=cond (decide (p.1=(7:Int))) (cond ((decide (Z0<(kinds.length:Int)))==true) ((0<=wrap64 ((kinds.length:Int)-Z1))/\(wrap64 ((kinds.length:Int)-Z1)<(kinds.length:Int))/\K (.tup [.own 0 none,dB (decide ((nI kinds (wrap64 ((kinds.length:Int)-Z1)))=Z3))]) [(0,.arr .sh ay kinds)]) (K (.tup [.own 0 none,dB false]) [(0,.arr .sh ay kinds)])) (cond (decide (p.1=(8:Int))) ((0<=Z0)/\(Z0<=(bC (wrap64 ((kinds.length:Int)-Z1)) Z0))/\((bC (wrap64 ((kinds.length:Int)-Z1)) Z0)<=(kinds.length:Int))/\((bC (wrap64 ((kinds.length:Int)-Z1)) Z0)=(bC (wrap64 ((kinds.length:Int)-Z1)) Z0))/\(Z0=0)/\(((bC (wrap64 ((kinds.length:Int)-Z1)) Z0).toNat+[Z3].length) * 8<=lim)/\K (.tup [.own 0 none,dB (decide (Z0<(kinds.length:Int)))]) [(0,.arr .sh ay (kinds.take (bC (wrap64 ((kinds.length:Int)-Z1)) Z0).toNat++[Z3]))]) (K (.tup [.own 0 none,dB false]) [(0,.arr .sh ay kinds)]))
abbrev S95_5 (columns:LC) (kinds:LI) (p:aE.D) (K:KA):Prop:=cond (decide (p.1=Z1)) ((Sm aa p.2.2.1)/\cond ((!(M.aP p.2.2.1))==false) (cond (decide (p.2.2.1.1=Z0)) (K (.tup [.own 0 none,dB false]) [(0,.arr .sh ay kinds)]) (((kinds.length+[p.2.2.1.1].length) * 8<=lim)/\K (.tup [.own 0 none,dB true]) [(0,.arr .sh ay (kinds++[p.2.2.1.1]))])) (K (.tup [.own 0 none,dB false]) [(0,.arr .sh ay kinds)])) (cond (decide (p.1=Z2)) (cond (!(M.inR p.2.1 Z0 (wrap64 ((columns.length:Int)-Z1)))) (K (.tup [.own 0 none,dB false]) [(0,.arr .sh ay kinds)]) ((0<=p.2.1)/\(p.2.1<(columns.length:Int))/\((kinds.length+[(nC columns p.2.1).1].length) * 8<=lim)/\K (.tup [.own 0 none,dB true]) [(0,.arr .sh ay (kinds++[(nC columns p.2.1).1]))])) (cond (decide (p.1=Z3)) (cond ((decide (Z1<(kinds.length:Int)))==true) ((0<=wrap64 ((kinds.length:Int)-Z1))/\(wrap64 ((kinds.length:Int)-Z1)<(kinds.length:Int))/\cond ((decide ((nI kinds (wrap64 ((kinds.length:Int)-Z1)))=Z1))==true) ((0<=wrap64 ((kinds.length:Int)-Z2))/\(wrap64 ((kinds.length:Int)-Z2)<(kinds.length:Int))/\(0<=Z0)/\(Z0<=(bC (wrap64 ((kinds.length:Int)-Z2)) Z0))/\((bC (wrap64 ((kinds.length:Int)-Z2)) Z0)<=(kinds.length:Int))/\((bC (wrap64 ((kinds.length:Int)-Z2)) Z0)=(bC (wrap64 ((kinds.length:Int)-Z2)) Z0))/\(Z0=0)/\(((bC (wrap64 ((kinds.length:Int)-Z2)) Z0).toNat+[Z1].length) * 8<=lim)/\K (.tup [.own 0 none,dB (decide ((nI kinds (wrap64 ((kinds.length:Int)-Z2)))=Z1))]) [(0,.arr .sh ay (kinds.take (bC (wrap64 ((kinds.length:Int)-Z2)) Z0).toNat++[Z1]))]) (S95_0 columns kinds p K)) (S95_0 columns kinds p K)) (cond (decide (p.1=Z4)) (cond ((decide (Z1<(kinds.length:Int)))==true) ((0<=wrap64 ((kinds.length:Int)-Z1))/\(wrap64 ((kinds.length:Int)-Z1)<(kinds.length:Int))/\(0<=wrap64 ((kinds.length:Int)-Z2))/\(wrap64 ((kinds.length:Int)-Z2)<(kinds.length:Int))/\cond ((decide ((nI kinds (wrap64 ((kinds.length:Int)-Z1)))=(nI kinds (wrap64 ((kinds.length:Int)-Z2)))))==true) ((0<=Z0)/\(Z0<=(bC (wrap64 ((kinds.length:Int)-Z2)) Z0))/\((bC (wrap64 ((kinds.length:Int)-Z2)) Z0)<=(kinds.length:Int))/\((bC (wrap64 ((kinds.length:Int)-Z2)) Z0)=(bC (wrap64 ((kinds.length:Int)-Z2)) Z0))/\(Z0=0)/\(((bC (wrap64 ((kinds.length:Int)-Z2)) Z0).toNat+[Z3].length) * 8<=lim)/\K (.tup [.own 0 none,dB (M.inR p.2.1 Z1 Z4)]) [(0,.arr .sh ay (kinds.take (bC (wrap64 ((kinds.length:Int)-Z2)) Z0).toNat++[Z3]))]) (S95_2 columns kinds p K)) (S95_2 columns kinds p K)) (cond (decide (p.1=Z5)) (cond (decide (p.1=Z5)) (S95_3 columns kinds p K) (S95_4 columns kinds p K)) (cond (decide (p.1=Z6)) (S95_3 columns kinds p K) (S95_4 columns kinds p K))))))
abbrev S95_6 (columns:LC) (kinds:LI) (p:aE.D) (K:KA):Prop:=cond ((!decide (p.1=Z2))==true) (cond ((!decide (p.1=Z4))==true) (cond (!decide (p.2.1=Z0)) (K (.tup [.own 0 none,dB false]) [(0,.arr .sh ay kinds)]) (S95_5 columns kinds p K)) (S95_5 columns kinds p K)) (S95_5 columns kinds p K)
theorem vc95 (columns:LC) (kinds:LI) (p:aE.D) (K:KA):vcT C95 aC ann95 f95 [.data TCS columns,.own 0 none,.data aE p] [(0,.arr .sh ay kinds)] .raw K =
 (cond ((!decide (p.1=Z1))==true) (cond ((!(Ty.beq aa p.2.2.1 (Z0,(Z0,((⟨#[]⟩:ByteArray),())))))==false) (S95_6 columns kinds p K) (K (.tup [.own 0 none,dB false]) [(0,.arr .sh ay kinds)])) (S95_6 columns kinds p K)):=by kernel_rfl
theorem con95_ok:bp P 95 c95:=bt C95 func95 (kC con69_ok (kC con137_ok kN)) fun args hp K h0=>by
 unfold c95 at h0
 dsimp only at h0
 obtain⟨kinds,rfl,h00⟩:=qm (n:=0) (d:=.sh) (t:=ay) h0
 obtain⟨a0,a1,a2,rfl,_,h1⟩:=jC h00
 obtain⟨columns,rfl,h2⟩:=bg h1
 obtain⟨rfl,h3⟩:=xG h2
 obtain⟨p,rfl,h4⟩:=bg h3
 obtain⟨h_columns,h_kinds,h_p,p0,hK⟩:=h4
 have h:ok (F.ki columns kinds p) (fun r=>K (.tup [.own 0 none,dB r.2]) [(0,.arr .sh ay r.1)]):=aA (F.ye columns kinds p h_columns h_kinds h_p p0) (hK _ rfl)
 refine⟨rfl,ann95,aC,.raw,(aH (by kernel_rfl)),?_⟩
 ·rw[vc95]
  exact(oC h (fun b_1 h=>(oC h (fun _ h=>(oC h (fun b_3 h=>(oC h (fun b_4 h=>(oC h (fun _ h=>h) fun _ h=>(eF (bnt (bet b_1)) (eF (bnt (bet b_3)) (oC h (fun _ h=>(oC h (fun _ h=>(oG h fun _ h=>(oG h fun _ h=>(oC h (fun _ h=>(oG h fun _ h=>(oG h fun _ h=>⟨(Int.natCast_nonneg 0),(oG h fun _ h=>(oG h fun _ h=>⟨rfl,⟨rfl,(oG h fun _ h=>h)⟩⟩))⟩))) fun _ h=>⟨(Int.natCast_nonneg 0),(oG h fun _ h=>(oG h fun _ h=>⟨rfl,⟨rfl,(oG h fun _ h=>h)⟩⟩))⟩)))) fun _ h=>⟨(Int.natCast_nonneg 0),(oG h fun _ h=>(oG h fun _ h=>⟨rfl,⟨rfl,(oG h fun _ h=>h)⟩⟩))⟩)) fun _ h=>(eF (bnt (bet b_4)) (oC h (fun b_25 h=>(bG b_25 (oC h (fun _ h=>(oG h fun _ h=>(oG h fun _ h=>(oC h (fun _ h=>(oG h fun _ h=>(oG h fun _ h=>⟨(Int.natCast_nonneg 0),(oG h fun _ h=>(oG h fun _ h=>⟨rfl,⟨rfl,(oG h fun _ h=>h)⟩⟩))⟩))) fun _ h=>⟨(Int.natCast_nonneg 0),(oG h fun _ h=>(oG h fun _ h=>⟨rfl,⟨rfl,(oG h fun _ h=>h)⟩⟩))⟩)))) fun _ h=>⟨(Int.natCast_nonneg 0),(oG h fun _ h=>(oG h fun _ h=>⟨rfl,⟨rfl,(oG h fun _ h=>h)⟩⟩))⟩))) fun _ h=>(oC h (fun _ h=>(oC h (fun _ h=>(oG h fun _ h=>(oG h fun _ h=>(oC h (fun _ h=>(oG h fun _ h=>(oG h fun _ h=>⟨(Int.natCast_nonneg 0),(oG h fun _ h=>(oG h fun _ h=>⟨rfl,⟨rfl,(oG h fun _ h=>h)⟩⟩))⟩))) fun _ h=>⟨(Int.natCast_nonneg 0),(oG h fun _ h=>(oG h fun _ h=>⟨rfl,⟨rfl,(oG h fun _ h=>h)⟩⟩))⟩)))) fun _ h=>⟨(Int.natCast_nonneg 0),(oG h fun _ h=>(oG h fun _ h=>⟨rfl,⟨rfl,(oG h fun _ h=>h)⟩⟩))⟩)) fun _ h=>(oC h (fun _ h=>(oC h (fun _ h=>(oG h fun _ h=>(oG h fun _ h=>h))) fun _ h=>h)) fun _ h=>(oC h (fun _ h=>⟨(Int.natCast_nonneg 0),(oG h fun _ h=>(oG h fun _ h=>⟨rfl,⟨rfl,(oG h fun _ h=>h)⟩⟩))⟩) fun _ h=>h)))))))))) fun b_4 h=>(eF (bnt (bet b_1)) (eF (bnt (bet b_3)) (eF (cO (bnf (bef b_4)) (by decide)) (bG (bnf (bef b_4)) (oC h (fun _ h=>(oG h fun _ h=>(oG h fun _ h=>(oG h fun _ h=>(oG h fun _ h=>(oC h (fun _ h=>⟨(Int.natCast_nonneg 0),(oG h fun _ h=>(oG h fun _ h=>⟨rfl,⟨rfl,(oG h fun _ h=>h)⟩⟩))⟩) fun _ h=>⟨(Int.natCast_nonneg 0),(oG h fun _ h=>(oG h fun _ h=>⟨rfl,⟨rfl,(oG h fun _ h=>h)⟩⟩))⟩)))))) fun _ h=>⟨(Int.natCast_nonneg 0),(oG h fun _ h=>(oG h fun _ h=>⟨rfl,⟨rfl,(oG h fun _ h=>h)⟩⟩))⟩))))))) fun b_3 h=>(eF (bnt (bet b_1)) (bG (bnf (bef b_3)) (oC h (fun _ h=>h) fun b_110 h=>⟨(fY (bnf b_110)),⟨(nq (bnf b_110)),⟨(uq h_kinds (Gn trivial) rfl),h⟩⟩⟩))))) fun _ h=>h)) fun b_1 h=>(bG (uet (unt (cO (bnf (bef b_1)) (by decide)))) (bG (uet (unt (cO (bnf (bef b_1)) (by decide)))) (oC h (fun _ h=>h) fun _ h=>(bG (bnf (bef b_1)) ⟨h_p.2.2.1,(oC h (fun _ h=>(oC h (fun _ h=>h) fun _ h=>⟨(uq h_kinds (Gn trivial) rfl),h⟩)) fun _ h=>h)⟩)))))
def c46:Con:=⟨[.dat TCS,.dat TPS],fun args hp K=>g2 (pD TCS) (pD TPS) (fun columns e=>(Sm TCS columns)/\(Sm TPS e)/\K (dI (M.cT columns e)) []) args hp,.plain,false⟩
abbrev C46:Ctx:=cx [(94,c94),(95,c95)] 46 [] 0 false
def ann46:=an [[kp 3],[kp 32771],[kp 16],[kp 35],[kp 99],[kp 227],[kp 8388835],[kp 227],[kp 227],[.keep [5,42]],[kp 16],[kp 16]] [[kp 96]]
abbrev s46_0 (columns:LC) (e:LPt) (v0:Bool×Int×LI):St:=⟨[(0,.data TCS columns),(1,.data TPS e),(5,.own 16 none),(6,dB v0.1),(7,dI v0.2.1)],[(16,.arr .sh ay v0.2.2)]⟩
abbrev LP46_0 (columns:LC) (e:LPt) (m:Nat) (st_:St) (K:KX):Prop:=True/\dX (s46_0 columns e) (F.cS columns e) (fun v0:Bool×Int×LI=>True) (fun e0:Bool×LI=>True->K (.exit 0) (⟨[(5,.own 16 none),(6,dB e0.1)],[(16,.arr .sh ay e0.2)]⟩:St)) m st_
def L46 (columns:LC) (e:LPt):bF:=lp1 0 (LP46_0 columns e)
theorem vc46 (columns:LC) (e:LPt) (K:KA):vcT C46 (L46 columns e) ann46 f46 [.data TCS columns,.data TPS e] [] (.dat ay) K =
 ((Sm TCS columns)/\cond ((!(M.bA columns))==false) (cond (decide ((12:Int)<(e.length:Int))) (K (dI (-1:Int)) []) (∃m_,True/\dX (s46_0 columns e) (F.cS columns e) (fun v0:Bool×Int×LI=>True) (fun e0:Bool×LI=>True->cond ((!e0.1)==false) (cond (!decide ((e0.2.length:Int)=Z1)) (K (dI (-1:Int)) []) ((0<=Z0)/\(Z0<(e0.2.length:Int))/\K (dI (nI e0.2 Z0)) [])) (K (dI (-1:Int)) [])) m_ (s46_0 columns e (true,Z0,[])))) (K (dI (-1:Int)) [])):=by kernel_rfl
theorem lvc46_0 (columns:LC) (e:LPt)  (v0:Bool×Int×LI) (m:Nat) (K:KX):lvT C46 (L46 columns e) ann46 f46 0 0 (s46_0 columns e v0) m K =
 (cond ((decide (v0.2.1<(e.length:Int)))==true) (cond v0.1 ((0<=v0.2.1)/\(v0.2.1<(e.length:Int))/\(Sm TCS columns)/\(Sm (Ty.sl ay) v0.2.2)/\(Sm aE (nP e v0.2.1))/\(v0.2.2.length<=1000)/\(LD (M.vr columns v0.2.2 (nP e v0.2.1)) fun r1=>(nxT (LP46_0 columns e) m K (s46_0 columns e (r1.2,wrap64 (v0.2.1+Z1),r1.1))))) (K (.exit 0) (⟨[(5,.own 16 none),(6,dB v0.1)],[(16,.arr .sh ay v0.2.2)]⟩:St))) (K (.exit 0) (⟨[(5,.own 16 none),(6,dB v0.1)],[(16,.arr .sh ay v0.2.2)]⟩:St))):=by kernel_rfl
theorem con46_ok:bp P 46 c46:=bt C46 func46 (kC con94_ok (kC con95_ok kN)) fun args hp K h0=>by
 obtain⟨columns,e,rfl,rfl,h_columns,h_e,hK⟩:=g2e h0
 have h:ok (F.nB columns e) (fun r=>K (dI r) []):=aA (F.vD columns e h_columns h_e) hK
 refine⟨rfl,ann46,(L46 columns e),(.dat ay),(bK (i0:=0) (by kernel_rfl) ?_),?_⟩
 ·rintro _ _ K ⟨hc0,v0,rfl,hv0,h⟩
  exact cast (lvc46_0 _ _ _ _ _).symm (cN h (fun m1 hm0 h=>(oC h (fun _ h=>(oC h (fun _ h=>(oG h fun _ h=>(oG h fun _ h=>⟨h_columns,(oG h fun _ h=>⟨(aU h_e v0.2.1),(oG h fun _ h=>(oL h fun _ _ h=>(aX (fun _ hm=>⟨hc0,hm⟩) hm0 _ rfl trivial h)))⟩)⟩))) fun _ h=>((cu h :) trivial))) fun _ h=>((cu h :) trivial))))
 ·rw[vc46]
  exact⟨h_columns,(oC h (fun _ h=>(oC h (fun _ h=>h) fun _ h=>(bX (fun m hm=>⟨trivial,hm⟩) _ rfl trivial (gk h (fun e0 h hv0=>(oC h (fun _ h=>(oC h (fun _ h=>h) fun _ h=>⟨(Int.natCast_nonneg 0),(oG h fun _ h=>h)⟩)) fun _ h=>h)))))) fun _ h=>h)⟩
def c177:Con:=⟨[.dat aj],fun args hp K=>g1 (pD aj) (fun s=>(Sm aj s)/\K (dB (M.bT s)) []) args hp,.plain,false⟩
abbrev C177:Ctx:=cx [] 68 [] 0 false
def ann177:=an [[.fixRow 1 aj,kp 2],[kp 10],[kp 26],[kp 58],[kp 4]] []
abbrev S177_0 (s:aj.D) (K:KA):Prop:=cond ((decide (s.1=Z3))==false) (K (dB (decide ((s.2.2.2.2.2.1.length:Int)=Z0))) []) (K (dB true) [])
abbrev S177_1 (s:aj.D) (K:KA):Prop:=cond ((decide (s.1=Z4))==false) (cond ((decide ((s.2.2.2.2.1.length:Int)=Z0))==true) (S177_0 s K) (K (dB false) [])) (S177_0 s K)
abbrev S177_2 (s:aj.D) (K:KA):Prop:=cond ((decide (s.1=Z1))==false) (cond ((decide (s.2.2.2.1=Z0))==true) (S177_1 s K) (K (dB false) [])) (S177_1 s K)
abbrev S177_3 (s:aj.D) (K:KA):Prop:=cond ((decide (s.1=Z5))==false) (cond ((decide (s.2.2.1=Z0))==true) (S177_2 s K) (K (dB false) [])) (S177_2 s K)
abbrev S177_4 (s:aj.D) (K:KA):Prop:=cond ((decide (s.1=Z1))==false) (cond ((decide (s.2.2.2.1=Z0))==true) (S177_0 s K) (K (dB false) [])) (S177_0 s K)
abbrev S177_5 (s:aj.D) (K:KA):Prop:=cond ((decide (s.1=Z5))==false) (cond ((decide (s.2.2.1=Z0))==true) (S177_4 s K) (K (dB false) [])) (S177_4 s K)
theorem vc177 (s:aj.D) (K:KA):vcT C177 aC ann177 f177 [.data aj s] [] (.dat Ty.bool) K =
 (cond ((decide (s.1=Z4))==false) (cond ((decide (s.1=Z2))==false) (cond ((!(decide (s.1=Z1)))==false) (cond ((decide (s.2.1=Z0))==true) (S177_3 s K) (K (dB false) [])) (S177_3 s K)) (cond ((!(decide (s.1=Z1)))==false) (cond ((decide (s.2.1=Z0))==true) (S177_5 s K) (K (dB false) [])) (S177_5 s K))) (cond ((decide (s.1=Z2))==false) (cond ((!(decide (s.1=Z1)))==false) (cond ((decide (s.2.1=Z0))==true) (S177_2 s K) (K (dB false) [])) (S177_2 s K)) (cond ((!(decide (s.1=Z1)))==false) (cond ((decide (s.2.1=Z0))==true) (S177_4 s K) (K (dB false) [])) (S177_4 s K)))):=by kernel_rfl
theorem con177_ok:bp P 177 c177:=bt C177 func177 kN fun args hp K h0=>by
 obtain⟨s,rfl,rfl,h_s,hK⟩:=g1e h0
 have h:ok (F.nr s) (fun r=>K (dB r) []):=aA (F.vo s h_s) hK
 refine⟨rfl,ann177,aC,(.dat Ty.bool),(aH (by kernel_rfl)),?_⟩
 ·rw[vc177]
  exact(oC h (fun b_1 h=>(oC h (fun _ h=>(oC h (fun b_3 h=>(oC h (fun _ h=>(bG (ugt (cO (bnf (bgt b_3)) (by decide))) (oC h (fun _ h=>(eF (ugf (bnf (bgt b_3))) (bG (ugt (bgt b_1)) (oC h (fun _ h=>(bG (ugt (cO (bnf (bgt b_3)) (by decide))) h)) fun _ h=>h)))) fun _ h=>h))) fun _ h=>h)) fun b_3 h=>(oC h (fun _ h=>(oC h (fun _ h=>(bG (ugt (bnt (bgf b_3))) (oC h (fun _ h=>(bG (ugt (bgt b_1)) (oC h (fun _ h=>(oC h (fun _ h=>h) fun _ h=>h)) fun _ h=>h))) fun _ h=>h))) fun _ h=>h)) fun b_27 h=>(bG (ugt (bnt (bgf b_3))) (oC h (fun _ h=>(bG (ugt (bgt b_1)) (oC h (fun _ h=>(bG (ugt (cO (bgf b_27) (by decide))) h)) fun _ h=>h))) fun _ h=>h))))) fun b_2 h=>(eF (ugf (unt (cO (bgf b_2) (by decide)))) (bG (ugt (cO (bgf b_2) (by decide))) (oC h (fun _ h=>(bG (ugt (cO (bgf b_2) (by decide))) (oC h (fun _ h=>(bG (ugt (cO (bgf b_2) (by decide))) h)) fun _ h=>h))) fun _ h=>h))))) fun b_1 h=>(bG (ugt (cO (bgf b_1) (by decide))) (eF (ugf (unt (cO (bgf b_1) (by decide)))) (bG (ugt (cO (bgf b_1) (by decide))) (oC h (fun _ h=>(eF (ugf (bgf b_1)) (bG (ugt (cO (bgf b_1) (by decide))) h))) fun _ h=>h)))))
def c119:Con:=⟨[.dat TTb,.lent TCS,.dat aj],fun args hp K=>g3 (pD TTb) (pB TCS) (pD aj) (fun tables ahead s=>(Sm TTb tables)/\(Sm (Ty.sl TCS) ahead)/\(Sm aj s)/\(LD (M.fy tables ahead s) fun r=>K (.tup [.data TCS r.1,dB r.2]) [])) args hp,.plain,false⟩
abbrev C119:Ctx:=cx [(46,c46),(69,c69),(177,c177)] 185 [] 0 false
def ann119:=an [[.fixRow 5 aj,kp 35],[kp 32803],[kp 192],[kp 524323],[kp 67108897],[kp 192],[kp 192],[.keep [1,5,51]],[kp 192],[kp 290],[.keep [1,5,8,61]],[kp 6917529027641082146],[kp 192],[.keep [1,5,8,61,70]],[kp 800],[kp 1824],[.keep [5,8,9,10,77]],[kp 1824],[.keep [5,8,9,10,89]],[kp 192],[kp 1824],[kp 192],[.keep [1,5,8,61,106]],[kp 2080],[kp 192],[.keep [1,5,8,61,126]],[.keep [1,5,8,136]],[kp 192],[kp 4386],[.keep [1,5,8,12,141]],[kp 4386],[.keep [1,5,8,12,158]],[kp 192],[kp 4386],[kp 192],[.keep [8,181]],[kp 192],[kp 192]] [[],[kp 512],[],[kp 256]]
abbrev s119_1 (tables:LTb) (ahead:(List LC)) (s:aj.D) (i1:Int) (v1:LC):St:=⟨[(5,.adr aj s),(8,.own 53 none),(9,.own 72 none),(10,dI i1)],[(53,.arr .sh ag ([]++(nth (t:=TCS) ahead s.2.1))),(72,.arr .sh ag v1)]⟩
abbrev LP119_1 (tables:LTb) (ahead:(List LC)) (s:aj.D) (m:Nat) (st_:St) (K:KX):Prop:=True/\bU (t:=ay) (s119_1 tables ahead s) s.2.2.2.2.2.1 (F.gn tables ahead s) (fun v1:LC=>True) (bn (fun v1:LC=>True->K (.exit 1) (⟨[(9,.own 72 none)],[(72,.arr .sh ag v1)]⟩:St)) (fun q1:Unit=>K .ret (⟨[(6,.own 90 none),(7,dB false)],[(90,.arr .sh ag [])]⟩:St))) m st_
abbrev s119_3 (tables:LTb) (ahead:(List LC)) (s:aj.D) (v3:Int×LC):St:=⟨[(1,.brw TCS ahead),(5,.adr aj s),(8,.own 53 none),(12,dI v3.1)],[(53,.arr .sh ag v3.2)]⟩
abbrev LP119_3 (tables:LTb) (ahead:(List LC)) (s:aj.D) (m:Nat) (st_:St) (K:KX):Prop:=True/\dX (s119_3 tables ahead s) (F.dQ tables ahead s) (fun v3:Int×LC=>True) (bn (fun e3:LC=>True->K (.exit 3) (⟨[(8,.own 53 none)],[(53,.arr .sh ag e3)]⟩:St)) (fun q3:Unit=>K .ret (⟨[(6,.own 159 none),(7,dB false)],[(159,.arr .sh ag [])]⟩:St))) m st_
def L119 (tables:LTb) (ahead:(List LC)) (s:aj.D):bF:=lp2 1 (LP119_1 tables ahead s) 3 (LP119_3 tables ahead s)
theorem vc119 (tables:LTb) (ahead:(List LC)) (s:aj.D) (K:KA):vcT C119 (L119 tables ahead s) ann119 f119 [.data TTb tables,.brw TCS ahead,.data aj s] [] (.tup [TCS,Ty.bool]) K =
 ((Sm aj s)/\cond (!(M.bT s)) (K (.tup [.data TCS [],dB false]) []) (cond (decide (s.1=Z1)) (cond (!(M.inR s.2.2.2.1 Z0 (wrap64 ((tables.length:Int)-Z1)))) (K (.tup [.data TCS [],dB false]) []) ((0<=s.2.2.2.1)/\(s.2.2.2.1<(tables.length:Int))/\((([]:List ag.D).length+(nT tables s.2.2.2.1).1.length) * 16<=lim)/\K (.tup [.data TCS ([]++(nT tables s.2.2.2.1).1),dB true]) [])) (cond ((!(M.inR s.2.1 Z0 (wrap64 ((ahead.length:Int)-Z1))))==false) (cond (!(M.inR s.2.2.1 Z0 (wrap64 ((ahead.length:Int)-Z1)))) (K (.tup [.data TCS [],dB false]) []) ((0<=s.2.1)/\(s.2.1<(ahead.length:Int))/\((([]:List ag.D).length+(nth (t:=TCS) ahead s.2.1).length) * 16<=lim)/\cond (decide (s.1=Z2)) ((Sm TCS ([]++(nth (t:=TCS) ahead s.2.1)))/\(Sm TPS s.2.2.2.2.1)/\K (.tup [.data TCS ([]++(nth (t:=TCS) ahead s.2.1)),dB (decide ((M.cT ([]++(nth (t:=TCS) ahead s.2.1)) s.2.2.2.2.1)=Z3))]) []) (cond (decide (s.1=Z3)) (∃m_,True/\bU (t:=ay) (s119_1 tables ahead s) s.2.2.2.2.2.1 (F.gn tables ahead s) (fun v1:LC=>True) (bn (fun v1:LC=>True->K (.tup [.data TCS v1,dB (decide ((v1.length:Int)<=Z4))]) []) (fun q1:Unit=>K (.tup [.data TCS [],dB false]) [])) m_ (s119_1 tables ahead s Z0 [])) (cond (decide (s.1=Z4)) ((0<=s.2.2.1)/\(s.2.2.1<(ahead.length:Int))/\((([]++(nth (t:=TCS) ahead s.2.1)).length+(nth (t:=TCS) ahead s.2.2.1).length) * 16<=lim)/\cond ((decide (((([]++(nth (t:=TCS) ahead s.2.1))++(nth (t:=TCS) ahead s.2.2.1)).length:Int)<=Z4))==true) ((Sm TCS (([]++(nth (t:=TCS) ahead s.2.1))++(nth (t:=TCS) ahead s.2.2.1)))/\(Sm TPS s.2.2.2.2.1)/\K (.tup [.data TCS (([]++(nth (t:=TCS) ahead s.2.1))++(nth (t:=TCS) ahead s.2.2.1)),dB (decide ((M.cT (([]++(nth (t:=TCS) ahead s.2.1))++(nth (t:=TCS) ahead s.2.2.1)) s.2.2.2.2.1)=Z3))]) []) (K (.tup [.data TCS (([]++(nth (t:=TCS) ahead s.2.1))++(nth (t:=TCS) ahead s.2.2.1)),dB false]) [])) (cond (decide (s.1=Z5)) ((0<=s.2.2.1)/\(s.2.2.1<(ahead.length:Int))/\cond (!decide ((([]++(nth (t:=TCS) ahead s.2.1)).length:Int)=((nth (t:=TCS) ahead s.2.2.1).length:Int))) (K (.tup [.data TCS [],dB false]) []) (∃m_,True/\dX (s119_3 tables ahead s) (F.dQ tables ahead s) (fun v3:Int×LC=>True) (bn (fun e3:LC=>True->K (.tup [.data TCS e3,dB true]) []) (fun q3:Unit=>K (.tup [.data TCS [],dB false]) [])) m_ (s119_3 tables ahead s (Z0,([]++(nth (t:=TCS) ahead s.2.1)))))) (cond (decide (s.1=Z6)) (K (.tup [.data TCS ([]++(nth (t:=TCS) ahead s.2.1)),dB true]) []) (K (.tup [.data TCS [],dB false]) []))))))) (K (.tup [.data TCS [],dB false]) [])))):=by kernel_rfl
theorem lvc119_0 (tables:LTb) (ahead:(List LC)) (s:aj.D)  (i1:Int) (v1:LC) (m:Nat) (K:KX):lvT C119 (L119 tables ahead s) ann119 f119 0 1 (s119_1 tables ahead s i1 v1) m K =
 (cond (decide (i1<(s.2.2.2.2.2.1.length:Int))) ((0<=i1)/\(i1<(s.2.2.2.2.2.1.length:Int))/\cond (!(M.inR (nI s.2.2.2.2.2.1 i1) Z0 (wrap64 ((([]++(nth (t:=TCS) ahead s.2.1)).length:Int)-Z1)))) (K .ret (⟨[(6,.own 90 none),(7,dB false)],[(90,.arr .sh ag [])]⟩:St)) ((0<=i1)/\(i1<(s.2.2.2.2.2.1.length:Int))/\(0<=(nI s.2.2.2.2.2.1 i1))/\((nI s.2.2.2.2.2.1 i1)<(([]++(nth (t:=TCS) ahead s.2.1)).length:Int))/\((v1.length+([(nC ([]++(nth (t:=TCS) ahead s.2.1)) (nI s.2.2.2.2.2.1 i1))]:List ag.D).length) * 16<=lim)/\(nxT (LP119_1 tables ahead s) m K (s119_1 tables ahead s (wrap64 (i1+Z1)) (v1++[(nC ([]++(nth (t:=TCS) ahead s.2.1)) (nI s.2.2.2.2.2.1 i1))]))))) (K (.exit 1) (⟨[(9,.own 72 none)],[(72,.arr .sh ag v1)]⟩:St))):=by kernel_rfl
theorem lvc119_1 (tables:LTb) (ahead:(List LC)) (s:aj.D)  (v3:Int×LC) (m:Nat) (K:KX):lvT C119 (L119 tables ahead s) ann119 f119 1 3 (s119_3 tables ahead s v3) m K =
 (cond (decide (v3.1<(v3.2.length:Int))) ((0<=v3.1)/\(v3.1<(v3.2.length:Int))/\(0<=s.2.2.1)/\(s.2.2.1<(ahead.length:Int))/\(0<=v3.1)/\(v3.1<((nth (t:=TCS) ahead s.2.2.1).length:Int))/\cond (!decide ((nC v3.2 v3.1).1=(nC (nth (t:=TCS) ahead s.2.2.1) v3.1).1)) (K .ret (⟨[(6,.own 159 none),(7,dB false)],[(159,.arr .sh ag [])]⟩:St)) ((0<=v3.1)/\(v3.1<(v3.2.length:Int))/\cond ((nC v3.2 v3.1).2.1==false) ((0<=s.2.2.1)/\(s.2.2.1<(ahead.length:Int))/\(0<=v3.1)/\(v3.1<((nth (t:=TCS) ahead s.2.2.1).length:Int))/\(0<=v3.1)/\(v3.1<(v3.2.length:Int))/\(let y1:LC:=(v3.2.set v3.1.toNat ((nC v3.2 v3.1).1,(nC (nth (t:=TCS) ahead s.2.2.1) v3.1).2));(nxT (LP119_3 tables ahead s) m K (s119_3 tables ahead s (wrap64 (v3.1+Z1),y1))))) ((0<=v3.1)/\(v3.1<(v3.2.length:Int))/\(nxT (LP119_3 tables ahead s) m K (s119_3 tables ahead s (wrap64 (v3.1+Z1),(v3.2.set v3.1.toNat ((nC v3.2 v3.1).1,(true,()))))))))) (K (.exit 3) (⟨[(8,.own 53 none)],[(53,.arr .sh ag v3.2)]⟩:St))):=by kernel_rfl
theorem con119_ok:bp P 119 c119:=bt C119 func119 (kC con46_ok (kC con69_ok (kC con177_ok kN))) fun args hp K h0=>by
 obtain⟨tables,ahead,s,rfl,rfl,h_tables,h_ahead,h_s,hK⟩:=g3e h0
 have h:ok (F.gD tables ahead s) (fun r=>K (.tup [.data TCS r.1,dB r.2]) []):=aA (F.tM tables ahead s h_tables h_ahead h_s) (hK _ rfl)
 refine⟨rfl,ann119,(L119 tables ahead s),(.tup [TCS,Ty.bool]),(lz (i0:=1) (i1:=3) (by kernel_rfl) ?_ ?_),?_⟩
 ·rintro _ _ K ⟨hc1,i1,v1,rfl,hl1,rfl,hv1,h⟩
  exact cast (lvc119_0 _ _ _ _ _ _ _).symm (bz (t:=ay) hl1 h (fun ht1 h=>⟨hl1,⟨ht1,(oC h (fun _ h=>h) fun b_22 h=>⟨hl1,⟨ht1,⟨(fY (bnf b_22)),⟨(nq (bnf b_22)),(oG h fun _ h=>(aY (t:=ay) (fun _ hm=>⟨hc1,hm⟩) _ rfl hl1 ht1 (bD h_s.2.2.2.2.2.1) trivial h))⟩⟩⟩⟩)⟩⟩) fun h=>(h trivial))
 ·rintro _ _ K ⟨hc3,v3,rfl,hv3,h⟩
  exact cast (lvc119_1 _ _ _ _ _ _).symm (cN h (fun m1 hm3 h=>(oC h (fun _ h=>(oG h fun g1 h=>(oG h fun g2 h=>(oG h fun g3 h=>(oG h fun g4 h=>⟨g1,(oG h fun g5 h=>(oC h (fun _ h=>h) fun _ h=>⟨g1,⟨g2,(oC h (fun _ h=>⟨g3,⟨g4,⟨g1,⟨g5,⟨g1,⟨g2,(have h:=cJ h _ rfl;(aX (fun _ hm=>⟨hc3,hm⟩) hm3 _ rfl trivial h))⟩⟩⟩⟩⟩⟩) fun _ h=>⟨g1,⟨g2,(aX (fun _ hm=>⟨hc3,hm⟩) hm3 _ rfl trivial h)⟩⟩)⟩⟩))⟩))))) fun _ h=>((cu h :) trivial))))
 ·rw[vc119]
  exact⟨h_s,(oC h (fun _ h=>h) fun _ h=>(oC h (fun _ h=>(oC h (fun _ h=>h) fun b_3 h=>⟨(fY (bnf b_3)),⟨(nq (bnf b_3)),⟨(uq (lY ag) (aU h_tables s.2.2.2.1).1 rfl),h⟩⟩⟩)) fun _ h=>(oC h (fun b_4 h=>(oC h (fun _ h=>h) fun b_5 h=>⟨(fY (bnf (bgt b_4))),⟨(nq (bnf (bgt b_4))),⟨(uq (lY ag) (aU h_ahead s.2.1) rfl),(oC h (fun _ h=>(oG h fun _ h=>⟨h_s.2.2.2.2.1,h⟩)) fun _ h=>(oC h (fun _ h=>(bf (t:=ay) (fun m hm=>⟨trivial,hm⟩) _ rfl trivial (aR h (fun v1 h hv1=>h) (fun q1 h=>h)))) fun _ h=>(oC h (fun _ h=>⟨(fY (bnf b_5)),⟨(nq (bnf b_5)),(oG h fun _ h=>(oC h (fun _ h=>(oG h fun _ h=>⟨h_s.2.2.2.2.1,h⟩)) fun _ h=>h))⟩⟩) fun _ h=>(oC h (fun _ h=>⟨(fY (bnf b_5)),⟨(nq (bnf b_5)),(oC h (fun _ h=>h) fun _ h=>(bX (fun m hm=>⟨trivial,hm⟩) _ rfl trivial (aR h (fun e3 h hv3=>h) (fun q3 h=>h))))⟩⟩) fun _ h=>(oC h (fun _ h=>h) fun _ h=>h)))))⟩⟩⟩)) fun _ h=>h)))⟩
def c120:Con:=⟨[.lent ay,.dat aj],fun args hp K=>g2 (pB ay) (pD aj) (fun ahead s=>(Sm (Ty.sl ay) ahead)/\(Sm aj s)/\(M.hY (ahead.length:Int) s)/\K (dI (M.aZ ahead s)) []) args hp,.plain,false⟩
abbrev C120:Ctx:=cx [] 40 [] 0 false
def ann120:=an [[.fixRow 3 aj,kp 9],[kp 73],[kp 201],[kp 16],[kp 585],[kp 16],[kp 4194313],[kp 16],[kp 16]] []
theorem vc120 (ahead:LI) (s:aj.D) (K:KA):vcT C120 aC ann120 f120 [.brw ay ahead,.data aj s] [] (.dat ay) K =
 (cond (decide (s.1=Z1)) (K (dI Z6) []) (cond (decide (s.1=Z4)) ((0<=s.2.1)/\(s.2.1<(ahead.length:Int))/\(0<=s.2.2.1)/\(s.2.2.1<(ahead.length:Int))/\K (dI (wrap64 ((nI ahead s.2.1) * (nI ahead s.2.2.1)))) []) (cond (decide (s.1=Z5)) ((0<=s.2.1)/\(s.2.1<(ahead.length:Int))/\(0<=s.2.2.1)/\(s.2.2.1<(ahead.length:Int))/\K (dI (wrap64 ((nI ahead s.2.1)+(nI ahead s.2.2.1)))) []) ((0<=s.2.1)/\(s.2.1<(ahead.length:Int))/\K (dI (nI ahead s.2.1)) [])))):=by kernel_rfl
theorem con120_ok:bp P 120 c120:=bt C120 func120 kN fun args hp K h0=>by
 obtain⟨ahead,s,rfl,rfl,h_ahead,h_s,p0,hK⟩:=g2e h0
 have h:ok (F.qk ahead s) (fun r=>K (dI r) []):=aA (F.yJ ahead s h_ahead h_s p0) hK
 refine⟨rfl,ann120,aC,(.dat ay),(aH (by kernel_rfl)),?_⟩
 ·rw[vc120]
  exact(oC h (fun _ h=>h) fun _ h=>(oC h (fun _ h=>(oG h fun _ h=>(oG h fun _ h=>(oG h fun _ h=>(oG h fun _ h=>h))))) fun _ h=>(oC h (fun _ h=>(oG h fun _ h=>(oG h fun _ h=>(oG h fun _ h=>(oG h fun _ h=>h))))) fun _ h=>(oG h fun _ h=>(oG h fun _ h=>h)))))
def c70:Con:=⟨[.dat TTb,.lent aj],fun args hp K=>g2 (pD TTb) (pB aj) (fun tables plan=>(Sm TTb tables)/\(Sm TSS plan)/\(LD (M.cY tables plan) fun r=>K (.tup [.data (Ty.sl TCS) r.1,dB r.2]) [])) args hp,.plain,false⟩
abbrev C70:Ctx:=cx [(119,c119),(120,c120)] 52 [] 0 false
def ann70:=an [[kp 3],[kp 67],[kp 195],[kp 451],[kp 65987],[kp 451],[kp 1987],[kp 1073742787],[.freeze 31,kp 48],[kp 451],[kp 451],[kp 562949953421763],[.freeze 50,kp 48],[kp 48]] [[kp 64]]
abbrev s70_0 (tables:LTb) (plan:LS) (i0:Int) (v0:(List LC)×LI):St:=⟨[(0,.data TTb tables),(1,.brw aj plan),(6,.own 11 none),(7,.own 12 none),(8,dI i0)],[(11,.arr .sh TCS v0.1),(12,.arr .sh ay v0.2)]⟩
abbrev LP70_0 (tables:LTb) (plan:LS) (m:Nat) (st_:St) (K:KX):Prop:=True/\cB (s70_0 tables plan) Z0 (plan.length:Int) (F.ic tables plan) (fun v0:(List LC)×LI=>True) (bn (fun v0:(List LC)×LI=>True->K (.exit 0) (⟨[(6,.own 11 none)],[(11,.arr .sh TCS v0.1)]⟩:St)) (fun q0:Unit=>K .ret (⟨[(4,.data (Ty.sl TCS) []),(5,dB false)],[]⟩:St))) m st_
def L70 (tables:LTb) (plan:LS):bF:=lp1 0 (LP70_0 tables plan)
theorem vc70 (tables:LTb) (plan:LS) (K:KA):vcT C70 (L70 tables plan) ann70 f70 [.data TTb tables,.brw aj plan] [] (.tup [(Ty.sl TCS),Ty.bool]) K =
 (∃m_,True/\cB (s70_0 tables plan) Z0 (plan.length:Int) (F.ic tables plan) (fun v0:(List LC)×LI=>True) (bn (fun v0:(List LC)×LI=>True->K (.tup [.data (Ty.sl TCS) v0.1,dB true]) []) (fun q0:Unit=>K (.tup [.data (Ty.sl TCS) [],dB false]) [])) m_ (s70_0 tables plan Z0 ([],[]))):=by kernel_rfl
theorem lvc70_0 (tables:LTb) (plan:LS)  (i0:Int) (v0:(List LC)×LI) (m:Nat) (K:KX):lvT C70 (L70 tables plan) ann70 f70 0 0 (s70_0 tables plan i0 v0) m K =
 (cond (decide (i0<(plan.length:Int))) ((0<=i0)/\(i0<(plan.length:Int))/\(Sm TTb tables)/\(Sm (Ty.sl TCS) v0.1)/\(Sm aj (nS plan i0))/\(LD (M.fy tables v0.1 (nS plan i0)) fun r1=>cond (!r1.2) (K .ret (⟨[(4,.data (Ty.sl TCS) []),(5,dB false)],[]⟩:St)) (((v0.1.length+[r1.1].length) * 24<=lim)/\(0<=i0)/\(i0<(plan.length:Int))/\(Sm (Ty.sl ay) v0.2)/\(Sm aj (nS plan i0))/\(M.hY (v0.2.length:Int) (nS plan i0))/\((v0.2.length+[(M.aZ v0.2 (nS plan i0))].length) * 8<=lim)/\(0<=i0)/\(i0<((v0.2++[(M.aZ v0.2 (nS plan i0))]).length:Int))/\cond (decide ((300:Int)<(nI (v0.2++[(M.aZ v0.2 (nS plan i0))]) i0))) (K .ret (⟨[(4,.data (Ty.sl TCS) []),(5,dB false)],[]⟩:St)) (nxT (LP70_0 tables plan) m K (s70_0 tables plan (wrap64 (i0+Z1)) ((v0.1++[r1.1]),(v0.2++[(M.aZ v0.2 (nS plan i0))]))))))) (K (.exit 0) (⟨[(6,.own 11 none)],[(11,.arr .sh TCS v0.1)]⟩:St))):=by kernel_rfl
theorem con70_ok:bp P 70 c70:=bt C70 func70 (kC con119_ok (kC con120_ok kN)) fun args hp K h0=>by
 obtain⟨tables,plan,rfl,rfl,h_tables,h_plan,hK⟩:=g2e h0
 have h:ok (F.sF tables plan) (fun r=>K (.tup [.data (Ty.sl TCS) r.1,dB r.2]) []):=aA (F.zQ tables plan h_tables h_plan) (hK _ rfl)
 refine⟨rfl,ann70,(L70 tables plan),(.tup [(Ty.sl TCS),Ty.bool]),(bK (i0:=0) (by kernel_rfl) ?_),?_⟩
 ·rintro _ _ K ⟨hc0,i0,v0,rfl,hl0,rfl,hv0,h⟩
  exact cast (lvc70_0 _ _ _ _ _ _).symm (bO h (fun ht0 h=>⟨hl0,⟨ht0,⟨h_tables,(oG h fun _ h=>⟨(aU h_plan i0),(oL h fun _ _ h=>(oC h (fun _ h=>h) fun _ h=>(oG h fun _ h=>⟨hl0,⟨ht0,(oG h fun _ h=>⟨(aU h_plan i0),(oG h fun _ h=>(oG h fun _ h=>⟨hl0,(oG h fun _ h=>(oC h (fun _ h=>h) fun _ h=>(aV (fun _ hm=>⟨hc0,hm⟩) _ rfl hl0 iM ht0 (bD h_plan) trivial h)))⟩))⟩)⟩⟩)))⟩)⟩⟩⟩) fun h=>(h trivial))
 ·rw[vc70]
  exact(bE (fun m hm=>⟨trivial,hm⟩) Z0 _ rfl (Int.natCast_nonneg 0) trivial (aR h (fun v0 h hv0=>h) (fun q0 h=>h)))
end Go.AE
