/- Contracts. -/
import Derived.Test.YtiplhefglgpdoaaGreatAeY
import Derived.Test.YtiplhefglgpdoaaGreatAeEq
namespace Go.AE
open Go Go.RowKit Go.Proofs.Tryz
set_option maxRecDepth 100000
set_option maxHeartbeats 2000000
set_option linter.unusedVariables false
@[reducible] def Q0 (p:Prop):Prop:=(p/\p)
theorem q0 {p:Prop} (h:p):Q0 p:=⟨h,h⟩
@[reducible] def Q1 (p:Prop):Prop:=((p/\p)/\p)
theorem q1 {p:Prop} (h:p):Q1 p:=⟨⟨h,h⟩,h⟩
@[reducible] def Q2 (p:Prop):Prop:=((p/\p)/\(p/\(p/\p))/\(p/\(p/\p)))
theorem q2 {p:Prop} (h:p):Q2 p:=⟨⟨h,h⟩,⟨h,⟨h,h⟩⟩,⟨h,⟨h,h⟩⟩⟩
@[reducible] def Q3 (p:Prop):Prop:=(p/\(p/\p))
theorem q3 {p:Prop} (h:p):Q3 p:=⟨h,⟨h,h⟩⟩
@[reducible] def Q4 (p:Prop):Prop:=(p/\(p/\(p/\p)))
theorem q4 {p:Prop} (h:p):Q4 p:=⟨h,⟨h,⟨h,h⟩⟩⟩
@[reducible] def Q5 (p:Prop):Prop:=((p/\(p/\p))/\((p/\p)/\p))
theorem q5 {p:Prop} (h:p):Q5 p:=⟨⟨h,⟨h,h⟩⟩,⟨⟨h,h⟩,h⟩⟩
def c67:Con:=⟨[.dat aD,.dat aD,.dat aD],fun args hp K=>g3 (pD aD) (pD aD) (pD aD) (fun n low high=>K (dB (M.inR n low high)) []) args hp,.plain,false⟩
@[reducible] def C67:Ctx:=cx [] 15 [] 0 false
def ann67:=an [[kp 7],[kp 64]] []
theorem vc67 (n:Int) (low:Int) (high:Int) (K:KA):vcT C67 aE ann67 f67 [dI n,dI low,dI high] [] (.dat Ty.bool) K =
 (cond ((decide (low<=n))==true) (K (dB (decide (n<=high))) []) (K (dB false) [])):=by kernel_rfl
theorem con67_ok:br P 67 c67:=bw C67 func67 kN fun args hp K h0=>by
 obtain⟨n,low,high,rfl,rfl,hK⟩:=g3e h0
 have h:ok (F.pM n low high) (fun r=>K (dB r) []):=aC (F.xB n low high) hK
 refine⟨rfl,ann67,aE,(.dat Ty.bool),(aK (by kernel_rfl)),?_⟩
 ·rw[vc67]
  exact(oC h (fun _ h=>h) fun _ h=>h)
def c147:Con:=⟨[.dat Ty.str],fun args hp K=>g1 (pD Ty.str) (fun s=>(Sm Ty.str s)/\K (dB (M.lower (bU s))) []) args hp,.plain,false⟩
@[reducible] def C147:Ctx:=cx [(67,c67)] 17 [] 0 false
def ann147:=an [[kp 1],[kp 448],[kp 960],[kp 464],[kp 33216],[kp 4],[kp 448],[kp 4]] [[kp 0]]
@[reducible] def s147_0 (s:ByteArray) (i0:Int) (v0:Unit):St:=⟨[(6,.data (Ty.sl (Ty.int .u8)) (bU s)),(7,dI ((bU s).length:Int)),(8,dI i0)],[]⟩
@[reducible] def LP147_0 (s:ByteArray) (m:Nat) (st_:St) (K:KX):Prop:=True/\bI (t:=(Ty.int .u8)) (s147_0 s) (bU s) (F.iR s) (fun v0:Unit=>True) (aW (fun v0:Unit=>True->K (.exit 0) (⟨[],[]⟩:St)) (fun q0:Unit=>K .ret (⟨[(2,dB false)],[]⟩:St))) m st_
def L147 (s:ByteArray):bC:=lp1 0 (LP147_0 s)
theorem vc147 (s:ByteArray) (K:KA):vcT C147 (L147 s) ann147 f147 [.data Ty.str s] [] (.dat Ty.bool) K =
 (∃m_,True/\bI (t:=(Ty.int .u8)) (s147_0 s) (bU s) (F.iR s) (fun v0:Unit=>True) (aW (fun v0:Unit=>True->K (dB true) []) (fun q0:Unit=>K (dB false) [])) m_ (s147_0 s Z0 ())):=by kernel_rfl
theorem lvc147_0 (s:ByteArray)  (i0:Int) (v0:Unit) (m:Nat) (K:KX):lvT C147 (L147 s) ann147 f147 0 0 (s147_0 s i0 v0) m K =
 (cond (decide (i0<((bU s).length:Int))) ((0<=i0)/\(i0<((bU s).length:Int))/\cond (!(M.inR (wrap64 (nth (t:=(Ty.int .u8)) (bU s) i0)) (97:Int) (122:Int))) (K .ret (⟨[(2,dB false)],[]⟩:St)) (nxT (LP147_0 s) m K (s147_0 s (wrap64 (i0+Z1)) ()))) (K (.exit 0) (⟨[],[]⟩:St))):=by kernel_rfl
theorem con147_ok:br P 147 c147:=bw C147 func147 (kC con67_ok kN) fun args hp K h0=>by
 obtain⟨s,rfl,rfl,h_s,hK⟩:=g1e h0
 have h:ok (F.oT s) (fun r=>K (dB r) []):=aC (F.xu s h_s) hK
 refine⟨rfl,ann147,(L147 s),(.dat Ty.bool),(bH (i0:=0) (by kernel_rfl) ?_),?_⟩
 ·rintro _ _ K ⟨hc0,i0,v0,rfl,hl0,rfl,hv0,h⟩
  exact cast (lvc147_0 _ _ _ _ _).symm (aV (t:=(Ty.int .u8)) hl0 h (fun ht0 h=>⟨hl0,⟨ht0,(oC h (fun _ h=>h) fun _ h=>(aM (t:=(Ty.int .u8)) (fun _ hm=>⟨hc0,hm⟩) _ rfl hl0 ht0 (bg (GX h_s)) trivial h))⟩⟩) fun h=>(h trivial))
 ·rw[vc147]
  exact(aQ (t:=(Ty.int .u8)) (fun m hm=>⟨trivial,hm⟩) _ rfl trivial (aP h (fun v0 h hv0=>h) (fun q0 h=>h)))
def c99:Con:=⟨[.dat aa],fun args hp K=>g1 (pD aa) (fun v=>(Sm aa v)/\K (dB (M.aS v)) []) args hp,.plain,false⟩
@[reducible] def C99:Ctx:=cx [(67,c67),(147,c147)] 46 [] 0 false
def ann99:=an [[.fixRow 1 aa,kp 2],[kp 18],[kp 50],[kp 4],[kp 1042],[kp 4],[kp 1048594],[kp 4],[.keep [1,36]],[kp 4],[kp 4]] []
theorem vc99 (v:aa.D) (K:KA):vcT C99 aE ann99 f99 [.data aa v] [] (.dat Ty.bool) K =
 (cond (decide (v.1=Z0)) (K (dB (Ty.beq aa v (Z0,(Z0,((⟨#[]⟩:ByteArray),()))))) []) (cond (decide (v.1=Z1)) (cond ((decide (v.2.2.1=(⟨#[]⟩:ByteArray)))==true) (K (dB (M.inR v.2.1 (-9999:Int) (9999:Int))) []) (K (dB false) [])) (cond (decide (v.1=Z2)) (cond ((decide (v.2.1=Z0))==true) (cond ((decide ((v.2.2.1.size:Int)<=Z6))==true) ((Sm Ty.str v.2.2.1)/\K (dB (M.lower (bU v.2.2.1))) []) (K (dB false) [])) (K (dB false) [])) (cond (decide (v.1=Z3)) (cond ((decide (v.2.2.1=(⟨#[]⟩:ByteArray)))==true) (K (dB (M.inR v.2.1 Z0 Z1)) []) (K (dB false) [])) (K (dB false) []))))):=by kernel_rfl
theorem con99_ok:br P 99 c99:=bw C99 func99 (kC con67_ok (kC con147_ok kN)) fun args hp K h0=>by
 obtain⟨v,rfl,rfl,h_v,hK⟩:=g1e h0
 have h:ok (F.nE v) (fun r=>K (dB r) []):=aC (F.wk v h_v) hK
 refine⟨rfl,ann99,aE,(.dat Ty.bool),(aK (by kernel_rfl)),?_⟩
 ·rw[vc99]
  exact(oC h (fun _ h=>h) fun _ h=>(oC h (fun _ h=>(oC h (fun _ h=>h) fun _ h=>h)) fun _ h=>(oC h (fun _ h=>(oC h (fun _ h=>(oC h (fun _ h=>⟨h_v.2.2.1,h⟩) fun _ h=>h)) fun _ h=>h)) fun _ h=>(oC h (fun _ h=>(oC h (fun _ h=>h) fun _ h=>h)) fun _ h=>h))))
def c53:Con:=⟨[.dat aa],fun args hp K=>g1 (pD aa) (fun v=>(Sm aa v)/\K (dB (M.aS v)) []) args hp,.plain,false⟩
@[reducible] def C53:Ctx:=cx [(99,c99)] 5 [] 0 false
def ann53:=an [[.fixRow 1 aa,kp 2],[kp 4]] []
theorem vc53 (v:aa.D) (K:KA):vcT C53 aE ann53 f53 [.data aa v] [] (.dat Ty.bool) K =
 ((Sm aa v)/\K (dB (M.aS v)) []):=by kernel_rfl
theorem con53_ok:br P 53 c53:=bw C53 func53 (kC con99_ok kN) fun args hp K h0=>by
 obtain⟨v,rfl,rfl,h_v,hK⟩:=g1e h0
 have h:ok (F.uG v) (fun r=>K (dB r) []):=aC (F.xz v h_v) hK
 refine⟨rfl,ann53,aE,(.dat Ty.bool),(aK (by kernel_rfl)),?_⟩
 ·rw[vc53]
  exact⟨h_v,h⟩
def c14:Con:=⟨[],fun args hp K=>Hj (K (dB true) []) args hp,.plain,false⟩
@[reducible] def C14:Ctx:=cx [(53,c53)] 8 [] 0 false
def ann14:=an [[kp 0],[kp 1]] []
theorem vc14  (K:KA):vcT C14 aE ann14 f14 [] [] (.dat Ty.bool) K =
 ((Sm aa (Z1,(Z3,((⟨#[]⟩:ByteArray),()))))/\cond ((M.aS (Z1,(Z3,((⟨#[]⟩:ByteArray),()))))==true) ((Sm aa ((9:Int),(Z0,((⟨#[]⟩:ByteArray),()))))/\K (dB (!(M.aS ((9:Int),(Z0,((⟨#[]⟩:ByteArray),())))))) []) (K (dB false) [])):=by kernel_rfl
theorem con14_ok:br P 14 c14:=bw C14 func14 (kC con53_ok kN) fun args hp K h0=>by
 obtain⟨rfl,rfl,h1⟩:=Ec h0
 have hK:=h1
 have h:ok (F.tB) (fun r=>K (dB r) []):=aC (F.Aj) hK
 refine⟨rfl,ann14,aE,(.dat Ty.bool),(aK (by kernel_rfl)),?_⟩
 ·rw[vc14]
  exact⟨(show Sm aa _ from⟨trivial,(show Sm (Ty.pair aD (Ty.pair Ty.str Ty.unit)) _ from⟨trivial,(show Sm (Ty.pair Ty.str Ty.unit) _ from⟨(Nat.le_of_ble_eq_true rfl),trivial⟩)⟩)⟩),(oC h (fun _ h=>⟨(show Sm aa _ from⟨trivial,(show Sm (Ty.pair aD (Ty.pair Ty.str Ty.unit)) _ from⟨trivial,(show Sm (Ty.pair Ty.str Ty.unit) _ from⟨(Nat.le_of_ble_eq_true rfl),trivial⟩)⟩)⟩),h⟩) fun _ h=>h)⟩
def c11:Con:=⟨[.dat TPS,.dat TPS],fun args hp K=>g2 (pD TPS) (pD TPS) (fun a b=>(Sm TPS a)/\(Sm TPS b)/\(a=b)/\K (dB true) []) args hp,.plain,false⟩
@[reducible] def C11:Ctx:=cx [] 26 [] 0 false
def ann11:=an [[kp 3],[kp 1027],[kp 16],[kp 35],[kp 16419],[kp 35],[kp 33554467],[kp 16],[kp 16]] [[kp 0]]
@[reducible] def s11_0 (a:LPt) (b:LPt) (i0:Int) (v0:Unit):St:=⟨[(0,.data TPS a),(1,.data TPS b),(5,dI i0)],[]⟩
@[reducible] def LP11_0 (a:LPt) (b:LPt) (m:Nat) (st_:St) (K:KX):Prop:=True/\cJ (s11_0 a b) Z0 (a.length:Int) (F.gq a b) (fun v0:Unit=>True) (aW (fun v0:Unit=>True->K (.exit 0) (⟨[],[]⟩:St)) (fun q0:Unit=>K .ret (⟨[(4,dB false)],[]⟩:St))) m st_
def L11 (a:LPt) (b:LPt):bC:=lp1 0 (LP11_0 a b)
theorem vc11 (a:LPt) (b:LPt) (K:KA):vcT C11 (L11 a b) ann11 f11 [.data TPS a,.data TPS b] [] (.dat Ty.bool) K =
 (cond (!decide ((a.length:Int)=(b.length:Int))) (K (dB false) []) (∃m_,True/\cJ (s11_0 a b) Z0 (a.length:Int) (F.gq a b) (fun v0:Unit=>True) (aW (fun v0:Unit=>True->K (dB true) []) (fun q0:Unit=>K (dB false) [])) m_ (s11_0 a b Z0 ()))):=by kernel_rfl
theorem lvc11_0 (a:LPt) (b:LPt)  (i0:Int) (v0:Unit) (m:Nat) (K:KX):lvT C11 (L11 a b) ann11 f11 0 0 (s11_0 a b i0 v0) m K =
 (cond (decide (i0<(a.length:Int))) ((0<=i0)/\(i0<(a.length:Int))/\(0<=i0)/\(i0<(b.length:Int))/\cond (!(Ty.beq ax (nP a i0) (nP b i0))) (K .ret (⟨[(4,dB false)],[]⟩:St)) (nxT (LP11_0 a b) m K (s11_0 a b (wrap64 (i0+Z1)) ()))) (K (.exit 0) (⟨[],[]⟩:St))):=by kernel_rfl
theorem con11_ok:br P 11 c11:=bw C11 func11 kN fun args hp K h0=>by
 obtain⟨a,b,rfl,rfl,h_a,h_b,p0,hK⟩:=g2e h0
 have h:ok (F.mu a b) (fun r=>K (dB r) []):=aC (F.tV a b h_a h_b p0) hK
 refine⟨rfl,ann11,(L11 a b),(.dat Ty.bool),(bH (i0:=0) (by kernel_rfl) ?_),?_⟩
 ·rintro _ _ K ⟨hc0,i0,v0,rfl,hl0,rfl,hv0,h⟩
  exact cast (lvc11_0 _ _ _ _ _ _).symm (bV h (fun ht0 h=>⟨hl0,⟨ht0,⟨hl0,(oG h fun _ h=>(oC h (fun _ h=>h) fun _ h=>(aU (fun _ hm=>⟨hc0,hm⟩) _ rfl hl0 gb ht0 (bg h_a) trivial h)))⟩⟩⟩) fun h=>(h trivial))
 ·rw[vc11]
  exact(oC h (fun _ h=>h) fun _ h=>(bJ (fun m hm=>⟨trivial,hm⟩) Z0 _ rfl (Int.natCast_nonneg 0) trivial (aP h (fun v0 h hv0=>h) (fun q0 h=>h))))
def c23:Con:=⟨[.dat (Ty.sl aD),.dat (Ty.sl aD)],fun args hp K=>g2 (pD (Ty.sl aD)) (pD (Ty.sl aD)) (fun a b=>(Sm (Ty.sl aD) a)/\(Sm (Ty.sl aD) b)/\(a=b)/\K (dB true) []) args hp,.plain,false⟩
@[reducible] def C23:Ctx:=cx [] 26 [] 0 false
def ann23:=an [[kp 3],[kp 1027],[kp 16],[kp 35],[kp 16419],[kp 35],[kp 33554467],[kp 16],[kp 16]] [[kp 0]]
@[reducible] def s23_0 (a:(List Int)) (b:(List Int)) (i0:Int) (v0:Unit):St:=⟨[(0,.data (Ty.sl aD) a),(1,.data (Ty.sl aD) b),(5,dI i0)],[]⟩
@[reducible] def LP23_0 (a:(List Int)) (b:(List Int)) (m:Nat) (st_:St) (K:KX):Prop:=True/\cJ (s23_0 a b) Z0 (a.length:Int) (F.gR a b) (fun v0:Unit=>True) (aW (fun v0:Unit=>True->K (.exit 0) (⟨[],[]⟩:St)) (fun q0:Unit=>K .ret (⟨[(4,dB false)],[]⟩:St))) m st_
def L23 (a:(List Int)) (b:(List Int)):bC:=lp1 0 (LP23_0 a b)
theorem vc23 (a:(List Int)) (b:(List Int)) (K:KA):vcT C23 (L23 a b) ann23 f23 [.data (Ty.sl aD) a,.data (Ty.sl aD) b] [] (.dat Ty.bool) K =
 (cond (!decide ((a.length:Int)=(b.length:Int))) (K (dB false) []) (∃m_,True/\cJ (s23_0 a b) Z0 (a.length:Int) (F.gR a b) (fun v0:Unit=>True) (aW (fun v0:Unit=>True->K (dB true) []) (fun q0:Unit=>K (dB false) [])) m_ (s23_0 a b Z0 ()))):=by kernel_rfl
theorem lvc23_0 (a:(List Int)) (b:(List Int))  (i0:Int) (v0:Unit) (m:Nat) (K:KX):lvT C23 (L23 a b) ann23 f23 0 0 (s23_0 a b i0 v0) m K =
 (cond (decide (i0<(a.length:Int))) ((0<=i0)/\(i0<(a.length:Int))/\(0<=i0)/\(i0<(b.length:Int))/\cond (!decide ((nI a i0)=(nI b i0))) (K .ret (⟨[(4,dB false)],[]⟩:St)) (nxT (LP23_0 a b) m K (s23_0 a b (wrap64 (i0+Z1)) ()))) (K (.exit 0) (⟨[],[]⟩:St))):=by kernel_rfl
theorem con23_ok:br P 23 c23:=bw C23 func23 kN fun args hp K h0=>by
 obtain⟨a,b,rfl,rfl,h_a,h_b,p0,hK⟩:=g2e h0
 have h:ok (F.oh a b) (fun r=>K (dB r) []):=aC (F.vF a b h_a h_b p0) hK
 refine⟨rfl,ann23,(L23 a b),(.dat Ty.bool),(bH (i0:=0) (by kernel_rfl) ?_),?_⟩
 ·rintro _ _ K ⟨hc0,i0,v0,rfl,hl0,rfl,hv0,h⟩
  exact cast (lvc23_0 _ _ _ _ _ _).symm (bV h (fun ht0 h=>⟨hl0,⟨ht0,⟨hl0,(oG h fun _ h=>(oC h (fun _ h=>h) fun _ h=>(aU (fun _ hm=>⟨hc0,hm⟩) _ rfl hl0 gb ht0 (bg h_a) trivial h)))⟩⟩⟩) fun h=>(h trivial))
 ·rw[vc23]
  exact(oC h (fun _ h=>h) fun _ h=>(bJ (fun m hm=>⟨trivial,hm⟩) Z0 _ rfl (Int.natCast_nonneg 0) trivial (aP h (fun v0 h hv0=>h) (fun q0 h=>h))))
def c18:Con:=⟨[.dat TSS,.dat TSS],fun args hp K=>g2 (pD TSS) (pD TSS) (fun a b=>(Sm TSS a)/\(Sm TSS b)/\(a=b)/\K (dB true) []) args hp,.plain,false⟩
@[reducible] def C18:Ctx:=cx [(11,c11),(23,c23)] 95 [] 0 false
def ann18:=an [[kp 3],[kp 1027],[kp 16],[kp 35],[kp 16419],[kp 35],[.keep [0,1,5,94]],[kp 16],[kp 16]] [[kp 0]]
@[reducible] def s18_0 (a:LS) (b:LS) (i0:Int) (v0:Unit):St:=⟨[(0,.data TSS a),(1,.data TSS b),(5,dI i0)],[]⟩
@[reducible] def LP18_0 (a:LS) (b:LS) (m:Nat) (st_:St) (K:KX):Prop:=True/\cJ (s18_0 a b) Z0 (a.length:Int) (F.gj a b) (fun v0:Unit=>True) (aW (fun v0:Unit=>True->K (.exit 0) (⟨[],[]⟩:St)) (fun q0:Unit=>K .ret (⟨[(4,dB false)],[]⟩:St))) m st_
def L18 (a:LS) (b:LS):bC:=lp1 0 (LP18_0 a b)
theorem vc18 (a:LS) (b:LS) (K:KA):vcT C18 (L18 a b) ann18 f18 [.data TSS a,.data TSS b] [] (.dat Ty.bool) K =
 (cond (!decide ((a.length:Int)=(b.length:Int))) (K (dB false) []) (∃m_,True/\cJ (s18_0 a b) Z0 (a.length:Int) (F.gj a b) (fun v0:Unit=>True) (aW (fun v0:Unit=>True->K (dB true) []) (fun q0:Unit=>K (dB false) [])) m_ (s18_0 a b Z0 ()))):=by kernel_rfl
theorem lvc18_0 (a:LS) (b:LS)  (i0:Int) (v0:Unit) (m:Nat) (K:KX):lvT C18 (L18 a b) ann18 f18 0 0 (s18_0 a b i0 v0) m K =
 (cond (decide (i0<(a.length:Int))) ((0<=i0)/\(i0<(a.length:Int))/\(0<=i0)/\(i0<(b.length:Int))/\cond ((!decide ((nS a i0).1=(nS b i0).1))==false) ((0<=i0)/\(i0<(a.length:Int))/\(0<=i0)/\(i0<(b.length:Int))/\cond ((!decide ((nS a i0).2.1=(nS b i0).2.1))==false) ((0<=i0)/\(i0<(a.length:Int))/\(0<=i0)/\(i0<(b.length:Int))/\cond ((!decide ((nS a i0).2.2.1=(nS b i0).2.2.1))==false) ((0<=i0)/\(i0<(a.length:Int))/\(0<=i0)/\(i0<(b.length:Int))/\cond ((!decide ((nS a i0).2.2.2.1=(nS b i0).2.2.2.1))==false) ((0<=i0)/\(i0<(a.length:Int))/\(0<=i0)/\(i0<(b.length:Int))/\(Sm TPS (nS a i0).2.2.2.2.1)/\(Sm TPS (nS b i0).2.2.2.2.1)/\((nS a i0).2.2.2.2.1=(nS b i0).2.2.2.2.1)/\cond ((!true)==false) ((0<=i0)/\(i0<(a.length:Int))/\(0<=i0)/\(i0<(b.length:Int))/\(Sm (Ty.sl aD) (nS a i0).2.2.2.2.2.1)/\(Sm (Ty.sl aD) (nS b i0).2.2.2.2.2.1)/\((nS a i0).2.2.2.2.2.1=(nS b i0).2.2.2.2.2.1)/\cond (!true) (K .ret (⟨[(4,dB false)],[]⟩:St)) (nxT (LP18_0 a b) m K (s18_0 a b (wrap64 (i0+Z1)) ()))) (K .ret (⟨[(4,dB false)],[]⟩:St))) (K .ret (⟨[(4,dB false)],[]⟩:St))) (K .ret (⟨[(4,dB false)],[]⟩:St))) (K .ret (⟨[(4,dB false)],[]⟩:St))) (K .ret (⟨[(4,dB false)],[]⟩:St))) (K (.exit 0) (⟨[],[]⟩:St))):=by kernel_rfl
theorem con18_ok:br P 18 c18:=bw C18 func18 (kC con11_ok (kC con23_ok kN)) fun args hp K h0=>by
 obtain⟨a,b,rfl,rfl,h_a,h_b,p0,hK⟩:=g2e h0
 have h:ok (F.mA a b) (fun r=>K (dB r) []):=aC (F.uF a b h_a h_b p0) hK
 refine⟨rfl,ann18,(L18 a b),(.dat Ty.bool),(bH (i0:=0) (by kernel_rfl) ?_),?_⟩
 ·rintro _ _ K ⟨hc0,i0,v0,rfl,hl0,rfl,hv0,h⟩
  exact cast (lvc18_0 _ _ _ _ _ _).symm (bV h (fun ht0 h=>⟨hl0,⟨ht0,⟨hl0,(oG h fun g1 h=>(oC h (fun _ h=>⟨hl0,⟨ht0,⟨hl0,⟨g1,(oC h (fun _ h=>⟨hl0,⟨ht0,⟨hl0,⟨g1,(oC h (fun _ h=>⟨hl0,⟨ht0,⟨hl0,⟨g1,(oC h (fun _ h=>⟨hl0,⟨ht0,⟨hl0,⟨g1,⟨(aL h_a i0).2.2.2.2.1,⟨(aL h_b i0).2.2.2.2.1,(oG h fun _ h=>(oC h (fun b_32 h=>⟨hl0,⟨ht0,⟨hl0,⟨g1,⟨(aL h_a i0).2.2.2.2.2.1,⟨(aL h_b i0).2.2.2.2.2.1,(oG h fun _ h=>(bf (unf (bnf (bgt b_32))) (aU (fun _ hm=>⟨hc0,hm⟩) _ rfl hl0 gb ht0 (bg h_a) trivial h)))⟩⟩⟩⟩⟩⟩) fun _ h=>h))⟩⟩⟩⟩⟩⟩) fun _ h=>h)⟩⟩⟩⟩) fun _ h=>h)⟩⟩⟩⟩) fun _ h=>h)⟩⟩⟩⟩) fun _ h=>h))⟩⟩⟩) fun h=>(h trivial))
 ·rw[vc18]
  exact(oC h (fun _ h=>h) fun _ h=>(bJ (fun m hm=>⟨trivial,hm⟩) Z0 _ rfl (Int.natCast_nonneg 0) trivial (aP h (fun v0 h hv0=>h) (fun q0 h=>h))))
def c98:Con:=⟨[.dat ag],fun args hp K=>g1 (pD ag) (fun c=>K (dB (!M.eg c)) []) args hp,.plain,false⟩
@[reducible] def C98:Ctx:=cx [(67,c67)] 7 [] 0 false
def ann98:=an [[.fixRow 1 ag,kp 2],[kp 4]] []
theorem vc98 (c:ag.D) (K:KA):vcT C98 aE ann98 f98 [.data ag c] [] (.dat Ty.bool) K =
 (K (dB (!(M.inR c.1 Z1 Z3))) []):=by kernel_rfl
theorem con98_ok:br P 98 c98:=bw C98 func98 (kC con67_ok kN) fun args hp K h0=>by
 obtain⟨c,rfl,rfl,hK⟩:=g1e h0
 have h:ok (F.oS c) (fun r=>K (dB r) []):=aC (F.si c) hK
 refine⟨rfl,ann98,aE,(.dat Ty.bool),(aK (by kernel_rfl)),?_⟩
 ·rw[vc98]
  exact h
def c146:Con:=⟨[.lent ag,.any],fun args hp K=>args2 (fun a0 a1=>ng ag a0 fun xs=>qs 98 a1 (wG ((Sm TCS xs)/\K (dI (M.idx (t:=ag) (fun e=>!M.eg e) xs)) []))) args hp,.plain,false⟩
@[reducible] def C146:Ctx:=cx [(98,c98)] 19 [] 0 false
def ann146:=an [[kp 3],[kp 387],[kp 899],[kp 419],[kp 65955],[kp 16],[kp 387],[kp 16]] [[kp 0]]
@[reducible] def s146_0 (xs:LC) (i0:Int) (v0:Unit):St:=⟨[(0,.brw ag xs),(1,.fn 98 []),(7,dI (xs.length:Int)),(8,dI i0)],[]⟩
@[reducible] def LP146_0 (xs:LC) (m:Nat) (st_:St) (K:KX):Prop:=True/\cJ (s146_0 xs) Z0 (xs.length:Int) (F.cP xs) (fun v0:Unit=>True) (aW (fun v0:Unit=>True->K (.exit 0) (⟨[],[]⟩:St)) (fun q0:Int=>K .ret (⟨[(4,dI q0)],[]⟩:St))) m st_
def L146 (xs:LC):bC:=lp1 0 (LP146_0 xs)
theorem vc146 (xs:LC) (K:KA):vcT C146 (L146 xs) ann146 f146 [.brw ag xs,.fn 98 []] [] (.dat aD) K =
 (∃m_,True/\cJ (s146_0 xs) Z0 (xs.length:Int) (F.cP xs) (fun v0:Unit=>True) (aW (fun v0:Unit=>True->K (dI (-1:Int)) []) (fun q0:Int=>K (dI q0) [])) m_ (s146_0 xs Z0 ())):=by kernel_rfl
theorem lvc146_0 (xs:LC)  (i0:Int) (v0:Unit) (m:Nat) (K:KX):lvT C146 (L146 xs) ann146 f146 0 0 (s146_0 xs i0 v0) m K =
 (cond (decide (i0<(xs.length:Int))) ((0<=i0)/\(i0<(xs.length:Int))/\cond (!M.eg (nC xs i0)) (K .ret (⟨[(4,dI i0)],[]⟩:St)) (nxT (LP146_0 xs) m K (s146_0 xs (wrap64 (i0+Z1)) ()))) (K (.exit 0) (⟨[],[]⟩:St))):=by kernel_rfl
theorem con146_ok:br P 146 c146:=bw C146 func146 (kC con98_ok kN) fun args hp K h0=>by
 obtain⟨a0,a1,rfl,rfl,h1⟩:=bW h0
 obtain⟨xs,rfl,h2⟩:=dW h1
 obtain⟨cs1,rfl,h3⟩:=eZ h2
 obtain⟨rfl,h4⟩:=jV h3
 obtain⟨h_xs,hK⟩:=h4
 have h:ok (F.gN xs) (fun r=>K (dI r) []):=aC (F.kG xs h_xs) hK
 refine⟨rfl,ann146,(L146 xs),(.dat aD),(bH (i0:=0) (by kernel_rfl) ?_),?_⟩
 ·rintro _ _ K ⟨hc0,i0,v0,rfl,hl0,rfl,hv0,h⟩
  exact cast (lvc146_0 _ _ _ _ _).symm (bV h (fun ht0 h=>⟨hl0,⟨ht0,(oC h (fun _ h=>h) fun _ h=>(aU (fun _ hm=>⟨hc0,hm⟩) _ rfl hl0 gb ht0 (bg h_xs) trivial h))⟩⟩) fun h=>(h trivial))
 ·rw[vc146]
  exact(bJ (fun m hm=>⟨trivial,hm⟩) Z0 _ rfl (Int.natCast_nonneg 0) trivial (aP h (fun v0 h hv0=>h) (fun q0 h=>h)))
def c97:Con:=⟨[.lent ag,.any],fun args hp K=>args2 (fun a0 a1=>ng ag a0 fun xs=>qs 98 a1 (wG ((Sm TCS xs)/\K (dB (List.any xs (fun e=>!M.eg e))) []))) args hp,.plain,false⟩
@[reducible] def C97:Ctx:=cx [(98,c98),(146,c146)] 9 [] 0 false
def ann97:=an [[kp 3],[kp 16]] []
theorem vc97 (xs:LC) (K:KA):vcT C97 aE ann97 f97 [.brw ag xs,.fn 98 []] [] (.dat Ty.bool) K =
 ((Sm TCS xs)/\K (dB (decide (Z0<=(M.idx (t:=ag) (fun e=>!M.eg e) xs)))) []):=by kernel_rfl
theorem con97_ok:br P 97 c97:=bw C97 func97 (kC con98_ok (kC con146_ok kN)) fun args hp K h0=>by
 obtain⟨a0,a1,rfl,rfl,h1⟩:=bW h0
 obtain⟨xs,rfl,h2⟩:=dW h1
 obtain⟨cs1,rfl,h3⟩:=eZ h2
 obtain⟨rfl,h4⟩:=jV h3
 obtain⟨h_xs,hK⟩:=h4
 have h:ok (F.dL xs) (fun r=>K (dB r) []):=aC (F.jo xs h_xs) hK
 refine⟨rfl,ann97,aE,(.dat Ty.bool),(aK (by kernel_rfl)),?_⟩
 ·rw[vc97]
  exact⟨h_xs,h⟩
def c49:Con:=⟨[.dat TCS],fun args hp K=>g1 (pD TCS) (fun columns=>(Sm TCS columns)/\K (dB (M.bA columns)) []) args hp,.plain,false⟩
@[reducible] def C49:Ctx:=cx [(97,c97)] 11 [] 0 false
def ann49:=an [[kp 1],[kp 4]] []
theorem vc49 (columns:LC) (K:KA):vcT C49 aE ann49 f49 [.data TCS columns] [] (.dat Ty.bool) K =
 (cond ((decide ((columns.length:Int)<=Z4))==true) ((Sm TCS columns)/\K (dB (!(List.any columns (fun e=>!M.eg e)))) []) (K (dB false) [])):=by kernel_rfl
theorem con49_ok:br P 49 c49:=bw C49 func49 (kC con97_ok kN) fun args hp K h0=>by
 obtain⟨columns,rfl,rfl,h_columns,hK⟩:=g1e h0
 have h:ok (F.mM columns) (fun r=>K (dB r) []):=aC (F.va columns h_columns) hK
 refine⟨rfl,ann49,aE,(.dat Ty.bool),(aK (by kernel_rfl)),?_⟩
 ·rw[vc49]
  exact(oC h (fun _ h=>⟨h_columns,h⟩) fun _ h=>h)
def c150:Con:=⟨[.dat aa],fun args hp K=>g1 (pD aa) (fun v=>(Sm aa v)/\K (dB (!M.aS v)) []) args hp,.plain,false⟩
@[reducible] def C150:Ctx:=cx [(99,c99)] 6 [] 0 false
def ann150:=an [[.fixRow 1 aa,kp 2],[kp 4]] []
theorem vc150 (v:aa.D) (K:KA):vcT C150 aE ann150 f150 [.data aa v] [] (.dat Ty.bool) K =
 ((Sm aa v)/\K (dB (!(M.aS v))) []):=by kernel_rfl
theorem con150_ok:br P 150 c150:=bw C150 func150 (kC con99_ok kN) fun args hp K h0=>by
 obtain⟨v,rfl,rfl,h_v,hK⟩:=g1e h0
 have h:ok (F.tT v) (fun r=>K (dB r) []):=aC (F.xG v h_v) hK
 refine⟨rfl,ann150,aE,(.dat Ty.bool),(aK (by kernel_rfl)),?_⟩
 ·rw[vc150]
  exact⟨h_v,h⟩
def c184:Con:=⟨[.lent aa,.any],fun args hp K=>args2 (fun a0 a1=>ng aa a0 fun xs=>qs 150 a1 (wG ((Sm TVS xs)/\K (dI (M.idx (t:=aa) (fun e=>!M.aS e) xs)) []))) args hp,.plain,false⟩
@[reducible] def C184:Ctx:=cx [(150,c150)] 19 [] 0 false
def ann184:=an [[kp 3],[kp 387],[kp 899],[kp 419],[kp 65955],[kp 16],[kp 387],[kp 16]] [[kp 0]]
@[reducible] def s184_0 (xs:LV) (i0:Int) (v0:Unit):St:=⟨[(0,.brw aa xs),(1,.fn 150 []),(7,dI (xs.length:Int)),(8,dI i0)],[]⟩
@[reducible] def LP184_0 (xs:LV) (m:Nat) (st_:St) (K:KX):Prop:=True/\cJ (s184_0 xs) Z0 (xs.length:Int) (F.dn xs) (fun v0:Unit=>True) (aW (fun v0:Unit=>True->K (.exit 0) (⟨[],[]⟩:St)) (fun q0:Int=>K .ret (⟨[(4,dI q0)],[]⟩:St))) m st_
def L184 (xs:LV):bC:=lp1 0 (LP184_0 xs)
theorem vc184 (xs:LV) (K:KA):vcT C184 (L184 xs) ann184 f184 [.brw aa xs,.fn 150 []] [] (.dat aD) K =
 (∃m_,True/\cJ (s184_0 xs) Z0 (xs.length:Int) (F.dn xs) (fun v0:Unit=>True) (aW (fun v0:Unit=>True->K (dI (-1:Int)) []) (fun q0:Int=>K (dI q0) [])) m_ (s184_0 xs Z0 ())):=by kernel_rfl
theorem lvc184_0 (xs:LV)  (i0:Int) (v0:Unit) (m:Nat) (K:KX):lvT C184 (L184 xs) ann184 f184 0 0 (s184_0 xs i0 v0) m K =
 (cond (decide (i0<(xs.length:Int))) ((0<=i0)/\(i0<(xs.length:Int))/\(Sm aa (nV xs i0))/\cond (!M.aS (nV xs i0)) (K .ret (⟨[(4,dI i0)],[]⟩:St)) (nxT (LP184_0 xs) m K (s184_0 xs (wrap64 (i0+Z1)) ()))) (K (.exit 0) (⟨[],[]⟩:St))):=by kernel_rfl
theorem con184_ok:br P 184 c184:=bw C184 func184 (kC con150_ok kN) fun args hp K h0=>by
 obtain⟨a0,a1,rfl,rfl,h1⟩:=bW h0
 obtain⟨xs,rfl,h2⟩:=dW h1
 obtain⟨cs1,rfl,h3⟩:=eZ h2
 obtain⟨rfl,h4⟩:=jV h3
 obtain⟨h_xs,hK⟩:=h4
 have h:ok (F.ji xs) (fun r=>K (dI r) []):=aC (F.mW xs h_xs) hK
 refine⟨rfl,ann184,(L184 xs),(.dat aD),(bH (i0:=0) (by kernel_rfl) ?_),?_⟩
 ·rintro _ _ K ⟨hc0,i0,v0,rfl,hl0,rfl,hv0,h⟩
  exact cast (lvc184_0 _ _ _ _ _).symm (bV h (fun ht0 h=>⟨hl0,⟨ht0,⟨(aL h_xs i0),(oC h (fun _ h=>h) fun _ h=>(aU (fun _ hm=>⟨hc0,hm⟩) _ rfl hl0 gb ht0 (bg h_xs) trivial h))⟩⟩⟩) fun h=>(h trivial))
 ·rw[vc184]
  exact(bJ (fun m hm=>⟨trivial,hm⟩) Z0 _ rfl (Int.natCast_nonneg 0) trivial (aP h (fun v0 h hv0=>h) (fun q0 h=>h)))
def c149:Con:=⟨[.lent aa,.any],fun args hp K=>args2 (fun a0 a1=>ng aa a0 fun xs=>qs 150 a1 (wG ((Sm TVS xs)/\K (dB (List.any xs (fun e=>!M.aS e))) []))) args hp,.plain,false⟩
@[reducible] def C149:Ctx:=cx [(150,c150),(184,c184)] 9 [] 0 false
def ann149:=an [[kp 3],[kp 16]] []
theorem vc149 (xs:LV) (K:KA):vcT C149 aE ann149 f149 [.brw aa xs,.fn 150 []] [] (.dat Ty.bool) K =
 ((Sm TVS xs)/\K (dB (decide (Z0<=(M.idx (t:=aa) (fun e=>!M.aS e) xs)))) []):=by kernel_rfl
theorem con149_ok:br P 149 c149:=bw C149 func149 (kC con150_ok (kC con184_ok kN)) fun args hp K h0=>by
 obtain⟨a0,a1,rfl,rfl,h1⟩:=bW h0
 obtain⟨xs,rfl,h2⟩:=dW h1
 obtain⟨cs1,rfl,h3⟩:=eZ h2
 obtain⟨rfl,h4⟩:=jV h3
 obtain⟨h_xs,hK⟩:=h4
 have h:ok (F.eM xs) (fun r=>K (dB r) []):=aC (F.lC xs h_xs) hK
 refine⟨rfl,ann149,aE,(.dat Ty.bool),(aK (by kernel_rfl)),?_⟩
 ·rw[vc149]
  exact⟨h_xs,h⟩
def c103:Con:=⟨[.dat TVS],fun args hp K=>g1 (pD TVS) (fun row=>(Sm TVS row)/\K (dB (M.ow row)) []) args hp,.plain,false⟩
@[reducible] def C103:Ctx:=cx [(149,c149)] 11 [] 0 false
def ann103:=an [[kp 1],[kp 4]] []
theorem vc103 (row:LV) (K:KA):vcT C103 aE ann103 f103 [.data TVS row] [] (.dat Ty.bool) K =
 (cond ((decide ((row.length:Int)<=Z4))==true) ((Sm TVS row)/\K (dB (!(List.any row (fun e=>!M.aS e)))) []) (K (dB false) [])):=by kernel_rfl
theorem con103_ok:br P 103 c103:=bw C103 func103 (kC con149_ok kN) fun args hp K h0=>by
 obtain⟨row,rfl,rfl,h_row,hK⟩:=g1e h0
 have h:ok (F.tv row) (fun r=>K (dB r) []):=aC (F.Ab row h_row) hK
 refine⟨rfl,ann103,aE,(.dat Ty.bool),(aK (by kernel_rfl)),?_⟩
 ·rw[vc103]
  exact(oC h (fun _ h=>⟨h_row,h⟩) fun _ h=>h)
def c54:Con:=⟨[.dat TCS,.dat TVS],fun args hp K=>g2 (pD TCS) (pD TVS) (fun columns row=>(Sm TCS columns)/\(Sm TVS row)/\K (dB (M.cG columns row)) []) args hp,.plain,false⟩
@[reducible] def C54:Ctx:=cx [(49,c49),(103,c103)] 51 [] 0 false
def ann54:=an [[kp 3],[kp 2097155],[kp 16],[kp 29360129],[kp 62914561],[.fixRow 6 aa,kp 29360225],[kp 562949982781441],[kp 16],[kp 29360129],[kp 16]] [[kp 0]]
@[reducible] def s54_0 (columns:LC) (row:LV) (i0:Int) (v0:Unit):St:=⟨[(0,.data TCS columns),(22,.data TVS row),(23,dI (row.length:Int)),(24,dI i0)],[]⟩
@[reducible] def LP54_0 (columns:LC) (row:LV) (m:Nat) (st_:St) (K:KX):Prop:=True/\cJ (s54_0 columns row) Z0 (row.length:Int) (F.iN columns row) (fun v0:Unit=>True) (aW (fun v0:Unit=>True->K (.exit 0) (⟨[],[]⟩:St)) (fun q0:Unit=>K .ret (⟨[(4,dB false)],[]⟩:St))) m st_
def L54 (columns:LC) (row:LV):bC:=lp1 0 (LP54_0 columns row)
theorem vc54 (columns:LC) (row:LV) (K:KA):vcT C54 (L54 columns row) ann54 f54 [.data TCS columns,.data TVS row] [] (.dat Ty.bool) K =
 ((Sm TCS columns)/\cond ((!(M.bA columns))==false) ((Sm TVS row)/\cond ((!(M.ow row))==false) (cond (!decide ((row.length:Int)=(columns.length:Int))) (K (dB false) []) (∃m_,True/\cJ (s54_0 columns row) Z0 (row.length:Int) (F.iN columns row) (fun v0:Unit=>True) (aW (fun v0:Unit=>True->K (dB true) []) (fun q0:Unit=>K (dB false) [])) m_ (s54_0 columns row Z0 ()))) (K (dB false) [])) (K (dB false) [])):=by kernel_rfl
theorem lvc54_0 (columns:LC) (row:LV)  (i0:Int) (v0:Unit) (m:Nat) (K:KX):lvT C54 (L54 columns row) ann54 f54 0 0 (s54_0 columns row i0 v0) m K =
 (cond (decide (i0<(row.length:Int))) ((0<=i0)/\(i0<(row.length:Int))/\(0<=i0)/\(i0<(columns.length:Int))/\cond ((!decide ((nV row i0).1=(nC columns i0).1))==true) (cond ((!decide ((nV row i0).1=Z0))==false) ((0<=i0)/\(i0<(columns.length:Int))/\cond (!(nC columns i0).2.1) (K .ret (⟨[(4,dB false)],[]⟩:St)) (nxT (LP54_0 columns row) m K (s54_0 columns row (wrap64 (i0+Z1)) ()))) (K .ret (⟨[(4,dB false)],[]⟩:St))) (nxT (LP54_0 columns row) m K (s54_0 columns row (wrap64 (i0+Z1)) ()))) (K (.exit 0) (⟨[],[]⟩:St))):=by kernel_rfl
theorem con54_ok:br P 54 c54:=bw C54 func54 (kC con49_ok (kC con103_ok kN)) fun args hp K h0=>by
 obtain⟨columns,row,rfl,rfl,h_columns,h_row,hK⟩:=g2e h0
 have h:ok (F.qf columns row) (fun r=>K (dB r) []):=aC (F.xp columns row h_columns h_row) hK
 refine⟨rfl,ann54,(L54 columns row),(.dat Ty.bool),(bH (i0:=0) (by kernel_rfl) ?_),?_⟩
 ·rintro _ _ K ⟨hc0,i0,v0,rfl,hl0,rfl,hv0,h⟩
  exact cast (lvc54_0 _ _ _ _ _ _).symm (bV h (fun ht0 h=>⟨hl0,⟨ht0,⟨hl0,(oG h fun g1 h=>(oC h (fun _ h=>(oC h (fun _ h=>⟨hl0,⟨g1,(oC h (fun _ h=>h) fun _ h=>(aU (fun _ hm=>⟨hc0,hm⟩) _ rfl hl0 gb ht0 (bg h_row) trivial h))⟩⟩) fun _ h=>h)) fun _ h=>(aU (fun _ hm=>⟨hc0,hm⟩) _ rfl hl0 gb ht0 (bg h_row) trivial h)))⟩⟩⟩) fun h=>(h trivial))
 ·rw[vc54]
  exact⟨h_columns,(oC h (fun _ h=>⟨h_row,(oC h (fun _ h=>(oC h (fun _ h=>h) fun _ h=>(bJ (fun m hm=>⟨trivial,hm⟩) Z0 _ rfl (Int.natCast_nonneg 0) trivial (aP h (fun v0 h hv0=>h) (fun q0 h=>h))))) fun _ h=>h)⟩) fun _ h=>h)⟩
def c189:Con:=⟨[.dat TVS,.any],fun args hp K=>g2 (pD TVS) (pR TCS) (fun r columns=>(Sm TVS r)/\(Sm TCS columns)/\K (dB (!M.cG columns r)) []) args hp,.plain,false⟩
@[reducible] def C189:Ctx:=cx [(54,c54)] 8 [] 0 false
def ann189:=an [[kp 3],[kp 8]] []
theorem vc189 (r:LV) (columns:LC) (K:KA):vcT C189 aE ann189 f189 [.data TVS r,.ref (.data TCS columns)] [] (.dat Ty.bool) K =
 ((Sm TCS columns)/\(Sm TVS r)/\K (dB (!(M.cG columns r))) []):=by kernel_rfl
theorem con189_ok:br P 189 c189:=bw C189 func189 (kC con54_ok kN) fun args hp K h0=>by
 obtain⟨r,columns,rfl,rfl,h_r,h_columns,hK⟩:=g2e h0
 have h:ok (F.sB r columns) (fun r=>K (dB r) []):=aC (F.vE r columns h_r h_columns) hK
 refine⟨rfl,ann189,aE,(.dat Ty.bool),(aK (by kernel_rfl)),?_⟩
 ·rw[vc189]
  exact⟨h_columns,⟨h_r,h⟩⟩
def c209:Con:=⟨[.lent TVS,.any],fun args hp K=>args2 (fun a0 a1=>ng TVS a0 fun xs=>qs 189 a1 (AL (fun b1_0=>yD TCS b1_0 fun k0=>(Sm (Ty.sl TVS) xs)/\(Sm TCS k0)/\K (dI (M.idx (t:=TVS) (fun e=>!M.cG k0 e) xs)) []))) args hp,.plain,false⟩
@[reducible] def C209:Ctx:=cx [(189,c189)] 19 [] 0 false
def ann209:=an [[kp 3],[kp 387],[kp 899],[kp 419],[kp 65955],[kp 16],[kp 387],[kp 16]] [[kp 0]]
@[reducible] def s209_0 (xs:(List LV)) (k0:LC) (i0:Int) (v0:Unit):St:=⟨[(0,.brw TVS xs),(1,.fn 189 [.ref (.data TCS k0)]),(7,dI (xs.length:Int)),(8,dI i0)],[]⟩
@[reducible] def LP209_0 (xs:(List LV)) (k0:LC) (m:Nat) (st_:St) (K:KX):Prop:=True/\cJ (s209_0 xs k0) Z0 (xs.length:Int) (F.dg xs k0) (fun v0:Unit=>True) (aW (fun v0:Unit=>True->K (.exit 0) (⟨[],[]⟩:St)) (fun q0:Int=>K .ret (⟨[(4,dI q0)],[]⟩:St))) m st_
def L209 (xs:(List LV)) (k0:LC):bC:=lp1 0 (LP209_0 xs k0)
theorem vc209 (xs:(List LV)) (k0:LC) (K:KA):vcT C209 (L209 xs k0) ann209 f209 [.brw TVS xs,.fn 189 [.ref (.data TCS k0)]] [] (.dat aD) K =
 (∃m_,True/\cJ (s209_0 xs k0) Z0 (xs.length:Int) (F.dg xs k0) (fun v0:Unit=>True) (aW (fun v0:Unit=>True->K (dI (-1:Int)) []) (fun q0:Int=>K (dI q0) [])) m_ (s209_0 xs k0 Z0 ())):=by kernel_rfl
theorem lvc209_0 (xs:(List LV)) (k0:LC)  (i0:Int) (v0:Unit) (m:Nat) (K:KX):lvT C209 (L209 xs k0) ann209 f209 0 0 (s209_0 xs k0 i0 v0) m K =
 (cond (decide (i0<(xs.length:Int))) ((0<=i0)/\(i0<(xs.length:Int))/\(Sm TVS (nth (t:=TVS) xs i0))/\(Sm TCS k0)/\cond (!M.cG k0 (nth (t:=TVS) xs i0)) (K .ret (⟨[(4,dI i0)],[]⟩:St)) (nxT (LP209_0 xs k0) m K (s209_0 xs k0 (wrap64 (i0+Z1)) ()))) (K (.exit 0) (⟨[],[]⟩:St))):=by kernel_rfl
theorem con209_ok:br P 209 c209:=bw C209 func209 (kC con189_ok kN) fun args hp K h0=>by
 obtain⟨a0,a1,rfl,rfl,h1⟩:=bW h0
 obtain⟨xs,rfl,h2⟩:=dW h1
 obtain⟨cs1,rfl,h3⟩:=eZ h2
 obtain⟨b1_0,rfl,h4⟩:=qi h3
 obtain⟨k0,rfl,h5⟩:=mD h4
 obtain⟨h_xs,h_k0,hK⟩:=h5
 have h:ok (F.jd xs k0) (fun r=>K (dI r) []):=aC (F.mo xs k0 h_xs h_k0) hK
 refine⟨rfl,ann209,(L209 xs k0),(.dat aD),(bH (i0:=0) (by kernel_rfl) ?_),?_⟩
 ·rintro _ _ K ⟨hc0,i0,v0,rfl,hl0,rfl,hv0,h⟩
  exact cast (lvc209_0 _ _ _ _ _ _).symm (bV h (fun ht0 h=>⟨hl0,⟨ht0,⟨(aL h_xs i0),⟨h_k0,(oC h (fun _ h=>h) fun _ h=>(aU (fun _ hm=>⟨hc0,hm⟩) _ rfl hl0 gb ht0 (bg h_xs) trivial h))⟩⟩⟩⟩) fun h=>(h trivial))
 ·rw[vc209]
  exact(bJ (fun m hm=>⟨trivial,hm⟩) Z0 _ rfl (Int.natCast_nonneg 0) trivial (aP h (fun v0 h hv0=>h) (fun q0 h=>h)))
def c188:Con:=⟨[.lent TVS,.any],fun args hp K=>args2 (fun a0 a1=>ng TVS a0 fun xs=>qs 189 a1 (AL (fun b1_0=>yD TCS b1_0 fun k0=>(Sm (Ty.sl TVS) xs)/\(Sm TCS k0)/\K (dB (List.any xs (fun e=>!M.cG k0 e))) []))) args hp,.plain,false⟩
@[reducible] def C188:Ctx:=cx [(189,c189),(209,c209)] 9 [] 0 false
def ann188:=an [[kp 3],[kp 16]] []
theorem vc188 (xs:(List LV)) (k0:LC) (K:KA):vcT C188 aE ann188 f188 [.brw TVS xs,.fn 189 [.ref (.data TCS k0)]] [] (.dat Ty.bool) K =
 ((Sm (Ty.sl TVS) xs)/\(Sm TCS k0)/\K (dB (decide (Z0<=(M.idx (t:=TVS) (fun e=>!M.cG k0 e) xs)))) []):=by kernel_rfl
theorem con188_ok:br P 188 c188:=bw C188 func188 (kC con189_ok (kC con209_ok kN)) fun args hp K h0=>by
 obtain⟨a0,a1,rfl,rfl,h1⟩:=bW h0
 obtain⟨xs,rfl,h2⟩:=dW h1
 obtain⟨cs1,rfl,h3⟩:=eZ h2
 obtain⟨b1_0,rfl,h4⟩:=qi h3
 obtain⟨k0,rfl,h5⟩:=mD h4
 obtain⟨h_xs,h_k0,hK⟩:=h5
 have h:ok (F.eJ xs k0) (fun r=>K (dB r) []):=aC (F.kL xs k0 h_xs h_k0) hK
 refine⟨rfl,ann188,aE,(.dat Ty.bool),(aK (by kernel_rfl)),?_⟩
 ·rw[vc188]
  exact⟨h_xs,⟨h_k0,h⟩⟩
def c155:Con:=⟨[.dat TCS,.dat (Ty.sl TVS)],fun args hp K=>g2 (pD TCS) (pD (Ty.sl TVS)) (fun columns rows=>(Sm TCS columns)/\(Sm (Ty.sl TVS) rows)/\K (dB (M.fO columns rows)) []) args hp,.plain,false⟩
@[reducible] def C155:Ctx:=cx [(49,c49),(188,c188),(189,c189)] 13 [] 0 false
def ann155:=an [[.fixBox 2,kp 6],[kp 16]] []
theorem vc155 (columns:LC) (rows:(List LV)) (K:KA):vcT C155 aE ann155 f155 [.data TCS columns,.data (Ty.sl TVS) rows] [] (.dat Ty.bool) K =
 ((Sm TCS columns)/\cond ((M.bA columns)==true) ((Sm (Ty.sl TVS) rows)/\(Sm TCS columns)/\K (dB (!(List.any rows (fun e=>!M.cG columns e)))) []) (K (dB false) [])):=by kernel_rfl
theorem con155_ok:br P 155 c155:=bw C155 func155 (kC con49_ok (kC con188_ok (kC con189_ok kN))) fun args hp K h0=>by
 obtain⟨columns,rows,rfl,rfl,h_columns,h_rows,hK⟩:=g2e h0
 have h:ok (F.rq columns rows) (fun r=>K (dB r) []):=aC (F.yy columns rows h_columns h_rows) hK
 refine⟨rfl,ann155,aE,(.dat Ty.bool),(aK (by kernel_rfl)),?_⟩
 ·rw[vc155]
  exact⟨h_columns,(oC h (fun _ h=>⟨h_rows,⟨h_columns,h⟩⟩) fun _ h=>h)⟩
def c154:Con:=⟨[.dat az],fun args hp K=>g1 (pD az) (fun t=>(Sm az t)/\K (dB (!M.cQ t)) []) args hp,.plain,false⟩
@[reducible] def C154:Ctx:=cx [(49,c49),(155,c155)] 21 [] 0 false
def ann154:=an [[.fixRow 1 az,kp 2],[kp 4]] []
theorem vc154 (t:az.D) (K:KA):vcT C154 aE ann154 f154 [.data az t] [] (.dat Ty.bool) K =
 ((Sm TCS t.1)/\cond ((!(M.bA t.1))==false) (cond ((decide (Z6<(t.2.1.length:Int)))==false) ((Sm TCS t.1)/\(Sm (Ty.sl TVS) t.2.1)/\K (dB (!(M.fO t.1 t.2.1))) []) (K (dB true) [])) (K (dB true) [])):=by kernel_rfl
theorem con154_ok:br P 154 c154:=bw C154 func154 (kC con49_ok (kC con155_ok kN)) fun args hp K h0=>by
 obtain⟨t,rfl,rfl,h_t,hK⟩:=g1e h0
 have h:ok (F.lz t) (fun r=>K (dB r) []):=aC (F.tj t h_t) hK
 refine⟨rfl,ann154,aE,(.dat Ty.bool),(aK (by kernel_rfl)),?_⟩
 ·rw[vc154]
  exact⟨h_t.1,(oC h (fun _ h=>(oC h (fun _ h=>⟨h_t.1,⟨h_t.2.1,h⟩⟩) fun _ h=>h)) fun _ h=>h)⟩
def c187:Con:=⟨[.lent az,.any],fun args hp K=>args2 (fun a0 a1=>ng az a0 fun xs=>qs 154 a1 (wG ((Sm TTb xs)/\K (dI (M.idx (t:=az) (fun e=>!M.cQ e) xs)) []))) args hp,.plain,false⟩
@[reducible] def C187:Ctx:=cx [(154,c154)] 19 [] 0 false
def ann187:=an [[kp 3],[kp 387],[kp 899],[kp 419],[kp 65955],[kp 16],[kp 387],[kp 16]] [[kp 0]]
@[reducible] def s187_0 (xs:LTb) (i0:Int) (v0:Unit):St:=⟨[(0,.brw az xs),(1,.fn 154 []),(7,dI (xs.length:Int)),(8,dI i0)],[]⟩
@[reducible] def LP187_0 (xs:LTb) (m:Nat) (st_:St) (K:KX):Prop:=True/\cJ (s187_0 xs) Z0 (xs.length:Int) (F.cW xs) (fun v0:Unit=>True) (aW (fun v0:Unit=>True->K (.exit 0) (⟨[],[]⟩:St)) (fun q0:Int=>K .ret (⟨[(4,dI q0)],[]⟩:St))) m st_
def L187 (xs:LTb):bC:=lp1 0 (LP187_0 xs)
theorem vc187 (xs:LTb) (K:KA):vcT C187 (L187 xs) ann187 f187 [.brw az xs,.fn 154 []] [] (.dat aD) K =
 (∃m_,True/\cJ (s187_0 xs) Z0 (xs.length:Int) (F.cW xs) (fun v0:Unit=>True) (aW (fun v0:Unit=>True->K (dI (-1:Int)) []) (fun q0:Int=>K (dI q0) [])) m_ (s187_0 xs Z0 ())):=by kernel_rfl
theorem lvc187_0 (xs:LTb)  (i0:Int) (v0:Unit) (m:Nat) (K:KX):lvT C187 (L187 xs) ann187 f187 0 0 (s187_0 xs i0 v0) m K =
 (cond (decide (i0<(xs.length:Int))) ((0<=i0)/\(i0<(xs.length:Int))/\(Sm az (nT xs i0))/\cond (!M.cQ (nT xs i0)) (K .ret (⟨[(4,dI i0)],[]⟩:St)) (nxT (LP187_0 xs) m K (s187_0 xs (wrap64 (i0+Z1)) ()))) (K (.exit 0) (⟨[],[]⟩:St))):=by kernel_rfl
theorem con187_ok:br P 187 c187:=bw C187 func187 (kC con154_ok kN) fun args hp K h0=>by
 obtain⟨a0,a1,rfl,rfl,h1⟩:=bW h0
 obtain⟨xs,rfl,h2⟩:=dW h1
 obtain⟨cs1,rfl,h3⟩:=eZ h2
 obtain⟨rfl,h4⟩:=jV h3
 obtain⟨h_xs,hK⟩:=h4
 have h:ok (F.ir xs) (fun r=>K (dI r) []):=aC (F.kX xs h_xs) hK
 refine⟨rfl,ann187,(L187 xs),(.dat aD),(bH (i0:=0) (by kernel_rfl) ?_),?_⟩
 ·rintro _ _ K ⟨hc0,i0,v0,rfl,hl0,rfl,hv0,h⟩
  exact cast (lvc187_0 _ _ _ _ _).symm (bV h (fun ht0 h=>⟨hl0,⟨ht0,⟨(aL h_xs i0),(oC h (fun _ h=>h) fun _ h=>(aU (fun _ hm=>⟨hc0,hm⟩) _ rfl hl0 gb ht0 (bg h_xs) trivial h))⟩⟩⟩) fun h=>(h trivial))
 ·rw[vc187]
  exact(bJ (fun m hm=>⟨trivial,hm⟩) Z0 _ rfl (Int.natCast_nonneg 0) trivial (aP h (fun v0 h hv0=>h) (fun q0 h=>h)))
def c153:Con:=⟨[.lent az,.any],fun args hp K=>args2 (fun a0 a1=>ng az a0 fun xs=>qs 154 a1 (wG ((Sm TTb xs)/\K (dB (List.any xs (fun e=>!M.cQ e))) []))) args hp,.plain,false⟩
@[reducible] def C153:Ctx:=cx [(154,c154),(187,c187)] 9 [] 0 false
def ann153:=an [[kp 3],[kp 16]] []
theorem vc153 (xs:LTb) (K:KA):vcT C153 aE ann153 f153 [.brw az xs,.fn 154 []] [] (.dat Ty.bool) K =
 ((Sm TTb xs)/\K (dB (decide (Z0<=(M.idx (t:=az) (fun e=>!M.cQ e) xs)))) []):=by kernel_rfl
theorem con153_ok:br P 153 c153:=bw C153 func153 (kC con154_ok (kC con187_ok kN)) fun args hp K h0=>by
 obtain⟨a0,a1,rfl,rfl,h1⟩:=bW h0
 obtain⟨xs,rfl,h2⟩:=dW h1
 obtain⟨cs1,rfl,h3⟩:=eZ h2
 obtain⟨rfl,h4⟩:=jV h3
 obtain⟨h_xs,hK⟩:=h4
 have h:ok (F.dX xs) (fun r=>K (dB r) []):=aC (F.jF xs h_xs) hK
 refine⟨rfl,ann153,aE,(.dat Ty.bool),(aK (by kernel_rfl)),?_⟩
 ·rw[vc153]
  exact⟨h_xs,h⟩
def c110:Con:=⟨[.dat TTb],fun args hp K=>g1 (pD TTb) (fun tables=>(Sm TTb tables)/\K (dB (M.bX tables)) []) args hp,.plain,false⟩
@[reducible] def C110:Ctx:=cx [(153,c153)] 11 [] 0 false
def ann110:=an [[kp 1],[kp 4]] []
theorem vc110 (tables:LTb) (K:KA):vcT C110 aE ann110 f110 [.data TTb tables] [] (.dat Ty.bool) K =
 (cond ((decide ((tables.length:Int)<=Z3))==true) ((Sm TTb tables)/\K (dB (!(List.any tables (fun e=>!M.cQ e)))) []) (K (dB false) [])):=by kernel_rfl
theorem con110_ok:br P 110 c110:=bw C110 func110 (kC con153_ok kN) fun args hp K h0=>by
 obtain⟨tables,rfl,rfl,h_tables,hK⟩:=g1e h0
 have h:ok (F.nK tables) (fun r=>K (dB r) []):=aC (F.wo tables h_tables) hK
 refine⟨rfl,ann110,aE,(.dat Ty.bool),(aK (by kernel_rfl)),?_⟩
 ·rw[vc110]
  exact(oC h (fun _ h=>⟨h_tables,h⟩) fun _ h=>h)
def c50:Con:=⟨[.dat ax],fun args hp K=>g1 (pD ax) (fun p=>(Sm ax p)/\K (dI (M.takes p)) []) args hp,.plain,false⟩
@[reducible] def C50:Ctx:=cx [] 13 [] 0 false
def ann50:=an [[.fixRow 1 ax,kp 2],[kp 16],[kp 48],[kp 48],[kp 48],[kp 48],[kp 4],[kp 1040],[kp 1024],[kp 4],[kp 4]] []
@[reducible] def S50_0 (p:ax.D) (K:KA):Prop:=cond (decide (p.1=(7:Int))) (cond (decide (p.1=(7:Int))) (K (dI Z1) []) (K (dI Z0) [])) (cond (decide (p.1=(8:Int))) (K (dI Z1) []) (K (dI Z0) []))
theorem vc50 (p:ax.D) (K:KA):vcT C50 aE ann50 f50 [.data ax p] [] (.dat aD) K =
 (cond (decide (p.1=Z3)) (cond (decide (p.1=Z3)) (K (dI Z2) []) (S50_0 p K)) (cond (decide (p.1=Z4)) (cond (decide (p.1=Z4)) (K (dI Z2) []) (S50_0 p K)) (cond (decide (p.1=Z5)) (cond (decide (p.1=Z5)) (K (dI Z2) []) (S50_0 p K)) (cond (decide (p.1=Z6)) (K (dI Z2) []) (S50_0 p K))))):=by kernel_rfl
theorem con50_ok:br P 50 c50:=bw C50 func50 kN fun args hp K h0=>by
 obtain⟨p,rfl,rfl,h_p,hK⟩:=g1e h0
 have h:ok (F.lB p) (fun r=>K (dI r) []):=aC (F.sG p h_p) hK
 refine⟨rfl,ann50,aE,(.dat aD),(aK (by kernel_rfl)),?_⟩
 ·rw[vc50]
  exact(oC h (fun b_1 h=>(bM b_1 h)) fun _ h=>(oC h (fun b_6 h=>(bM b_6 h)) fun _ h=>(oC h (fun b_8 h=>(bM b_8 h)) fun _ h=>(oC h (fun _ h=>h) fun _ h=>(oC h (fun b_11 h=>(bM b_11 h)) fun _ h=>(oC h (fun _ h=>h) fun _ h=>h))))))
def c51:Con:=⟨[.dat ax,.dat TCS],fun args hp K=>g2 (pD ax) (pD TCS) (fun p columns=>(Sm ax p)/\(Sm TCS columns)/\K (dB (M.lH p columns)) []) args hp,.plain,false⟩
@[reducible] def C51:Ctx:=cx [(67,c67),(99,c99)] 63 [] 0 false
def ann51:=an [[.fixRow 2 ax,kp 6],[kp 70],[kp 198],[kp 16],[kp 8388678],[kp 16],[kp 137438953540],[kp 16],[.keep [2,6,48]],[.keep [2,6,48]],[.keep [2,6,48]],[.keep [2,6,48]],[.keep [2,48]],[kp 16],[kp 16]] []
@[reducible] def S51_0 (p:ax.D) (columns:LC) (K:KA):Prop:=cond ((decide (p.2.1=Z0))==true) (K (dB (Ty.beq aa p.2.2.1 (Z0,(Z0,((⟨#[]⟩:ByteArray),()))))) []) (K (dB false) [])
theorem vc51 (p:ax.D) (columns:LC) (K:KA):vcT C51 aE ann51 f51 [.data ax p,.data TCS columns] [] (.dat Ty.bool) K =
 (cond (decide (p.1=Z1)) (cond ((decide (p.2.1=Z0))==true) ((Sm aa p.2.2.1)/\cond ((M.aS p.2.2.1)==true) (K (dB (!decide (p.2.2.1.1=Z0))) []) (K (dB false) [])) (K (dB false) [])) (cond (decide (p.1=Z2)) (cond ((M.inR p.2.1 Z0 (wrap64 ((columns.length:Int)-Z1)))==true) (K (dB (Ty.beq aa p.2.2.1 (Z0,(Z0,((⟨#[]⟩:ByteArray),()))))) []) (K (dB false) [])) (cond (decide (p.1=Z4)) (cond ((M.inR p.2.1 Z1 Z4)==true) (K (dB (Ty.beq aa p.2.2.1 (Z0,(Z0,((⟨#[]⟩:ByteArray),()))))) []) (K (dB false) [])) (cond (decide (p.1=Z3)) (cond (decide (p.1=Z3)) (S51_0 p columns K) (K (dB false) [])) (cond (decide (p.1=Z5)) (cond (decide (p.1=Z5)) (S51_0 p columns K) (K (dB false) [])) (cond (decide (p.1=Z6)) (cond (decide (p.1=Z6)) (S51_0 p columns K) (K (dB false) [])) (cond (decide (p.1=(7:Int))) (cond (decide (p.1=(7:Int))) (S51_0 p columns K) (K (dB false) [])) (cond (decide (p.1=(8:Int))) (S51_0 p columns K) (K (dB false) []))))))))):=by kernel_rfl
theorem con51_ok:br P 51 c51:=bw C51 func51 (kC con67_ok (kC con99_ok kN)) fun args hp K h0=>by
 obtain⟨p,columns,rfl,rfl,h_p,h_columns,hK⟩:=g2e h0
 have h:ok (F.ld p columns) (fun r=>K (dB r) []):=aC (F.tA p columns h_p h_columns) hK
 refine⟨rfl,ann51,aE,(.dat Ty.bool),(aK (by kernel_rfl)),?_⟩
 ·rw[vc51]
  exact(oC h (fun _ h=>(oC h (fun _ h=>⟨h_p.2.2.1,(oC h (fun _ h=>h) fun _ h=>h)⟩) fun _ h=>h)) fun _ h=>(oC h (fun _ h=>(oC h (fun _ h=>h) fun _ h=>h)) fun _ h=>(oC h (fun _ h=>(oC h (fun _ h=>h) fun _ h=>h)) fun _ h=>(oC h (fun b_8 h=>(bM b_8 (oC h (fun _ h=>h) fun _ h=>h))) fun _ h=>(oC h (fun b_11 h=>(bM b_11 (oC h (fun _ h=>h) fun _ h=>h))) fun _ h=>(oC h (fun b_14 h=>(bM b_14 (oC h (fun _ h=>h) fun _ h=>h))) fun _ h=>(oC h (fun b_17 h=>(bM b_17 (oC h (fun _ h=>h) fun _ h=>h))) fun _ h=>(oC h (fun _ h=>(oC h (fun _ h=>h) fun _ h=>h)) fun _ h=>h))))))))
def c102:Con:=⟨[.dat aD,.any],fun args hp K=>g2 (pD aD) (pR aD) (fun k kind=>K (dB (!decide (k=kind))) []) args hp,.plain,false⟩
@[reducible] def C102:Ctx:=cx [] 7 [] 0 false
def ann102:=an [[kp 3],[kp 8]] []
theorem vc102 (k:Int) (kind:Int) (K:KA):vcT C102 aE ann102 f102 [dI k,.ref (dI kind)] [] (.dat Ty.bool) K =
 (K (dB (!decide (k=kind))) []):=by kernel_rfl
theorem con102_ok:br P 102 c102:=bw C102 func102 kN fun args hp K h0=>by
 obtain⟨k,kind,rfl,rfl,hK⟩:=g2e h0
 have h:ok (F.mh k kind) (fun r=>K (dB r) []):=aC (F.qw k kind) hK
 refine⟨rfl,ann102,aE,(.dat Ty.bool),(aK (by kernel_rfl)),?_⟩
 ·rw[vc102]
  exact h
def c148:Con:=⟨[.lent aD,.any],fun args hp K=>args2 (fun a0 a1=>ng aD a0 fun xs=>qs 102 a1 (AL (fun b1_0=>yD aD b1_0 fun k0=>(Sm (Ty.sl aD) xs)/\K (dI (M.idx (t:=aD) (fun e=>!decide (e=k0)) xs)) []))) args hp,.plain,false⟩
@[reducible] def C148:Ctx:=cx [(102,c102)] 19 [] 0 false
def ann148:=an [[kp 3],[kp 387],[kp 899],[kp 419],[kp 65955],[kp 16],[kp 387],[kp 16]] [[kp 0]]
@[reducible] def s148_0 (xs:(List Int)) (k0:Int) (i0:Int) (v0:Unit):St:=⟨[(0,.brw aD xs),(1,.fn 102 [.ref (dI k0)]),(7,dI (xs.length:Int)),(8,dI i0)],[]⟩
@[reducible] def LP148_0 (xs:(List Int)) (k0:Int) (m:Nat) (st_:St) (K:KX):Prop:=True/\cJ (s148_0 xs k0) Z0 (xs.length:Int) (F.cH xs k0) (fun v0:Unit=>True) (aW (fun v0:Unit=>True->K (.exit 0) (⟨[],[]⟩:St)) (fun q0:Int=>K .ret (⟨[(4,dI q0)],[]⟩:St))) m st_
def L148 (xs:(List Int)) (k0:Int):bC:=lp1 0 (LP148_0 xs k0)
theorem vc148 (xs:(List Int)) (k0:Int) (K:KA):vcT C148 (L148 xs k0) ann148 f148 [.brw aD xs,.fn 102 [.ref (dI k0)]] [] (.dat aD) K =
 (∃m_,True/\cJ (s148_0 xs k0) Z0 (xs.length:Int) (F.cH xs k0) (fun v0:Unit=>True) (aW (fun v0:Unit=>True->K (dI (-1:Int)) []) (fun q0:Int=>K (dI q0) [])) m_ (s148_0 xs k0 Z0 ())):=by kernel_rfl
theorem lvc148_0 (xs:(List Int)) (k0:Int)  (i0:Int) (v0:Unit) (m:Nat) (K:KX):lvT C148 (L148 xs k0) ann148 f148 0 0 (s148_0 xs k0 i0 v0) m K =
 (cond (decide (i0<(xs.length:Int))) ((0<=i0)/\(i0<(xs.length:Int))/\cond (!decide ((nI xs i0)=k0)) (K .ret (⟨[(4,dI i0)],[]⟩:St)) (nxT (LP148_0 xs k0) m K (s148_0 xs k0 (wrap64 (i0+Z1)) ()))) (K (.exit 0) (⟨[],[]⟩:St))):=by kernel_rfl
theorem con148_ok:br P 148 c148:=bw C148 func148 (kC con102_ok kN) fun args hp K h0=>by
 obtain⟨a0,a1,rfl,rfl,h1⟩:=bW h0
 obtain⟨xs,rfl,h2⟩:=dW h1
 obtain⟨cs1,rfl,h3⟩:=eZ h2
 obtain⟨b1_0,rfl,h4⟩:=qi h3
 obtain⟨k0,rfl,h5⟩:=mD h4
 obtain⟨h_xs,hK⟩:=h5
 have h:ok (F.fV xs k0) (fun r=>K (dI r) []):=aC (F.jE xs k0 h_xs) hK
 refine⟨rfl,ann148,(L148 xs k0),(.dat aD),(bH (i0:=0) (by kernel_rfl) ?_),?_⟩
 ·rintro _ _ K ⟨hc0,i0,v0,rfl,hl0,rfl,hv0,h⟩
  exact cast (lvc148_0 _ _ _ _ _ _).symm (bV h (fun ht0 h=>⟨hl0,⟨ht0,(oC h (fun _ h=>h) fun _ h=>(aU (fun _ hm=>⟨hc0,hm⟩) _ rfl hl0 gb ht0 (bg h_xs) trivial h))⟩⟩) fun h=>(h trivial))
 ·rw[vc148]
  exact(bJ (fun m hm=>⟨trivial,hm⟩) Z0 _ rfl (Int.natCast_nonneg 0) trivial (aP h (fun v0 h hv0=>h) (fun q0 h=>h)))
def c101:Con:=⟨[.lent aD,.any],fun args hp K=>args2 (fun a0 a1=>ng aD a0 fun xs=>qs 102 a1 (AL (fun b1_0=>yD aD b1_0 fun k0=>(Sm (Ty.sl aD) xs)/\K (dB (List.any xs (fun e=>!decide (e=k0)))) []))) args hp,.plain,false⟩
@[reducible] def C101:Ctx:=cx [(102,c102),(148,c148)] 9 [] 0 false
def ann101:=an [[kp 3],[kp 16]] []
theorem vc101 (xs:(List Int)) (k0:Int) (K:KA):vcT C101 aE ann101 f101 [.brw aD xs,.fn 102 [.ref (dI k0)]] [] (.dat Ty.bool) K =
 ((Sm (Ty.sl aD) xs)/\K (dB (decide (Z0<=(M.idx (t:=aD) (fun e=>!decide (e=k0)) xs)))) []):=by kernel_rfl
theorem con101_ok:br P 101 c101:=bw C101 func101 (kC con102_ok (kC con148_ok kN)) fun args hp K h0=>by
 obtain⟨a0,a1,rfl,rfl,h1⟩:=bW h0
 obtain⟨xs,rfl,h2⟩:=dW h1
 obtain⟨cs1,rfl,h3⟩:=eZ h2
 obtain⟨b1_0,rfl,h4⟩:=qi h3
 obtain⟨k0,rfl,h5⟩:=mD h4
 obtain⟨h_xs,hK⟩:=h5
 have h:ok (F.dm xs k0) (fun r=>K (dB r) []):=aC (F.iW xs k0 h_xs) hK
 refine⟨rfl,ann101,aE,(.dat Ty.bool),(aK (by kernel_rfl)),?_⟩
 ·rw[vc101]
  exact⟨h_xs,h⟩
def c100:Con:=⟨[.dat aD,.any],fun args hp K=>g2 (pD aD) (pQ aD) (fun kind ins=>(Sm (Ty.sl aD) ins)/\K (dB (List.all ins (fun k=>decide (k=kind)))) []) args hp,.plain,false⟩
@[reducible] def C100:Ctx:=cx [(101,c101),(102,c102)] 8 [] 0 false
def ann100:=an [[.fixBox 2,kp 6],[kp 8]] []
theorem vc100 (kind:Int) (ins:(List Int)) (K:KA):vcT C100 aE ann100 f100 [dI kind,.ref (.brw aD ins)] [] (.dat Ty.bool) K =
 ((Sm (Ty.sl aD) ins)/\K (dB (!(List.any ins (fun e=>!decide (e=kind))))) []):=by kernel_rfl
theorem con100_ok:br P 100 c100:=bw C100 func100 (kC con101_ok (kC con102_ok kN)) fun args hp K h0=>by
 obtain⟨kind,ins,rfl,rfl,h_ins,hK⟩:=g2e h0
 have h:ok (F.jL kind ins) (fun r=>K (dB r) []):=aC (F.sj kind ins h_ins) hK
 refine⟨rfl,ann100,aE,(.dat Ty.bool),(aK (by kernel_rfl)),?_⟩
 ·rw[vc100]
  exact⟨h_ins,h⟩
def c52:Con:=⟨[.dat ax,.dat TCS,.lent aD],fun args hp K=>g3 (pD ax) (pD TCS) (pB aD) (fun p columns inp=>(Sm ax p)/\(Sm TCS columns)/\(Sm (Ty.sl aD) inp)/\(M.lH p columns=true)/\((inp.length:Int)=M.takes p)/\(∀r:Int×Bool,r=(M.cT p columns inp)->K (.tup [dI r.1,dB r.2]) [])) args hp,.plain,false⟩
@[reducible] def C52:Ctx:=cx [(100,c100)] 42 [] 0 false
def ann52:=an [[.fixRow 3 ax,.fixBox 5,kp 42],[kp 298],[kp 2346],[kp 6442],[kp 192],[kp 133418],[kp 192],[kp 33556768],[kp 192],[kp 536873248],[kp 192],[.keep [8,38]],[kp 192],[kp 192]] []
theorem vc52 (p:ax.D) (columns:LC) (inp:(List Int)) (K:KA):vcT C52 aE ann52 f52 [.data ax p,.data TCS columns,.brw aD inp] [] (.tup [aD,Ty.bool]) K =
 (cond (decide (p.1=Z1)) (K (.tup [dI p.2.2.1.1,dB true]) []) (cond (decide (p.1=Z2)) ((0<=p.2.1)/\(p.2.1<(columns.length:Int))/\K (.tup [dI (nC columns p.2.1).1,dB true]) []) (cond (decide (p.1=Z3)) ((Sm (Ty.sl aD) inp)/\K (.tup [dI Z1,dB (List.all inp (fun k=>decide (k=Z1)))]) []) (cond (decide (p.1=Z4)) ((0<=Z0)/\(Z0<(inp.length:Int))/\(0<=Z1)/\(Z1<(inp.length:Int))/\K (.tup [dI Z3,dB (decide ((nI inp Z0)=(nI inp Z1)))]) []) (cond (decide (p.1=(8:Int))) (K (.tup [dI Z3,dB true]) []) ((Sm (Ty.sl aD) inp)/\K (.tup [dI Z3,dB (List.all inp (fun k=>decide (k=Z3)))]) [])))))):=by kernel_rfl
theorem con52_ok:br P 52 c52:=bw C52 func52 (kC con100_ok kN) fun args hp K h0=>by
 obtain⟨p,columns,inp,rfl,rfl,h_p,h_columns,h_inp,p0,p1,hK⟩:=g3e h0
 have h:ok (F.mC p columns inp) (fun r=>K (.tup [dI r.1,dB r.2]) []):=aC (F.uM p columns inp h_p h_columns h_inp p0 p1) (hK _ rfl)
 refine⟨rfl,ann52,aE,(.tup [aD,Ty.bool]),(aK (by kernel_rfl)),?_⟩
 ·rw[vc52]
  exact(oC h (fun _ h=>h) fun _ h=>(oC h (fun _ h=>(oG h fun _ h=>(oG h fun _ h=>h))) fun _ h=>(oC h (fun _ h=>⟨h_inp,h⟩) fun _ h=>(oC h (fun _ h=>⟨(Int.natCast_nonneg 0),(oG h fun _ h=>⟨(Int.natCast_nonneg 1),(oG h fun _ h=>h)⟩)⟩) fun _ h=>(oC h (fun _ h=>h) fun _ h=>⟨h_inp,h⟩)))))
def c13:Con:=⟨[.dat TCS,.dat TPS],fun args hp K=>g2 (pD TCS) (pD TPS) (fun columns e=>(Sm TCS columns)/\(Sm TPS e)/\K (dI (M.bu columns e)) []) args hp,.plain,false⟩
@[reducible] def C13:Ctx:=cx [(49,c49),(50,c50),(51,c51),(52,c52)] 67 [] 0 false
def ann13:=an [[kp 3],[kp 262147],[kp 16],[kp 35],[kp 3670049],[kp 7864353],[.fixRow 7 ax,kp 3670177],[kp 3670433],[kp 68723147169],[kp 16],[kp 3671841],[kp 1125899910513441],[kp 16],[kp 3670049],[kp 3670049],[.keep [5,63]],[kp 16],[kp 16]] [[kp 32]]
@[reducible] def s13_0 (columns:LC) (e:LPt) (i0:Int) (v0:(List Int)):St:=⟨[(0,.data TCS columns),(5,.own 5 none),(19,.data TPS e),(20,dI (e.length:Int)),(21,dI i0)],[(5,.arr false aD v0)]⟩
@[reducible] def LP13_0 (columns:LC) (e:LPt) (m:Nat) (st_:St) (K:KX):Prop:=True/\bI (t:=ax) (s13_0 columns e) e (F.eF columns e) (fun v0:(List Int)=>True) (aW (fun v0:(List Int)=>True->K (.exit 0) (⟨[(5,.own 5 none)],[(5,.arr false aD v0)]⟩:St)) (fun q0:Unit=>K .ret (⟨[(4,dI (-1:Int))],[]⟩:St))) m st_
def L13 (columns:LC) (e:LPt):bC:=lp1 0 (LP13_0 columns e)
theorem vc13 (columns:LC) (e:LPt) (K:KA):vcT C13 (L13 columns e) ann13 f13 [.data TCS columns,.data TPS e] [] (.dat aD) K =
 ((Sm TCS columns)/\cond ((!(M.bA columns))==false) (cond (decide ((12:Int)<(e.length:Int))) (K (dI (-1:Int)) []) (∃m_,True/\bI (t:=ax) (s13_0 columns e) e (F.eF columns e) (fun v0:(List Int)=>True) (aW (fun v0:(List Int)=>True->cond (!decide ((v0.length:Int)=Z1)) (K (dI (-1:Int)) []) ((0<=Z0)/\(Z0<(v0.length:Int))/\K (dI (nI v0 Z0)) [])) (fun q0:Unit=>K (dI (-1:Int)) [])) m_ (s13_0 columns e Z0 []))) (K (dI (-1:Int)) [])):=by kernel_rfl
theorem lvc13_0 (columns:LC) (e:LPt)  (i0:Int) (v0:(List Int)) (m:Nat) (K:KX):lvT C13 (L13 columns e) ann13 f13 0 0 (s13_0 columns e i0 v0) m K =
 (cond (decide (i0<(e.length:Int))) ((0<=i0)/\(i0<(e.length:Int))/\(Sm ax (nP e i0))/\(Sm ax (nP e i0))/\(Sm TCS columns)/\cond ((!(M.lH (nP e i0) columns))==false) (cond (decide ((v0.length:Int)<(M.takes (nP e i0)))) (K .ret (⟨[(4,dI (-1:Int))],[]⟩:St)) ((0<=wrap64 ((v0.length:Int)-(M.takes (nP e i0))))/\(wrap64 ((v0.length:Int)-(M.takes (nP e i0)))<=(v0.length:Int))/\((v0.length:Int)<=(v0.length:Int))/\((v0.length:Int)=(v0.length:Int))/\(Sm ax (nP e i0))/\(Sm TCS columns)/\(Sm (Ty.sl aD) (aj v0 (some (wrap64 ((v0.length:Int)-(M.takes (nP e i0))),(v0.length:Int)))))/\(M.lH (nP e i0) columns=true)/\(((aj v0 (some (wrap64 ((v0.length:Int)-(M.takes (nP e i0))),(v0.length:Int)))).length:Int)=M.takes (nP e i0))/\(∀r1:Int×Bool,r1=(M.cT (nP e i0) columns (aj v0 (some (wrap64 ((v0.length:Int)-(M.takes (nP e i0))),(v0.length:Int)))))->cond (!r1.2) (K .ret (⟨[(4,dI (-1:Int))],[]⟩:St)) ((0<=Z0)/\(Z0<=wrap64 ((v0.length:Int)-(M.takes (nP e i0))))/\(wrap64 ((v0.length:Int)-(M.takes (nP e i0)))<=(v0.length:Int))/\(wrap64 ((v0.length:Int)-(M.takes (nP e i0)))=wrap64 ((v0.length:Int)-(M.takes (nP e i0))))/\(Z0=0)/\(((wrap64 ((v0.length:Int)-(M.takes (nP e i0)))).toNat+[r1.1].length) * 8<=lim)/\(nxT (LP13_0 columns e) m K (s13_0 columns e (wrap64 (i0+Z1)) (v0.take (wrap64 ((v0.length:Int)-(M.takes (nP e i0)))).toNat++[r1.1]))))))) (K .ret (⟨[(4,dI (-1:Int))],[]⟩:St))) (K (.exit 0) (⟨[(5,.own 5 none)],[(5,.arr false aD v0)]⟩:St))):=by kernel_rfl
theorem con13_ok:br P 13 c13:=bw C13 func13 (kC con49_ok (kC con50_ok (kC con51_ok (kC con52_ok kN)))) fun args hp K h0=>by
 obtain⟨columns,e,rfl,rfl,h_columns,h_e,hK⟩:=g2e h0
 have h:ok (F.nZ columns e) (fun r=>K (dI r) []):=aC (F.vK columns e h_columns h_e) hK
 refine⟨rfl,ann13,(L13 columns e),(.dat aD),(bH (i0:=0) (by kernel_rfl) ?_),?_⟩
 ·rintro _ _ K ⟨hc0,i0,v0,rfl,hl0,rfl,hv0,h⟩
  exact cast (lvc13_0 _ _ _ _ _ _).symm (aV (t:=ax) hl0 h (fun ht0 h=>⟨hl0,⟨ht0,⟨(aL h_e i0),⟨(aL h_e i0),⟨h_columns,(oC h (fun b_37 h=>(oC h (fun _ h=>h) fun _ h=>(oG h fun _ h=>(oG h fun g1 h=>⟨(Int.le_refl _),⟨rfl,⟨(aL h_e i0),⟨h_columns,(oG h fun _ h=>⟨(bnf (bgt b_37)),(oG h fun _ h=>(oL h fun _ _ h=>(oC h (fun _ h=>h) fun _ h=>⟨(Int.natCast_nonneg 0),(oG h fun _ h=>⟨g1,⟨rfl,⟨rfl,(oG h fun _ h=>(aM (t:=ax) (fun _ hm=>⟨hc0,hm⟩) _ rfl hl0 ht0 (bg h_e) trivial h))⟩⟩⟩)⟩)))⟩)⟩⟩⟩⟩)))) fun _ h=>h)⟩⟩⟩⟩⟩) fun h=>(h trivial))
 ·rw[vc13]
  exact⟨h_columns,(oC h (fun _ h=>(oC h (fun _ h=>h) fun _ h=>(aQ (t:=ax) (fun m hm=>⟨trivial,hm⟩) _ rfl trivial (aP h (fun v0 h hv0=>(oC h (fun _ h=>h) fun _ h=>⟨(Int.natCast_nonneg 0),(oG h fun _ h=>h)⟩)) (fun q0 h=>h))))) fun _ h=>h)⟩
@[reducible] def C123:Ctx:=cx [] 9 [] 400000 true
def T123:Inl:=uz C123 (fun _=>[]) (dN f123) f123.results.toList
theorem inlOk123:vA P 123 T123:=Az C123 func123 kN
def c74:Con:=⟨[.dat TCS],fun args hp K=>g1 (pD TCS) (fun xs=>(Sm TCS xs)/\(∀r:LC,r=xs->K (.clp 0 (r.length:Int)) [(0,.arr false ag r)])) args hp,.bor,false⟩
@[reducible] def C74:Ctx:=cx [] 9 [(123,T123)] 0 true
def ann74:=an [[kp 1],[kp 33],[.clip 2,kp 4],[kp 4]] []
theorem vc74 (xs:LC) (K:KA):vcT C74 aE ann74 f74 [.data TCS xs] [] .raw K =
 (cond (decide ((xs.length:Int)=Z0)) (K (.clp 0 (([]:List ag.D).length:Int)) [(0,.arr false ag ([]:List ag.D))]) ((xs.length * 16<=lim)/\(0<=Z0)/\(Z0<=(xs.length:Int))/\((xs.length:Int)<=(xs.length:Int))/\((xs.length:Int)=(xs.length:Int))/\(Z0=0)/\K (.clp 0 ((xs.take (xs.length:Int).toNat).length:Int)) [(0,.arr false ag (xs.take (xs.length:Int).toNat))])):=by kernel_rfl
theorem con74_ok:br P 74 c74:=bw C74 func74 (kI inlOk123 kN) fun args hp K h0=>by
 obtain⟨xs,rfl,rfl,h_xs,hK⟩:=g1e h0
 have h:ok (F.sC xs) (fun r=>K (.clp 0 (r.length:Int)) [(0,.arr false ag r)]):=aC (F.wB xs h_xs) (hK _ rfl)
 refine⟨rfl,ann74,aE,.raw,(aK (by kernel_rfl)),?_⟩
 ·rw[vc74]
  exact(oC h (fun _ h=>h) fun _ h=>⟨(BY h_xs rfl),⟨(Int.natCast_nonneg 0),⟨(Int.natCast_nonneg _),⟨(Int.le_refl _),⟨rfl,⟨rfl,h⟩⟩⟩⟩⟩⟩)
def c156:Con:=⟨[.dat ah],fun args hp K=>g1 (pD ah) (fun s=>(Sm ah s)/\K (dB (M.cr s)) []) args hp,.plain,false⟩
@[reducible] def C156:Ctx:=cx [] 67 [] 0 false
def ann156:=an [[.fixRow 1 ah,kp 2],[kp 10],[kp 26],[kp 4]] []
@[reducible] def S156_0 (s:ah.D) (K:KA):Prop:=cond ((decide (s.1=Z3))==false) (K (dB (decide ((s.2.2.2.2.2.1.length:Int)=Z0))) []) (K (dB true) [])
@[reducible] def S156_1 (s:ah.D) (K:KA):Prop:=cond ((decide (s.1=Z4))==false) (cond ((decide ((s.2.2.2.2.1.length:Int)=Z0))==true) (S156_0 s K) (K (dB false) [])) (S156_0 s K)
@[reducible] def S156_2 (s:ah.D) (K:KA):Prop:=cond ((decide (s.1=Z1))==false) (cond ((decide (s.2.2.2.1=Z0))==true) (S156_1 s K) (K (dB false) [])) (S156_1 s K)
@[reducible] def S156_3 (s:ah.D) (K:KA):Prop:=cond ((decide (s.1=Z5))==false) (cond ((decide (s.2.2.1=Z0))==true) (S156_2 s K) (K (dB false) [])) (S156_2 s K)
@[reducible] def S156_4 (s:ah.D) (K:KA):Prop:=cond ((decide (s.1=Z1))==false) (cond ((decide (s.2.2.2.1=Z0))==true) (S156_0 s K) (K (dB false) [])) (S156_0 s K)
@[reducible] def S156_5 (s:ah.D) (K:KA):Prop:=cond ((decide (s.1=Z5))==false) (cond ((decide (s.2.2.1=Z0))==true) (S156_4 s K) (K (dB false) [])) (S156_4 s K)
theorem vc156 (s:ah.D) (K:KA):vcT C156 aE ann156 f156 [.data ah s] [] (.dat Ty.bool) K =
 (cond ((decide (s.1=Z4))==false) (cond ((decide (s.1=Z2))==false) (cond ((!decide (s.1=Z1))==false) (cond ((decide (s.2.1=Z0))==true) (S156_3 s K) (K (dB false) [])) (S156_3 s K)) (cond ((!decide (s.1=Z1))==false) (cond ((decide (s.2.1=Z0))==true) (S156_5 s K) (K (dB false) [])) (S156_5 s K))) (cond ((decide (s.1=Z2))==false) (cond ((!decide (s.1=Z1))==false) (cond ((decide (s.2.1=Z0))==true) (S156_2 s K) (K (dB false) [])) (S156_2 s K)) (cond ((!decide (s.1=Z1))==false) (cond ((decide (s.2.1=Z0))==true) (S156_4 s K) (K (dB false) [])) (S156_4 s K)))):=by kernel_rfl
theorem con156_ok:br P 156 c156:=bw C156 func156 kN fun args hp K h0=>by
 obtain⟨s,rfl,rfl,h_s,hK⟩:=g1e h0
 have h:ok (F.kY s) (fun r=>K (dB r) []):=aC (F.tg s h_s) hK
 refine⟨rfl,ann156,aE,(.dat Ty.bool),(aK (by kernel_rfl)),?_⟩
 ·rw[vc156]
  exact(oC h (fun b_1 h=>(oC h (fun _ h=>(oC h (fun b_3 h=>(oC h (fun _ h=>(bM (ugt (aT (bnf (bgt b_3)) (by decide))) (oC h (fun _ h=>(bf (ugf (bnf (bgt b_3))) (bM (ugt (bgt b_1)) (oC h (fun _ h=>(bM (ugt (aT (bnf (bgt b_3)) (by decide))) h)) fun _ h=>h)))) fun _ h=>h))) fun _ h=>h)) fun b_3 h=>(oC h (fun _ h=>(oC h (fun _ h=>(bM (ugt (bnt (bgf b_3))) (oC h (fun _ h=>(bM (ugt (bgt b_1)) (oC h (fun _ h=>(oC h (fun _ h=>h) fun _ h=>h)) fun _ h=>h))) fun _ h=>h))) fun _ h=>h)) fun b_27 h=>(bM (ugt (bnt (bgf b_3))) (oC h (fun _ h=>(bM (ugt (bgt b_1)) (oC h (fun _ h=>(bM (ugt (aT (bgf b_27) (by decide))) h)) fun _ h=>h))) fun _ h=>h))))) fun b_2 h=>(bf (ugf (unt (aT (bgf b_2) (by decide)))) (bM (ugt (aT (bgf b_2) (by decide))) (oC h (fun _ h=>(bM (ugt (aT (bgf b_2) (by decide))) (oC h (fun _ h=>(bM (ugt (aT (bgf b_2) (by decide))) h)) fun _ h=>h))) fun _ h=>h))))) fun b_1 h=>(bM (ugt (aT (bgf b_1) (by decide))) (bf (ugf (unt (aT (bgf b_1) (by decide)))) (bM (ugt (aT (bgf b_1) (by decide))) (oC h (fun _ h=>(bf (ugf (bgf b_1)) (bM (ugt (aT (bgf b_1) (by decide))) h))) fun _ h=>h)))))
def c190:Con:=⟨[.any,.dat aD],fun args hp K=>args2 (fun a0 a1=>AN a0 (fI aD a1 fun n=>(0<=n)/\(n<=1099511627776)/\(∀r:LC,r=([]:List ag.D)->K (.own 0 none) [(0,.arr false ag r)]))) args hp,.plain,false⟩
@[reducible] def C190:Ctx:=cx [] 27 [] 0 false
def ann190:=an [[kp 3],[kp 67],[kp 3],[kp 3],[kp 65539],[kp 1],[kp 16]] []
theorem vc190 (n:Int) (K:KA):vcT C190 aE ann190 f190 [.cst (.slice none 0 0),dI n] [] .raw K =
 (cond (decide (n<Z0)) False (cond (decide (Z0<wrap64 (n-(wrap64 (Z0-Z0))))) ((0<=Z0)/\(Z0<=Z0)/\(Z0<=Z0)/\(Z0=Z0)/\(0<=wrap64 (n-(wrap64 (Z0-Z0))))/\((wrap64 (n-(wrap64 (Z0-Z0)))) * 16<=(lim:Int))/\(0<=Z0)/\(Z0<=Z0)/\(Z0<=((List.replicate (wrap64 (n-(wrap64 (Z0-Z0)))).toNat (Z0,(false,()))).length:Int))/\(Z0=Z0)/\(Z0=0)/\K (.own 0 none) [(0,.arr false ag ((List.replicate (wrap64 (n-(wrap64 (Z0-Z0)))).toNat (Z0,(false,()))).take Z0.toNat))]) (K (.own 0 none) [(0,.arr false ag [])]))):=by kernel_rfl
theorem con190_ok:br P 190 c190:=bw C190 func190 kN fun args hp K h0=>by
 obtain⟨a0,a1,rfl,rfl,h1⟩:=bW h0
 obtain⟨rfl,h2⟩:=oV h1
 obtain⟨n,rfl,h3⟩:=bE h2
 obtain⟨p0,p1,hK⟩:=h3
 have h:ok (F.pJ n) (fun r=>K (.own 0 none) [(0,.arr false ag r)]):=aC (F.xy n p0 p1) (hK _ rfl)
 refine⟨rfl,ann190,aE,.raw,(aK (by kernel_rfl)),?_⟩
 ·rw[vc190]
  exact(oC h (fun _ h=>h) fun _ h=>(oC h (fun _ h=>⟨(Int.natCast_nonneg 0),⟨(Int.le_refl _),⟨(Int.le_refl _),⟨rfl,(oG h fun _ h=>(oG h fun _ h=>⟨(Int.natCast_nonneg 0),⟨(Int.le_refl _),⟨(Int.natCast_nonneg _),⟨rfl,⟨rfl,h⟩⟩⟩⟩⟩))⟩⟩⟩⟩) fun _ h=>h))
def c157:Con:=⟨[.dat (Ty.sl TCS)],fun args hp K=>g1 (pD (Ty.sl TCS)) (fun xss=>(Sm (Ty.sl TCS) xss)/\(∀r:LC,r=(List.flatten xss)->K (.own 0 none) [(0,.arr false ag r)])) args hp,.plain,false⟩
@[reducible] def C157:Ctx:=cx [(190,c190)] 36 [] 0 false
def ann157:=an [[kp 1],[kp 9],[kp 3593],[kp 7689],[kp 3625],[kp 3593],[kp 1052169],[kp 3593],[kp 3593],[kp 65],[kp 234881088],[kp 503316544],[kp 234881344],[kp 234881088],[kp 234881088],[kp 4]] [[kp 9],[],[kp 64]]
@[reducible] def s157_0 (xss:(List LC)) (i0:Int) (v0:Int):St:=⟨[(0,.data (Ty.sl TCS) xss),(3,dI v0),(9,.data (Ty.sl TCS) xss),(10,dI (xss.length:Int)),(11,dI i0)],[]⟩
@[reducible] def LP157_0 (xss:(List LC)) (m:Nat) (st_:St) (K:KX):Prop:=True/\bI (t:=TCS) (s157_0 xss) xss (F.gk xss) (fun v0:Int=>True) (aW (fun v0:Int=>True->K (.exit 0) (⟨[(0,.data (Ty.sl TCS) xss),(3,dI v0)],[]⟩:St)) (fun _=>False)) m st_
@[reducible] def s157_2 (xss:(List LC)) (i2:Int) (v2:LC):St:=⟨[(6,.own 24 none),(25,.data (Ty.sl TCS) xss),(26,dI (xss.length:Int)),(27,dI i2)],[(24,.arr false ag v2)]⟩
@[reducible] def LP157_2 (xss:(List LC)) (m:Nat) (st_:St) (K:KX):Prop:=True/\bI (t:=TCS) (s157_2 xss) xss (F.gi xss) (fun v2:LC=>True) (aW (fun v2:LC=>True->K (.exit 2) (⟨[(6,.own 24 none)],[(24,.arr false ag v2)]⟩:St)) (fun _=>False)) m st_
def L157 (xss:(List LC)):bC:=lp2 0 (LP157_0 xss) 2 (LP157_2 xss)
theorem vc157 (xss:(List LC)) (K:KA):vcT C157 (L157 xss) ann157 f157 [.data (Ty.sl TCS) xss] [] .raw K =
 (∃m_,True/\bI (t:=TCS) (s157_0 xss) xss (F.gk xss) (fun v0:Int=>True) (aW (fun v0:Int=>True->(0<=v0)/\(v0<=1099511627776)/\(∀r1:LC,r1=([]:List ag.D)->(∃m_,True/\bI (t:=TCS) (s157_2 xss) xss (F.gi xss) (fun v2:LC=>True) (aW (fun v2:LC=>True->K (.own 0 none) [(0,.arr false ag v2)]) (fun _=>False)) m_ (s157_2 xss Z0 r1)))) (fun _=>False)) m_ (s157_0 xss Z0 Z0)):=by kernel_rfl
theorem lvc157_0 (xss:(List LC))  (i0:Int) (v0:Int) (m:Nat) (K:KX):lvT C157 (L157 xss) ann157 f157 0 0 (s157_0 xss i0 v0) m K =
 (cond (decide (i0<(xss.length:Int))) ((0<=i0)/\(i0<(xss.length:Int))/\cond (decide (wrap64 (v0+((nth (t:=TCS) xss i0).length:Int))<Z0)) False (nxT (LP157_0 xss) m K (s157_0 xss (wrap64 (i0+Z1)) (wrap64 (v0+((nth (t:=TCS) xss i0).length:Int)))))) (K (.exit 0) (⟨[(0,.data (Ty.sl TCS) xss),(3,dI v0)],[]⟩:St))):=by kernel_rfl
theorem lvc157_1 (xss:(List LC))  (i2:Int) (v2:LC) (m:Nat) (K:KX):lvT C157 (L157 xss) ann157 f157 1 2 (s157_2 xss i2 v2) m K =
 (cond (decide (i2<(xss.length:Int))) ((0<=i2)/\(i2<(xss.length:Int))/\((v2.length+(nth (t:=TCS) xss i2).length) * 16<=lim)/\(nxT (LP157_2 xss) m K (s157_2 xss (wrap64 (i2+Z1)) (v2++(nth (t:=TCS) xss i2))))) (K (.exit 2) (⟨[(6,.own 24 none)],[(24,.arr false ag v2)]⟩:St))):=by kernel_rfl
theorem con157_ok:br P 157 c157:=bw C157 func157 (kC con190_ok kN) fun args hp K h0=>by
 obtain⟨xss,rfl,rfl,h_xss,hK⟩:=g1e h0
 have h:ok (F.mm xss) (fun r=>K (.own 0 none) [(0,.arr false ag r)]):=aC (F.uH xss h_xss) (hK _ rfl)
 refine⟨rfl,ann157,(L157 xss),.raw,(lT (i0:=0) (i1:=2) (by kernel_rfl) ?_ ?_),?_⟩
 ·rintro _ _ K ⟨hc0,i0,v0,rfl,hl0,rfl,hv0,h⟩
  exact cast (lvc157_0 _ _ _ _ _).symm (aV (t:=TCS) hl0 h (fun ht0 h=>⟨hl0,⟨ht0,(oC h (fun _ h=>h) fun _ h=>(aM (t:=TCS) (fun _ hm=>⟨hc0,hm⟩) _ rfl hl0 ht0 (bg h_xss) trivial h))⟩⟩) fun h=>(h trivial))
 ·rintro _ _ K ⟨hc2,i2,v2,rfl,hl2,rfl,hv2,h⟩
  exact cast (lvc157_1 _ _ _ _ _).symm (aV (t:=TCS) hl2 h (fun ht2 h=>⟨hl2,⟨ht2,(oG h fun _ h=>(aM (t:=TCS) (fun _ hm=>⟨hc2,hm⟩) _ rfl hl2 ht2 (bg h_xss) trivial h))⟩⟩) fun h=>(h trivial))
 ·rw[vc157]
  exact(aQ (t:=TCS) (fun m hm=>⟨trivial,hm⟩) _ rfl trivial (aP h (fun v0 h hv0=>(oG h fun _ h=>(oG h fun _ h=>(oL h fun _ _ h=>(aQ (t:=TCS) (fun m hm=>⟨trivial,hm⟩) _ rfl trivial (aP h (fun v2 h hv2=>h) (fun _ h=>h.elim))))))) (fun _ h=>h.elim)))
def c111:Con:=⟨[.dat ah,.dat TTb,.lent aF],fun args hp K=>g3 (pD ah) (pD TTb) (pB aF) (fun s tables ahead=>(Sm ah s)/\(Sm TTb tables)/\(Sm (Ty.sl aF) ahead)/\(∀r:aF.D×Bool,r=(M.make s tables ahead)->K (.tup [.data aF r.1,dB r.2]) [])) args hp,.plain,false⟩
@[reducible] def C111:Ctx:=cx [(13,c13),(67,c67),(74,c74),(156,c156),(157,c157)] 201 [] 0 true
def ann111:=an [[.fixRow 3 ah,kp 78],[kp 33554510],[kp 192],[kp 536870990],[kp 68719476810],[kp 192],[kp 192],[.keep [2,3,6,60]],[kp 192],[.fixRow 8 aF,.fixRow 9 aF,kp 840],[.keep [3,6,8,9,73]],[kp 28334198897217871283016],[kp 192],[.keep [3,6,8,9,73,83]],[kp 1352],[.mineC false 10 0 800160 ag,kp 4332790137498830962146936136],[kp 9284550294640352061743433032],[kp 4332790137498830962146940232],[kp 2539633990593957633955553350984],[kp 192],[kp 4332790137498830962146936136],[kp 4332790137498830962146936136],[.freeze 800160,kp 192],[.keep [3,6,8,9,73,119]],[.fixRow 13 aF,kp 8264],[.freeze 126,kp 192],[.keep [6,8,9,146]],[.fixRow 14 aF,kp 17216],[.keep [6,9,14,163]],[kp 192],[.keep [6,14,166,167,168]],[.keep [6,14,166,167,168,169]],[.fixRow 16 ag,.keep [6,14,15,16,166,167,168]],[.keep [6,14,15,16,166,167,168,181]],[kp 192],[.keep [6,14,166,167,168]],[.keep [6,14,166,167,168]],[.freeze 150,kp 192],[kp 192]] [[],[kp 1096],[],[kp 16448]]
@[reducible] def s111_1 (s:ah.D) (tables:LTb) (ahead:(List aF.D)) (i1:Int) (v1:LC):St:=⟨[(3,.adr ah s),(6,.ptr 6 0),(8,.adr aF (nM ahead s.2.1)),(10,.ptr 10 0),(89,.data (Ty.sl aD) s.2.2.2.2.2.1),(90,dI (s.2.2.2.2.2.1.length:Int)),(91,dI i1)],[(6,.box [.cst (.slice none 0 0),dI Z0]),(10,.box [.own 800160 none,dI (nM ahead s.2.1).2.1]),(800160,.arr false ag v1)]⟩
@[reducible] def LP111_1 (s:ah.D) (tables:LTb) (ahead:(List aF.D)) (m:Nat) (st_:St) (K:KX):Prop:=True/\bI (t:=aD) (s111_1 s tables ahead) s.2.2.2.2.2.1 (F.gz s tables ahead) (fun v1:LC=>True) (aW (fun v1:LC=>True->K (.exit 1) (⟨[(3,.adr ah s),(6,.ptr 6 0),(10,.ptr 10 0)],[(6,.box [.cst (.slice none 0 0),dI Z0]),(10,.box [.own 800160 none,dI (nM ahead s.2.1).2.1]),(800160,.arr false ag v1)]⟩:St)) (fun q1:Unit=>K .ret (⟨[(6,.ptr 6 0),(7,dB false)],[(6,.box [.cst (.slice none 0 0),dI Z0])]⟩:St))) m st_
@[reducible] def s111_3 (s:ah.D) (tables:LTb) (ahead:(List aF.D)) (c3_0:Int) (i3:Int) (v3:LC):St:=⟨[(6,.ptr 6 0),(14,.ptr 14 0),(166,.data TCS (nM ahead s.2.2.1).1),(167,dI ((nM ahead s.2.2.1).1.length:Int)),(168,dI i3)],[(6,.box [.cst (.slice none 0 0),dI Z0]),(14,.box [.clp 150 c3_0,dI (wrap64 ((nM ahead s.2.1).2.1+(nM ahead s.2.2.1).2.1))]),(150,.arr false ag v3)]⟩
@[reducible] def LP111_3 (s:ah.D) (tables:LTb) (ahead:(List aF.D)) (m:Nat) (st_:St) (K:KX):Prop:=∃c3_0:Int,True/\cJ (s111_3 s tables ahead c3_0) Z0 ((nM ahead s.2.2.1).1.length:Int) (F.eY s tables ahead c3_0) (fun v3:LC=>True) (aW (fun v3:LC=>True->K (.exit 3) (⟨[(6,.ptr 6 0),(14,.ptr 14 0)],[(6,.box [.cst (.slice none 0 0),dI Z0]),(14,.box [.clp 150 c3_0,dI (wrap64 ((nM ahead s.2.1).2.1+(nM ahead s.2.2.1).2.1))]),(150,.arr false ag v3)]⟩:St)) (fun q3:Unit=>K .ret (⟨[(6,.ptr 6 0),(7,dB false)],[(6,.box [.cst (.slice none 0 0),dI Z0])]⟩:St))) m st_
def L111 (s:ah.D) (tables:LTb) (ahead:(List aF.D)):bC:=lp2 1 (LP111_1 s tables ahead) 3 (LP111_3 s tables ahead)
@[reducible] def S111_0 (s:ah.D) (tables:LTb) (ahead:(List aF.D)) (K:KA):Prop:=(Sm (Ty.sl TCS) [(nM ahead s.2.1).1,(nM ahead s.2.2.1).1])/\(∀r1:LC,r1=(List.flatten [(nM ahead s.2.1).1,(nM ahead s.2.2.1).1])->cond ((decide ((r1.length:Int)<=Z4))==true) ((Sm TCS r1)/\(Sm TPS s.2.2.2.2.1)/\Q0 (K (.tup [.data aF (r1,(wrap64 ((nM ahead s.2.1).2.1 * (nM ahead s.2.2.1).2.1),())),dB (decide ((M.bu r1 s.2.2.2.2.1)=Z3))]) [])) (Q0 (K (.tup [.data aF (r1,(wrap64 ((nM ahead s.2.1).2.1 * (nM ahead s.2.2.1).2.1),())),dB false]) [])))
@[reducible] def S111_1 (s:ah.D) (tables:LTb) (ahead:(List aF.D)) (K:KA):Prop:=(Sm TCS (nM ahead s.2.1).1)/\(∀r2:LC,r2=(nM ahead s.2.1).1->cond (!decide (((nM ahead s.2.1).1.length:Int)=((nM ahead s.2.2.1).1.length:Int))) (K (.tup [.data aF ([],(Z0,())),dB false]) []) (∃m_,∃c3_0:Int,True/\cJ (s111_3 s tables ahead c3_0) Z0 ((nM ahead s.2.2.1).1.length:Int) (F.eY s tables ahead c3_0) (fun v3:LC=>True) (aW (fun v3:LC=>True->K (.tup [.data aF ((aj v3 (some (Z0,c3_0))),(wrap64 ((nM ahead s.2.1).2.1+(nM ahead s.2.2.1).2.1),())),dB true]) []) (fun q3:Unit=>K (.tup [.data aF ([],(Z0,())),dB false]) [])) m_ (s111_3 s tables ahead (r2.length:Int) Z0 r2)))
@[reducible] def S111_2 (s:ah.D) (tables:LTb) (ahead:(List aF.D)) (K:KA):Prop:=cond (decide (s.1=Z2)) ((Sm TCS (nM ahead s.2.1).1)/\(Sm TPS s.2.2.2.2.1)/\K (.tup [.data aF (nM ahead s.2.1),dB (decide ((M.bu (nM ahead s.2.1).1 s.2.2.2.2.1)=Z3))]) []) (cond (decide (s.1=Z3)) (∃m_,True/\bI (t:=aD) (s111_1 s tables ahead) s.2.2.2.2.2.1 (F.gz s tables ahead) (fun v1:LC=>True) (aW (fun v1:LC=>True->Q0 (K (.tup [.data aF (v1,(nM ahead s.2.1).2),dB (decide ((s.2.2.2.2.2.1.length:Int)<=Z4))]) [])) (fun q1:Unit=>K (.tup [.data aF ([],(Z0,())),dB false]) [])) m_ (s111_1 s tables ahead Z0 [])) (cond (decide (s.1=Z4)) (Q1 (S111_0 s tables ahead K)) (cond (decide (s.1=Z5)) (Q0 (S111_1 s tables ahead K)) (K (.tup [.data aF (nM ahead s.2.1),dB true]) []))))
@[reducible] def S111_3 (s:ah.D) (tables:LTb) (ahead:(List aF.D)) (K:KA):Prop:=(S111_2 s tables ahead K)
theorem vc111 (s:ah.D) (tables:LTb) (ahead:(List aF.D)) (K:KA):vcT C111 (L111 s tables ahead) ann111 f111 [.data ah s,.data TTb tables,.brw aF ahead] [] (.tup [aF,Ty.bool]) K =
 ((Sm ah s)/\cond ((!(M.cr s))==false) (cond (!(M.inR s.1 Z1 Z6)) (K (.tup [.data aF ([],(Z0,())),dB false]) []) (cond (decide (s.1=Z1)) (cond (!(M.inR s.2.2.2.1 Z0 (wrap64 ((tables.length:Int)-Z1)))) (K (.tup [.data aF ([],(Z0,())),dB false]) []) ((0<=s.2.2.2.1)/\(s.2.2.2.1<(tables.length:Int))/\K (.tup [.data aF ((nT tables s.2.2.2.1).1,(Z6,())),dB true]) [])) (cond ((!(M.inR s.2.1 Z0 (wrap64 ((ahead.length:Int)-Z1))))==false) (cond (!(M.inR s.2.2.1 Z0 (wrap64 ((ahead.length:Int)-Z1)))) (K (.tup [.data aF ([],(Z0,())),dB false]) []) ((0<=s.2.1)/\(s.2.1<(ahead.length:Int))/\(0<=s.2.2.1)/\(s.2.2.1<(ahead.length:Int))/\Q2 (S111_3 s tables ahead K))) (K (.tup [.data aF ([],(Z0,())),dB false]) [])))) (K (.tup [.data aF ([],(Z0,())),dB false]) [])):=by kernel_rfl
theorem lvc111_0 (s:ah.D) (tables:LTb) (ahead:(List aF.D))  (i1:Int) (v1:LC) (m:Nat) (K:KX):lvT C111 (L111 s tables ahead) ann111 f111 0 1 (s111_1 s tables ahead i1 v1) m K =
 (cond (decide (i1<(s.2.2.2.2.2.1.length:Int))) ((0<=i1)/\(i1<(s.2.2.2.2.2.1.length:Int))/\cond (!(M.inR (nI s.2.2.2.2.2.1 i1) Z0 (wrap64 (((nM ahead s.2.1).1.length:Int)-Z1)))) (K .ret (⟨[(6,.ptr 6 0),(7,dB false)],[(6,.box [.cst (.slice none 0 0),dI Z0])]⟩:St)) ((0<=(nI s.2.2.2.2.2.1 i1))/\((nI s.2.2.2.2.2.1 i1)<((nM ahead s.2.1).1.length:Int))/\((v1.length+[(nC (nM ahead s.2.1).1 (nI s.2.2.2.2.2.1 i1))].length) * 16<=lim)/\(nxT (LP111_1 s tables ahead) m K (s111_1 s tables ahead (wrap64 (i1+Z1)) (v1++[(nC (nM ahead s.2.1).1 (nI s.2.2.2.2.2.1 i1))]))))) (K (.exit 1) (⟨[(3,.adr ah s),(6,.ptr 6 0),(10,.ptr 10 0)],[(6,.box [.cst (.slice none 0 0),dI Z0]),(10,.box [.own 800160 none,dI (nM ahead s.2.1).2.1]),(800160,.arr false ag v1)]⟩:St))):=by kernel_rfl
theorem lvc111_1 (s:ah.D) (tables:LTb) (ahead:(List aF.D)) (c3_0:Int) (i3:Int) (v3:LC) (m:Nat) (K:KX):lvT C111 (L111 s tables ahead) ann111 f111 1 3 (s111_3 s tables ahead c3_0 i3 v3) m K =
 (cond (decide (i3<((nM ahead s.2.2.1).1.length:Int))) ((0<=i3)/\(i3<((nM ahead s.2.2.1).1.length:Int))/\(0<=i3)/\(i3<c3_0)/\cond (!decide ((nC (nM ahead s.2.2.1).1 i3).1=(nC v3 i3).1)) (K .ret (⟨[(6,.ptr 6 0),(7,dB false)],[(6,.box [.cst (.slice none 0 0),dI Z0])]⟩:St)) ((0<=i3)/\(i3<c3_0)/\cond ((nC v3 i3).2.1==false) ((0<=i3)/\(i3<c3_0)/\(let y1:LC:=(v3.set i3.toNat ((nC v3 i3).1,(nC (nM ahead s.2.2.1).1 i3).2));(nxT (LP111_3 s tables ahead) m K (s111_3 s tables ahead c3_0 (wrap64 (i3+Z1)) y1)))) ((0<=i3)/\(i3<c3_0)/\(nxT (LP111_3 s tables ahead) m K (s111_3 s tables ahead c3_0 (wrap64 (i3+Z1)) (v3.set i3.toNat ((nC v3 i3).1,(true,())))))))) (K (.exit 3) (⟨[(6,.ptr 6 0),(14,.ptr 14 0)],[(6,.box [.cst (.slice none 0 0),dI Z0]),(14,.box [.clp 150 c3_0,dI (wrap64 ((nM ahead s.2.1).2.1+(nM ahead s.2.2.1).2.1))]),(150,.arr false ag v3)]⟩:St))):=by kernel_rfl
theorem con111_ok:br P 111 c111:=bw C111 func111 (kC con13_ok (kC con67_ok (kC con74_ok (kC con156_ok (kC con157_ok kN))))) fun args hp K h0=>by
 obtain⟨s,tables,ahead,rfl,rfl,h_s,h_tables,h_ahead,hK⟩:=g3e h0
 have h:ok (F.gM s tables ahead) (fun r=>K (.tup [.data aF r.1,dB r.2]) []):=aC (F.uY s tables ahead h_s h_tables h_ahead) (hK _ rfl)
 refine⟨rfl,ann111,(L111 s tables ahead),(.tup [aF,Ty.bool]),(lT (i0:=1) (i1:=3) (by kernel_rfl) ?_ ?_),?_⟩
 ·rintro _ _ K ⟨hc1,i1,v1,rfl,hl1,rfl,hv1,h⟩
  exact cast (lvc111_0 _ _ _ _ _ _ _).symm (aV (t:=aD) hl1 h (fun ht1 h=>⟨hl1,⟨ht1,(oC h (fun _ h=>h) fun b_22 h=>⟨(dP (bnf b_22)),⟨(iz (bnf b_22)),(oG h fun _ h=>(aM (t:=aD) (fun _ hm=>⟨hc1,hm⟩) _ rfl hl1 ht1 (bg h_s.2.2.2.2.2.1) trivial h))⟩⟩)⟩⟩) fun h=>(h trivial))
 ·rintro _ _ K ⟨c3_0,hc3,i3,v3,rfl,hl3,rfl,hv3,h⟩
  exact cast (lvc111_1 _ _ _ _ _ _ _ _).symm (bV h (fun ht3 h=>⟨hl3,⟨ht3,⟨hl3,(oG h fun g1 h=>(oC h (fun _ h=>h) fun _ h=>⟨hl3,⟨g1,(oC h (fun _ h=>⟨hl3,⟨g1,(have h:=dV h _ rfl;(aU (fun _ hm=>⟨c3_0,hc3,hm⟩) _ rfl hl3 gb ht3 (bg (aL h_ahead s.2.2.1).1) trivial h))⟩⟩) fun _ h=>⟨hl3,⟨g1,(aU (fun _ hm=>⟨c3_0,hc3,hm⟩) _ rfl hl3 gb ht3 (bg (aL h_ahead s.2.2.1).1) trivial h)⟩⟩)⟩⟩))⟩⟩⟩) fun h=>(h trivial))
 ·rw[vc111]
  exact⟨h_s,(oC h (fun _ h=>(oC h (fun _ h=>h) fun _ h=>(oC h (fun _ h=>(oC h (fun _ h=>h) fun b_4 h=>⟨(dP (bnf b_4)),⟨(iz (bnf b_4)),h⟩⟩)) fun _ h=>(oC h (fun b_5 h=>(oC h (fun _ h=>h) fun b_6 h=>⟨(dP (bnf (bgt b_5))),⟨(iz (bnf (bgt b_5))),⟨(dP (bnf b_6)),⟨(iz (bnf b_6)),(q2 (oC h (fun _ h=>⟨(aL h_ahead s.2.1).1,⟨h_s.2.2.2.2.1,h⟩⟩) fun _ h=>(oC h (fun _ h=>(aQ (t:=aD) (fun m hm=>⟨trivial,hm⟩) _ rfl trivial (aP h (fun v1 h hv1=>(q0 h)) (fun q1 h=>h)))) fun _ h=>(oC h (fun _ h=>(q1 (oG h fun _ h=>(oL h fun _ _ h=>(oC h (fun _ h=>(oG h fun _ h=>⟨h_s.2.2.2.2.1,(q0 h)⟩)) fun _ h=>(q0 h)))))) fun _ h=>(oC h (fun _ h=>(q0 (⟨(aL h_ahead s.2.1).1,(oL h fun r2 _ h=>(oC h (fun _ h=>h) fun _ h=>(bJ (fun m hm=>⟨(r2.length:Int),trivial,hm⟩) Z0 _ rfl (Int.natCast_nonneg 0) trivial (aP h (fun v3 h hv3=>h) (fun q3 h=>h)))))⟩))) fun _ h=>h)))))⟩⟩⟩⟩)) fun _ h=>h)))) fun _ h=>h)⟩
def c59:Con:=⟨[.dat TTb,.dat TSS],fun args hp K=>g2 (pD TTb) (pD TSS) (fun tables plan=>(Sm TTb tables)/\(Sm TSS plan)/\(∀r:(List aF.D)×Bool,r=(M.makes tables plan)->K (.tup [.data (Ty.sl aF) r.1,dB r.2]) [])) args hp,.plain,false⟩
@[reducible] def C59:Ctx:=cx [(67,c67),(110,c110),(111,c111)] 46 [] 0 false
def ann59:=an [[kp 3],[kp 524291],[kp 48],[kp 67],[kp 7340097],[kp 15728705],[.fixRow 8 ah,kp 7340353],[.fixRow 9 aF,kp 7341633],[kp 549763154497],[kp 48],[kp 7340097],[kp 7340097],[kp 48]] [[kp 64]]
@[reducible] def s59_0 (tables:LTb) (plan:LS) (i0:Int) (v0:(List aF.D)):St:=⟨[(0,.data TTb tables),(6,.own 6 none),(20,.data TSS plan),(21,dI (plan.length:Int)),(22,dI i0)],[(6,.arr false aF v0)]⟩
@[reducible] def LP59_0 (tables:LTb) (plan:LS) (m:Nat) (st_:St) (K:KX):Prop:=True/\bI (t:=ah) (s59_0 tables plan) plan (F.iI tables plan) (fun v0:(List aF.D)=>True) (aW (fun v0:(List aF.D)=>True->K (.exit 0) (⟨[(6,.own 6 none)],[(6,.arr false aF v0)]⟩:St)) (fun q0:Unit=>K .ret (⟨[(4,.own 4 none),(5,dB false)],[(4,.arr false aF [])]⟩:St))) m st_
def L59 (tables:LTb) (plan:LS):bC:=lp1 0 (LP59_0 tables plan)
theorem vc59 (tables:LTb) (plan:LS) (K:KA):vcT C59 (L59 tables plan) ann59 f59 [.data TTb tables,.data TSS plan] [] (.tup [(Ty.sl aF),Ty.bool]) K =
 ((Sm TTb tables)/\cond ((!(M.bX tables))==false) (cond (!(M.inR (plan.length:Int) Z1 Z6)) (K (.tup [.data (Ty.sl aF) [],dB false]) []) (∃m_,True/\bI (t:=ah) (s59_0 tables plan) plan (F.iI tables plan) (fun v0:(List aF.D)=>True) (aW (fun v0:(List aF.D)=>True->K (.tup [.data (Ty.sl aF) v0,dB true]) []) (fun q0:Unit=>K (.tup [.data (Ty.sl aF) [],dB false]) [])) m_ (s59_0 tables plan Z0 []))) (K (.tup [.data (Ty.sl aF) [],dB false]) [])):=by kernel_rfl
theorem lvc59_0 (tables:LTb) (plan:LS)  (i0:Int) (v0:(List aF.D)) (m:Nat) (K:KX):lvT C59 (L59 tables plan) ann59 f59 0 0 (s59_0 tables plan i0 v0) m K =
 (cond (decide (i0<(plan.length:Int))) ((0<=i0)/\(i0<(plan.length:Int))/\(Sm ah (nS plan i0))/\(Sm TTb tables)/\(Sm (Ty.sl aF) v0)/\(∀r1:aF.D×Bool,r1=(M.make (nS plan i0) tables v0)->cond ((!r1.2)==false) (cond (decide ((300:Int)<r1.1.2.1)) (K .ret (⟨[(4,.own 4 none),(5,dB false)],[(4,.arr false aF [])]⟩:St)) (((v0.length+[r1.1].length) * 32<=lim)/\(nxT (LP59_0 tables plan) m K (s59_0 tables plan (wrap64 (i0+Z1)) (v0++[r1.1]))))) (K .ret (⟨[(4,.own 4 none),(5,dB false)],[(4,.arr false aF [])]⟩:St)))) (K (.exit 0) (⟨[(6,.own 6 none)],[(6,.arr false aF v0)]⟩:St))):=by kernel_rfl
theorem con59_ok:br P 59 c59:=bw C59 func59 (kC con67_ok (kC con110_ok (kC con111_ok kN))) fun args hp K h0=>by
 obtain⟨tables,plan,rfl,rfl,h_tables,h_plan,hK⟩:=g2e h0
 have h:ok (F.mT tables plan) (fun r=>K (.tup [.data (Ty.sl aF) r.1,dB r.2]) []):=aC (F.Ai tables plan h_tables h_plan) (hK _ rfl)
 refine⟨rfl,ann59,(L59 tables plan),(.tup [(Ty.sl aF),Ty.bool]),(bH (i0:=0) (by kernel_rfl) ?_),?_⟩
 ·rintro _ _ K ⟨hc0,i0,v0,rfl,hl0,rfl,hv0,h⟩
  exact cast (lvc59_0 _ _ _ _ _ _).symm (aV (t:=ah) hl0 h (fun ht0 h=>⟨hl0,⟨ht0,⟨(aL h_plan i0),⟨h_tables,(oG h fun _ h=>(oL h fun _ _ h=>(oC h (fun _ h=>(oC h (fun _ h=>h) fun _ h=>(oG h fun _ h=>(aM (t:=ah) (fun _ hm=>⟨hc0,hm⟩) _ rfl hl0 ht0 (bg h_plan) trivial h)))) fun _ h=>h)))⟩⟩⟩⟩) fun h=>(h trivial))
 ·rw[vc59]
  exact⟨h_tables,(oC h (fun _ h=>(oC h (fun _ h=>h) fun _ h=>(aQ (t:=ah) (fun m hm=>⟨trivial,hm⟩) _ rfl trivial (aP h (fun v0 h hv0=>h) (fun q0 h=>h))))) fun _ h=>h)⟩
def c20:Con:=⟨[.dat TTb,.dat TSS],fun args hp K=>g2 (pD TTb) (pD TSS) (fun tables plan=>(Sm TTb tables)/\(Sm TSS plan)/\K (dB (M.bB tables plan)) []) args hp,.plain,false⟩
@[reducible] def C20:Ctx:=cx [(59,c59)] 14 [] 0 false
def ann20:=an [[kp 3],[kp 64],[kp 16]] []
theorem vc20 (tables:LTb) (plan:LS) (K:KA):vcT C20 aE ann20 f20 [.data TTb tables,.data TSS plan] [] (.dat Ty.bool) K =
 ((Sm TTb tables)/\(Sm TSS plan)/\(∀r1:(List aF.D)×Bool,r1=(M.makes tables plan)->K (dB r1.2) [])):=by kernel_rfl
theorem con20_ok:br P 20 c20:=bw C20 func20 (kC con59_ok kN) fun args hp K h0=>by
 obtain⟨tables,plan,rfl,rfl,h_tables,h_plan,hK⟩:=g2e h0
 have h:ok (F.rF tables plan) (fun r=>K (dB r) []):=aC (F.yG tables plan h_tables h_plan) hK
 refine⟨rfl,ann20,aE,(.dat Ty.bool),(aK (by kernel_rfl)),?_⟩
 ·rw[vc20]
  exact⟨h_tables,⟨h_plan,(oL h fun _ _ h=>h)⟩⟩
def c60:Con:=⟨[.dat TVS,.dat TVS],fun args hp K=>g2 (pD TVS) (pD TVS) (fun a b=>(Sm TVS a)/\(Sm TVS b)/\(a=b)/\K (dB true) []) args hp,.plain,false⟩
@[reducible] def C60:Ctx:=cx [] 26 [] 0 false
def ann60:=an [[kp 3],[kp 1027],[kp 16],[kp 35],[kp 16419],[kp 35],[kp 33554467],[kp 16],[kp 16]] [[kp 0]]
@[reducible] def s60_0 (a:LV) (b:LV) (i0:Int) (v0:Unit):St:=⟨[(0,.data TVS a),(1,.data TVS b),(5,dI i0)],[]⟩
@[reducible] def LP60_0 (a:LV) (b:LV) (m:Nat) (st_:St) (K:KX):Prop:=True/\cJ (s60_0 a b) Z0 (a.length:Int) (F.iQ a b) (fun v0:Unit=>True) (aW (fun v0:Unit=>True->K (.exit 0) (⟨[],[]⟩:St)) (fun q0:Unit=>K .ret (⟨[(4,dB false)],[]⟩:St))) m st_
def L60 (a:LV) (b:LV):bC:=lp1 0 (LP60_0 a b)
theorem vc60 (a:LV) (b:LV) (K:KA):vcT C60 (L60 a b) ann60 f60 [.data TVS a,.data TVS b] [] (.dat Ty.bool) K =
 (cond (!decide ((a.length:Int)=(b.length:Int))) (K (dB false) []) (∃m_,True/\cJ (s60_0 a b) Z0 (a.length:Int) (F.iQ a b) (fun v0:Unit=>True) (aW (fun v0:Unit=>True->K (dB true) []) (fun q0:Unit=>K (dB false) [])) m_ (s60_0 a b Z0 ()))):=by kernel_rfl
theorem lvc60_0 (a:LV) (b:LV)  (i0:Int) (v0:Unit) (m:Nat) (K:KX):lvT C60 (L60 a b) ann60 f60 0 0 (s60_0 a b i0 v0) m K =
 (cond (decide (i0<(a.length:Int))) ((0<=i0)/\(i0<(a.length:Int))/\(0<=i0)/\(i0<(b.length:Int))/\cond (!(Ty.beq aa (nV a i0) (nV b i0))) (K .ret (⟨[(4,dB false)],[]⟩:St)) (nxT (LP60_0 a b) m K (s60_0 a b (wrap64 (i0+Z1)) ()))) (K (.exit 0) (⟨[],[]⟩:St))):=by kernel_rfl
theorem con60_ok:br P 60 c60:=bw C60 func60 kN fun args hp K h0=>by
 obtain⟨a,b,rfl,rfl,h_a,h_b,p0,hK⟩:=g2e h0
 have h:ok (F.qb a b) (fun r=>K (dB r) []):=aC (F.xw a b h_a h_b p0) hK
 refine⟨rfl,ann60,(L60 a b),(.dat Ty.bool),(bH (i0:=0) (by kernel_rfl) ?_),?_⟩
 ·rintro _ _ K ⟨hc0,i0,v0,rfl,hl0,rfl,hv0,h⟩
  exact cast (lvc60_0 _ _ _ _ _ _).symm (bV h (fun ht0 h=>⟨hl0,⟨ht0,⟨hl0,(oG h fun _ h=>(oC h (fun _ h=>h) fun _ h=>(aU (fun _ hm=>⟨hc0,hm⟩) _ rfl hl0 gb ht0 (bg h_a) trivial h)))⟩⟩⟩) fun h=>(h trivial))
 ·rw[vc60]
  exact(oC h (fun _ h=>h) fun _ h=>(bJ (fun m hm=>⟨trivial,hm⟩) Z0 _ rfl (Int.natCast_nonneg 0) trivial (aP h (fun v0 h hv0=>h) (fun q0 h=>h))))
def c21:Con:=⟨[.dat (Ty.sl TVS),.dat (Ty.sl TVS)],fun args hp K=>g2 (pD (Ty.sl TVS)) (pD (Ty.sl TVS)) (fun a b=>(Sm (Ty.sl TVS) a)/\(Sm (Ty.sl TVS) b)/\(a=b)/\K (dB true) []) args hp,.plain,false⟩
@[reducible] def C21:Ctx:=cx [(60,c60)] 27 [] 0 false
def ann21:=an [[kp 3],[kp 1027],[kp 16],[kp 35],[kp 16419],[kp 35],[kp 67108899],[kp 16],[kp 16]] [[kp 0]]
@[reducible] def s21_0 (a:(List LV)) (b:(List LV)) (i0:Int) (v0:Unit):St:=⟨[(0,.data (Ty.sl TVS) a),(1,.data (Ty.sl TVS) b),(5,dI i0)],[]⟩
@[reducible] def LP21_0 (a:(List LV)) (b:(List LV)) (m:Nat) (st_:St) (K:KX):Prop:=True/\cJ (s21_0 a b) Z0 (a.length:Int) (F.gY a b) (fun v0:Unit=>True) (aW (fun v0:Unit=>True->K (.exit 0) (⟨[],[]⟩:St)) (fun q0:Unit=>K .ret (⟨[(4,dB false)],[]⟩:St))) m st_
def L21 (a:(List LV)) (b:(List LV)):bC:=lp1 0 (LP21_0 a b)
theorem vc21 (a:(List LV)) (b:(List LV)) (K:KA):vcT C21 (L21 a b) ann21 f21 [.data (Ty.sl TVS) a,.data (Ty.sl TVS) b] [] (.dat Ty.bool) K =
 (cond (!decide ((a.length:Int)=(b.length:Int))) (K (dB false) []) (∃m_,True/\cJ (s21_0 a b) Z0 (a.length:Int) (F.gY a b) (fun v0:Unit=>True) (aW (fun v0:Unit=>True->K (dB true) []) (fun q0:Unit=>K (dB false) [])) m_ (s21_0 a b Z0 ()))):=by kernel_rfl
theorem lvc21_0 (a:(List LV)) (b:(List LV))  (i0:Int) (v0:Unit) (m:Nat) (K:KX):lvT C21 (L21 a b) ann21 f21 0 0 (s21_0 a b i0 v0) m K =
 (cond (decide (i0<(a.length:Int))) ((0<=i0)/\(i0<(a.length:Int))/\(0<=i0)/\(i0<(b.length:Int))/\(Sm TVS (nth (t:=TVS) a i0))/\(Sm TVS (nth (t:=TVS) b i0))/\((nth (t:=TVS) a i0)=(nth (t:=TVS) b i0))/\cond (!true) (K .ret (⟨[(4,dB false)],[]⟩:St)) (nxT (LP21_0 a b) m K (s21_0 a b (wrap64 (i0+Z1)) ()))) (K (.exit 0) (⟨[],[]⟩:St))):=by kernel_rfl
theorem con21_ok:br P 21 c21:=bw C21 func21 (kC con60_ok kN) fun args hp K h0=>by
 obtain⟨a,b,rfl,rfl,h_a,h_b,p0,hK⟩:=g2e h0
 have h:ok (F.nQ a b) (fun r=>K (dB r) []):=aC (F.vW a b h_a h_b p0) hK
 refine⟨rfl,ann21,(L21 a b),(.dat Ty.bool),(bH (i0:=0) (by kernel_rfl) ?_),?_⟩
 ·rintro _ _ K ⟨hc0,i0,v0,rfl,hl0,rfl,hv0,h⟩
  exact cast (lvc21_0 _ _ _ _ _ _).symm (bV h (fun ht0 h=>⟨hl0,⟨ht0,⟨hl0,(oG h fun _ h=>⟨(aL h_a i0),⟨(aL h_b i0),(oG h fun _ h=>(oC h (fun _ h=>h) fun _ h=>(aU (fun _ hm=>⟨hc0,hm⟩) _ rfl hl0 gb ht0 (bg h_a) trivial h)))⟩⟩)⟩⟩⟩) fun h=>(h trivial))
 ·rw[vc21]
  exact(oC h (fun _ h=>h) fun _ h=>(bJ (fun m hm=>⟨trivial,hm⟩) Z0 _ rfl (Int.natCast_nonneg 0) trivial (aP h (fun v0 h hv0=>h) (fun q0 h=>h))))
def c128:Con:=⟨[.dat aD],fun args hp K=>g1 (pD aD) (fun truth=>(∀r:aa.D,r=(M.valueOf truth)->K (.data aa r) [])) args hp,.plain,false⟩
@[reducible] def C128:Ctx:=cx [(67,c67)] 9 [] 0 false
def ann128:=an [[kp 5],[kp 37],[kp 4],[kp 4]] []
theorem vc128 (truth:Int) (K:KA):vcT C128 aE ann128 f128 [dI truth] [] (.dat aa) K =
 (cond (!(M.inR truth Z0 Z1)) (K (.data aa (Z0,(Z0,((⟨#[]⟩:ByteArray),())))) []) (K (.data aa (Z3,(truth,((⟨#[]⟩:ByteArray),())))) [])):=by kernel_rfl
theorem con128_ok:br P 128 c128:=bw C128 func128 (kC con67_ok kN) fun args hp K h0=>by
 obtain⟨truth,rfl,rfl,hK⟩:=g1e h0
 have h:ok (F.pK truth) (fun r=>K (.data aa r) []):=aC (F.xx truth) (hK _ rfl)
 refine⟨rfl,ann128,aE,(.dat aa),(aK (by kernel_rfl)),?_⟩
 ·rw[vc128]
  exact(oC h (fun _ h=>h) fun _ h=>h)
def c136:Con:=⟨[.dat Ty.bool],fun args hp K=>g1 (pD Ty.bool) (fun b=>K (dI (M.bool b)) []) args hp,.plain,false⟩
@[reducible] def C136:Ctx:=cx [] 4 [] 0 false
def ann136:=an [[kp 1],[kp 8],[kp 4],[kp 4]] []
theorem vc136 (b:Bool) (K:KA):vcT C136 aE ann136 f136 [dB b] [] (.dat aD) K =
 (cond b (K (dI Z1) []) (K (dI Z0) [])):=by kernel_rfl
theorem con136_ok:br P 136 c136:=bw C136 func136 kN fun args hp K h0=>by
 obtain⟨b,rfl,rfl,hK⟩:=g1e h0
 have h:ok (F.pL b) (fun r=>K (dI r) []):=aC (F.xM b) hK
 refine⟨rfl,ann136,aE,(.dat aD),(aK (by kernel_rfl)),?_⟩
 ·rw[vc136]
  exact(oC h (fun _ h=>h) fun _ h=>h)
def c202:Con:=⟨[.dat (Ty.sl aD)],fun args hp K=>g1 (pD (Ty.sl aD)) (fun vals=>(Sm (Ty.sl aD) vals)/\K (dI (M.orI vals)) []) args hp,.plain,false⟩
@[reducible] def C202:Ctx:=cx [] 18 [] 0 false
def ann202:=an [[kp 1],[kp 9],[kp 456],[kp 968],[kp 488],[kp 16872],[kp 4],[kp 456],[kp 4]] [[kp 8]]
@[reducible] def s202_0 (vals:(List Int)) (i0:Int) (v0:Unit):St:=⟨[(3,dI Z0),(6,.data (Ty.sl aD) vals),(7,dI (vals.length:Int)),(8,dI i0)],[]⟩
@[reducible] def LP202_0 (vals:(List Int)) (m:Nat) (st_:St) (K:KX):Prop:=True/\bI (t:=aD) (s202_0 vals) vals (F.iH vals) (fun v0:Unit=>True) (aW (fun v0:Unit=>True->K (.exit 0) (⟨[(3,dI Z0)],[]⟩:St)) (fun q0:Int=>K .ret (⟨[(2,dI q0)],[]⟩:St))) m st_
def L202 (vals:(List Int)):bC:=lp1 0 (LP202_0 vals)
theorem vc202 (vals:(List Int)) (K:KA):vcT C202 (L202 vals) ann202 f202 [.data (Ty.sl aD) vals] [] (.dat aD) K =
 (∃m_,True/\bI (t:=aD) (s202_0 vals) vals (F.iH vals) (fun v0:Unit=>True) (aW (fun v0:Unit=>True->K (dI Z0) []) (fun q0:Int=>K (dI q0) [])) m_ (s202_0 vals Z0 ())):=by kernel_rfl
theorem lvc202_0 (vals:(List Int))  (i0:Int) (v0:Unit) (m:Nat) (K:KX):lvT C202 (L202 vals) ann202 f202 0 0 (s202_0 vals i0 v0) m K =
 (cond (decide (i0<(vals.length:Int))) ((0<=i0)/\(i0<(vals.length:Int))/\cond (!decide ((nI vals i0)=Z0)) (K .ret (⟨[(2,dI (nI vals i0))],[]⟩:St)) (nxT (LP202_0 vals) m K (s202_0 vals (wrap64 (i0+Z1)) ()))) (K (.exit 0) (⟨[(3,dI Z0)],[]⟩:St))):=by kernel_rfl
theorem con202_ok:br P 202 c202:=bw C202 func202 kN fun args hp K h0=>by
 obtain⟨vals,rfl,rfl,h_vals,hK⟩:=g1e h0
 have h:ok (F.tn vals) (fun r=>K (dI r) []):=aC (F.Ar vals h_vals) hK
 refine⟨rfl,ann202,(L202 vals),(.dat aD),(bH (i0:=0) (by kernel_rfl) ?_),?_⟩
 ·rintro _ _ K ⟨hc0,i0,v0,rfl,hl0,rfl,hv0,h⟩
  exact cast (lvc202_0 _ _ _ _ _).symm (aV (t:=aD) hl0 h (fun ht0 h=>⟨hl0,⟨ht0,(oC h (fun _ h=>h) fun _ h=>(aM (t:=aD) (fun _ hm=>⟨hc0,hm⟩) _ rfl hl0 ht0 (bg h_vals) trivial h))⟩⟩) fun h=>(h trivial))
 ·rw[vc202]
  exact(aQ (t:=aD) (fun m hm=>⟨trivial,hm⟩) _ rfl trivial (aP h (fun v0 h hv0=>h) (fun q0 h=>h)))
def c200:Con:=⟨[.dat aD],fun args hp K=>g1 (pD aD) (fun x=>K (dB false) []) args hp,.plain,false⟩
@[reducible] def C200:Ctx:=cx [] 6 [] 0 false
def ann200:=an [[kp 1],[kp 4]] []
theorem vc200 (x:Int) (K:KA):vcT C200 aE ann200 f200 [dI x] [] (.dat Ty.bool) K =
 (K (dB (!decide (x=x))) []):=by kernel_rfl
theorem con200_ok:br P 200 c200:=bw C200 func200 kN fun args hp K h0=>by
 obtain⟨x,rfl,rfl,hK⟩:=g1e h0
 have h:ok (F.nJ x) (fun r=>K (dB r) []):=aC (F.vN x) hK
 refine⟨rfl,ann200,aE,(.dat Ty.bool),(aK (by kernel_rfl)),?_⟩
 ·rw[vc200]
  exact h
def c203:Con:=⟨[.dat aD,.dat aD],fun args hp K=>g2 (pD aD) (pD aD) (fun x y=>K (dI (M.wC x y)) []) args hp,.plain,false⟩
@[reducible] def C203:Ctx:=cx [(200,c200)] 20 [] 0 false
def ann203:=an [[kp 3],[kp 35],[kp 99],[kp 2115],[kp 4096],[kp 16],[kp 16],[kp 8195],[kp 16],[kp 65539],[kp 16],[kp 524288],[kp 16],[kp 16]] []
theorem vc203 (x:Int) (y:Int) (K:KA):vcT C203 aE ann203 f203 [dI x,dI y] [] (.dat aD) K =
 (cond false (cond false (K (dI Z0) []) (K (dI (-1:Int)) [])) (cond false (K (dI Z1) []) (cond (decide (x<y)) (K (dI (-1:Int)) []) (cond (decide (y<x)) (K (dI Z1) []) (K (dI Z0) []))))):=by kernel_rfl
theorem con203_ok:br P 203 c203:=bw C203 func203 (kC con200_ok kN) fun args hp K h0=>by
 obtain⟨x,y,rfl,rfl,hK⟩:=g2e h0
 have h:ok (F.lA x y) (fun r=>K (dI r) []):=aC (F.sU x y) hK
 refine⟨rfl,ann203,aE,(.dat aD),(aK (by kernel_rfl)),?_⟩
 ·rw[vc203]
  exact(oC h (fun b_1 h=>(bM b_1 h)) fun b_1 h=>(bf b_1 (oC h (fun _ h=>h) fun _ h=>(oC h (fun _ h=>h) fun _ h=>h))))
def c214:Con:=⟨[.dat Ty.str],fun args hp K=>g1 (pD Ty.str) (fun x=>(Sm Ty.str x)/\K (dB false) []) args hp,.plain,false⟩
@[reducible] def C214:Ctx:=cx [] 6 [] 0 false
def ann214:=an [[kp 1],[kp 4]] []
theorem vc214 (x:ByteArray) (K:KA):vcT C214 aE ann214 f214 [.data Ty.str x] [] (.dat Ty.bool) K =
 (K (dB (!decide (x=x))) []):=by kernel_rfl
theorem con214_ok:br P 214 c214:=bw C214 func214 kN fun args hp K h0=>by
 obtain⟨x,rfl,rfl,h_x,hK⟩:=g1e h0
 have h:ok (F.jS x) (fun r=>K (dB r) []):=aC (F.rZ x h_x) hK
 refine⟨rfl,ann214,aE,(.dat Ty.bool),(aK (by kernel_rfl)),?_⟩
 ·rw[vc214]
  exact h
def c204:Con:=⟨[.dat Ty.str,.dat Ty.str],fun args hp K=>g2 (pD Ty.str) (pD Ty.str) (fun x y=>(Sm Ty.str x)/\(Sm Ty.str y)/\K (dI (M.Dl x y)) []) args hp,.plain,false⟩
@[reducible] def C204:Ctx:=cx [(214,c214)] 20 [] 0 false
def ann204:=an [[kp 3],[kp 35],[kp 99],[kp 2115],[kp 4096],[kp 16],[kp 16],[kp 8195],[kp 16],[kp 65539],[kp 16],[kp 524288],[kp 16],[kp 16]] []
theorem vc204 (x:ByteArray) (y:ByteArray) (K:KA):vcT C204 aE ann204 f204 [.data Ty.str x,.data Ty.str y] [] (.dat aD) K =
 ((Sm Ty.str x)/\(Sm Ty.str y)/\cond false (cond false (K (dI Z0) []) (K (dI (-1:Int)) [])) (cond false (K (dI Z1) []) (cond (Op.bytesLess x.toList y.toList) (K (dI (-1:Int)) []) (cond (!(Op.bytesLess x.toList y.toList||decide (x=y))) (K (dI Z1) []) (K (dI Z0) []))))):=by kernel_rfl
theorem con204_ok:br P 204 c204:=bw C204 func204 (kC con214_ok kN) fun args hp K h0=>by
 obtain⟨x,y,rfl,rfl,h_x,h_y,hK⟩:=g2e h0
 have h:ok (F.iX x y) (fun r=>K (dI r) []):=aC (F.qv x y h_x h_y) hK
 refine⟨rfl,ann204,aE,(.dat aD),(aK (by kernel_rfl)),?_⟩
 ·rw[vc204]
  exact⟨h_x,⟨h_y,(oC h (fun b_1 h=>(bM b_1 h)) fun b_1 h=>(bf b_1 (oC h (fun _ h=>h) fun _ h=>(oC h (fun _ h=>h) fun _ h=>h))))⟩⟩
def c178:Con:=⟨[.dat aa,.dat aa],fun args hp K=>g2 (pD aa) (pD aa) (fun v w=>(Sm aa v)/\(Sm aa w)/\K (dI (M.order v w)) []) args hp,.plain,false⟩
@[reducible] def C178:Ctx:=cx [(202,c202),(203,c203),(204,c204)] 22 [] 0 false
def ann178:=an [[.fixRow 2 aa,.fixRow 3 aa,kp 12],[kp 16]] []
theorem vc178 (v:aa.D) (w:aa.D) (K:KA):vcT C178 aE ann178 f178 [.data aa v,.data aa w] [] (.dat aD) K =
 ((Sm Ty.str v.2.2.1)/\(Sm Ty.str w.2.2.1)/\(Sm (Ty.sl aD) [(M.wC v.1 w.1),(M.wC v.2.1 w.2.1),(M.Dl v.2.2.1 w.2.2.1)])/\K (dI (M.orI [(M.wC v.1 w.1),(M.wC v.2.1 w.2.1),(M.Dl v.2.2.1 w.2.2.1)])) []):=by kernel_rfl
theorem con178_ok:br P 178 c178:=bw C178 func178 (kC con202_ok (kC con203_ok (kC con204_ok kN))) fun args hp K h0=>by
 obtain⟨v,w,rfl,rfl,h_v,h_w,hK⟩:=g2e h0
 have h:ok (F.jR v w) (fun r=>K (dI r) []):=aC (F.sk v w h_v h_w) hK
 refine⟨rfl,ann178,aE,(.dat aD),(aK (by kernel_rfl)),?_⟩
 ·rw[vc178]
  exact⟨h_v.2.2.1,⟨h_w.2.2.1,(oG h fun _ h=>h)⟩⟩
def c131:Con:=⟨[.dat aD,.dat aa,.dat aa],fun args hp K=>g3 (pD aD) (pD aa) (pD aa) (fun kind a b=>(Sm aa a)/\(Sm aa b)/\K (dI (M.compare kind a b)) []) args hp,.plain,false⟩
@[reducible] def C131:Ctx:=cx [(67,c67),(99,c99),(136,c136),(178,c178)] 71 [] 0 false
def ann131:=an [[.fixRow 4 aa,.fixRow 5 aa,kp 49],[kp 305],[kp 64],[kp 4194353],[kp 64],[kp 2147483697],[kp 64],[kp 129],[kp 64]] []
@[reducible] def S131_0 (kind:Int) (a:aa.D) (b:aa.D) (K:KA):Prop:=cond ((decide (kind=Z4))==true) (K (dI (M.bool (decide ((M.order a b)<=Z0)))) []) (K (dI (M.bool false)) [])
@[reducible] def S131_1 (kind:Int) (a:aa.D) (b:aa.D) (K:KA):Prop:=cond ((decide (kind=Z3))==true) (cond ((decide ((M.order a b)<Z0))==false) (S131_0 kind a b K) (K (dI (M.bool true)) [])) (S131_0 kind a b K)
@[reducible] def S131_2 (kind:Int) (a:aa.D) (b:aa.D) (K:KA):Prop:=cond ((decide (kind=Z2))==true) (cond ((!decide ((M.order a b)=Z0))==false) (S131_1 kind a b K) (K (dI (M.bool true)) [])) (S131_1 kind a b K)
theorem vc131 (kind:Int) (a:aa.D) (b:aa.D) (K:KA):vcT C131 aE ann131 f131 [dI kind,.data aa a,.data aa b] [] (.dat aD) K =
 (cond ((!(M.inR kind Z1 Z4))==false) ((Sm aa a)/\cond ((!(M.aS a))==false) ((Sm aa b)/\cond (!(M.aS b)) (K (dI (-1:Int)) []) (cond ((decide (a.1=Z0))==false) (cond (decide (b.1=Z0)) (K (dI Z2) []) (cond (!decide (a.1=b.1)) (K (dI (-1:Int)) []) ((Sm aa a)/\(Sm aa b)/\cond ((decide (kind=Z1))==true) (cond ((decide ((M.order a b)=Z0))==false) (S131_2 kind a b K) (K (dI (M.bool true)) [])) (S131_2 kind a b K)))) (K (dI Z2) []))) (K (dI (-1:Int)) [])) (K (dI (-1:Int)) [])):=by kernel_rfl
theorem con131_ok:br P 131 c131:=bw C131 func131 (kC con67_ok (kC con99_ok (kC con136_ok (kC con178_ok kN)))) fun args hp K h0=>by
 obtain⟨kind,a,b,rfl,rfl,h_a,h_b,hK⟩:=g3e h0
 have h:ok (F.pN kind a b) (fun r=>K (dI r) []):=aC (F.xX kind a b h_a h_b) hK
 refine⟨rfl,ann131,aE,(.dat aD),(aK (by kernel_rfl)),?_⟩
 ·rw[vc131]
  exact(oC h (fun _ h=>⟨h_a,(oC h (fun _ h=>⟨h_b,(oC h (fun _ h=>h) fun _ h=>(oC h (fun _ h=>(oC h (fun _ h=>h) fun _ h=>(oC h (fun _ h=>h) fun _ h=>⟨h_a,⟨h_b,(oC h (fun b_7 h=>(oC h (fun _ h=>(bf (uef (aT (bet b_7) (by decide))) (bf (uef (aT (bet b_7) (by decide))) (bf (uef (aT (bet b_7) (by decide))) h)))) fun _ h=>h)) fun _ h=>(oC h (fun b_19 h=>(oC h (fun _ h=>(bf (uef (aT (bet b_19) (by decide))) (bf (uef (aT (bet b_19) (by decide))) h))) fun _ h=>h)) fun _ h=>(oC h (fun b_25 h=>(oC h (fun _ h=>(bf (uef (aT (bet b_25) (by decide))) h)) fun _ h=>h)) fun _ h=>(oC h (fun _ h=>h) fun _ h=>h))))⟩⟩))) fun _ h=>h))⟩) fun _ h=>h)⟩) fun _ h=>h)
def c205:Con:=⟨[.dat aD],fun args hp K=>g1 (pD aD) (fun n=>K (dB (M.inR n 0 2)) []) args hp,.plain,false⟩
@[reducible] def C205:Ctx:=cx [(67,c67)] 5 [] 0 false
def ann205:=an [[kp 1],[kp 4]] []
theorem vc205 (n:Int) (K:KA):vcT C205 aE ann205 f205 [dI n] [] (.dat Ty.bool) K =
 (K (dB (M.inR n Z0 Z2)) []):=by kernel_rfl
theorem con205_ok:br P 205 c205:=bw C205 func205 (kC con67_ok kN) fun args hp K h0=>by
 obtain⟨n,rfl,rfl,hK⟩:=g1e h0
 have h:ok (F.uV n) (fun r=>K (dB r) []):=aC (F.xQ n) hK
 refine⟨rfl,ann205,aE,(.dat Ty.bool),(aK (by kernel_rfl)),?_⟩
 ·rw[vc205]
  exact h
def c179:Con:=⟨[.dat aD,.dat aD,.dat aD],fun args hp K=>g3 (pD aD) (pD aD) (pD aD) (fun a b alone=>(0<=alone/\alone<=1)/\K (dI (M.fold a b alone)) []) args hp,.plain,false⟩
@[reducible] def C179:Ctx:=cx [(205,c205)] 35 [] 0 false
def ann179:=an [[kp 7],[kp 135],[kp 64],[kp 65543],[kp 64],[kp 67108868],[kp 64],[kp 64]] []
theorem vc179 (a:Int) (b:Int) (alone:Int) (K:KA):vcT C179 aE ann179 f179 [dI a,dI b,dI alone] [] (.dat aD) K =
 (cond ((!(M.inR a 0 2))==false) (cond (!(M.inR b 0 2)) (K (dI (-1:Int)) []) (cond ((decide (a=alone))==false) (cond (decide (b=alone)) (K (dI alone) []) (cond ((decide (a=Z2))==false) (cond (decide (b=Z2)) (K (dI Z2) []) (K (dI (wrap64 (Z1-alone))) [])) (K (dI Z2) []))) (K (dI alone) []))) (K (dI (-1:Int)) [])):=by kernel_rfl
theorem con179_ok:br P 179 c179:=bw C179 func179 (kC con205_ok kN) fun args hp K h0=>by
 obtain⟨a,b,alone,rfl,rfl,p0,hK⟩:=g3e h0
 have h:ok (F.vp a b alone) (fun r=>K (dI r) []):=aC (F.BN a b alone p0) hK
 refine⟨rfl,ann179,aE,(.dat aD),(aK (by kernel_rfl)),?_⟩
 ·rw[vc179]
  exact(oC h (fun _ h=>(oC h (fun _ h=>h) fun _ h=>(oC h (fun _ h=>(oC h (fun _ h=>h) fun _ h=>(oC h (fun _ h=>(oC h (fun _ h=>h) fun _ h=>h)) fun _ h=>h))) fun _ h=>h))) fun _ h=>h)
def c132:Con:=⟨[.dat aD,.dat aD],fun args hp K=>g2 (pD aD) (pD aD) (fun a b=>K (dI (M.sv a b)) []) args hp,.plain,false⟩
@[reducible] def C132:Ctx:=cx [(179,c179)] 8 [] 0 false
def ann132:=an [[kp 3],[kp 16]] []
theorem vc132 (a:Int) (b:Int) (K:KA):vcT C132 aE ann132 f132 [dI a,dI b] [] (.dat aD) K =
 ((0<=Z0/\Z0<=1)/\K (dI (M.fold a b Z0)) []):=by kernel_rfl
theorem con132_ok:br P 132 c132:=bw C132 func132 (kC con179_ok kN) fun args hp K h0=>by
 obtain⟨a,b,rfl,rfl,hK⟩:=g2e h0
 have h:ok (F.tC a b) (fun r=>K (dI r) []):=aC (F.Ae a b) hK
 refine⟨rfl,ann132,aE,(.dat aD),(aK (by kernel_rfl)),?_⟩
 ·rw[vc132]
  exact(oG h fun _ h=>h)
def c133:Con:=⟨[.dat aa],fun args hp K=>g1 (pD aa) (fun v=>(Sm aa v)/\K (dI (M.de v)) []) args hp,.plain,false⟩
@[reducible] def C133:Ctx:=cx [(99,c99)] 17 [] 0 false
def ann133:=an [[.fixRow 1 aa,kp 2],[kp 10],[kp 4],[kp 130],[kp 4],[kp 2050],[kp 4],[kp 4]] []
theorem vc133 (v:aa.D) (K:KA):vcT C133 aE ann133 f133 [.data aa v] [] (.dat aD) K =
 ((Sm aa v)/\cond (!(M.aS v)) (K (dI (-1:Int)) []) (cond (decide (v.1=Z0)) (K (dI Z2) []) (cond (decide (v.1=Z3)) (K (dI v.2.1) []) (K (dI (-1:Int)) [])))):=by kernel_rfl
theorem con133_ok:br P 133 c133:=bw C133 func133 (kC con99_ok kN) fun args hp K h0=>by
 obtain⟨v,rfl,rfl,h_v,hK⟩:=g1e h0
 have h:ok (F.pH v) (fun r=>K (dI r) []):=aC (F.xW v h_v) hK
 refine⟨rfl,ann133,aE,(.dat aD),(aK (by kernel_rfl)),?_⟩
 ·rw[vc133]
  exact⟨h_v,(oC h (fun _ h=>h) fun _ h=>(oC h (fun _ h=>h) fun _ h=>(oC h (fun _ h=>h) fun _ h=>h)))⟩
def c134:Con:=⟨[.dat aD,.dat aD],fun args hp K=>g2 (pD aD) (pD aD) (fun a b=>K (dI (M.Ge a b)) []) args hp,.plain,false⟩
@[reducible] def C134:Ctx:=cx [(179,c179)] 8 [] 0 false
def ann134:=an [[kp 3],[kp 16]] []
theorem vc134 (a:Int) (b:Int) (K:KA):vcT C134 aE ann134 f134 [dI a,dI b] [] (.dat aD) K =
 ((0<=Z1/\Z1<=1)/\K (dI (M.fold a b Z1)) []):=by kernel_rfl
theorem con134_ok:br P 134 c134:=bw C134 func134 (kC con179_ok kN) fun args hp K h0=>by
 obtain⟨a,b,rfl,rfl,hK⟩:=g2e h0
 have h:ok (F.vz a b) (fun r=>K (dI r) []):=aC (F.BQ a b) hK
 refine⟨rfl,ann134,aE,(.dat aD),(aK (by kernel_rfl)),?_⟩
 ·rw[vc134]
  exact(oG h fun _ h=>h)
def c135:Con:=⟨[.dat aD],fun args hp K=>g1 (pD aD) (fun a=>K (dI (M.AX a)) []) args hp,.plain,false⟩
@[reducible] def C135:Ctx:=cx [] 10 [] 0 false
def ann135:=an [[kp 1],[kp 8],[kp 24],[kp 4],[kp 72],[kp 4],[kp 256],[kp 4],[kp 4]] []
theorem vc135 (a:Int) (K:KA):vcT C135 aE ann135 f135 [dI a] [] (.dat aD) K =
 (cond (decide (a=Z0)) (K (dI Z1) []) (cond (decide (a=Z1)) (K (dI Z0) []) (cond (decide (a=Z2)) (K (dI Z2) []) (K (dI (-1:Int)) [])))):=by kernel_rfl
theorem con135_ok:br P 135 c135:=bw C135 func135 kN fun args hp K h0=>by
 obtain⟨a,rfl,rfl,hK⟩:=g1e h0
 have h:ok (F.sW a) (fun r=>K (dI r) []):=aC (F.AD a) hK
 refine⟨rfl,ann135,aE,(.dat aD),(aK (by kernel_rfl)),?_⟩
 ·rw[vc135]
  exact(oC h (fun _ h=>h) fun _ h=>(oC h (fun _ h=>h) fun _ h=>(oC h (fun _ h=>h) fun _ h=>h)))
def c92:Con:=⟨[.dat ax,.dat TVS,.lent aa],fun args hp K=>g3 (pD ax) (pD TVS) (pB aa) (fun p row inp=>(Sm ax p)/\(Sm TVS row)/\(Sm TVS inp)/\((inp.length:Int)=M.takes p)/\(M.xj p row.length)/\(1<=p.1/\p.1<=8)/\(∀r:aa.D,r=(M.eN p row inp)->K (.data aa r) [])) args hp,.plain,false⟩
@[reducible] def C92:Ctx:=cx [(99,c99),(128,c128),(131,c131),(132,c132),(133,c133),(134,c134),(135,c135),(136,c136)] 103 [] 0 false
def ann92:=an [[.fixRow 3 ax,kp 78],[kp 590],[kp 1614],[kp 64],[kp 16974],[kp 64],[kp 2097740],[.fixRow 7 aa,kp 196],[.keep [6,7,49]],[kp 64],[kp 64],[kp 4503599627371084],[kp 64],[.keep [2,6,9,64]],[kp 64],[.keep [2,6,9,76]],[kp 64],[.keep [2,6,88]],[kp 64],[kp 64]] []
theorem vc92 (p:ax.D) (row:LV) (inp:LV) (K:KA):vcT C92 aE ann92 f92 [.data ax p,.data TVS row,.brw aa inp] [] (.dat aa) K =
 (cond (decide (p.1=Z1)) (K (.data aa p.2.2.1) []) (cond (decide (p.1=Z2)) ((0<=p.2.1)/\(p.2.1<(row.length:Int))/\K (.data aa (nV row p.2.1)) []) (cond (decide (p.1=Z3)) ((0<=Z0)/\(Z0<(inp.length:Int))/\(0<=Z1)/\(Z1<(inp.length:Int))/\(0<=Z0)/\(Z0<(inp.length:Int))/\cond ((decide ((nV inp Z0).1=Z0))==false) ((0<=Z1)/\(Z1<(inp.length:Int))/\cond ((decide ((nV inp Z1).1=Z0))==false) ((Sm aa (Z1,(wrap64 ((nV inp Z0).2.1+(nV inp Z1).2.1),((⟨#[]⟩:ByteArray),()))))/\cond (!(M.aS (Z1,(wrap64 ((nV inp Z0).2.1+(nV inp Z1).2.1),((⟨#[]⟩:ByteArray),()))))) (K (.data aa (Z0,(Z0,((⟨#[]⟩:ByteArray),())))) []) (K (.data aa (Z1,(wrap64 ((nV inp Z0).2.1+(nV inp Z1).2.1),((⟨#[]⟩:ByteArray),())))) [])) (K (.data aa (Z0,(Z0,((⟨#[]⟩:ByteArray),())))) [])) (K (.data aa (Z0,(Z0,((⟨#[]⟩:ByteArray),())))) [])) (cond (decide (p.1=Z4)) ((0<=Z0)/\(Z0<(inp.length:Int))/\(0<=Z1)/\(Z1<(inp.length:Int))/\(Sm aa (nV inp Z0))/\(Sm aa (nV inp Z1))/\(∀r1:aa.D,r1=(M.valueOf (M.compare p.2.1 (nV inp Z0) (nV inp Z1)))->K (.data aa r1) [])) (cond (decide (p.1=Z5)) ((0<=Z0)/\(Z0<(inp.length:Int))/\(0<=Z1)/\(Z1<(inp.length:Int))/\(Sm aa (nV inp Z0))/\(Sm aa (nV inp Z1))/\(∀r2:aa.D,r2=(M.valueOf (M.sv (M.de (nV inp Z0)) (M.de (nV inp Z1))))->K (.data aa r2) [])) (cond (decide (p.1=Z6)) ((0<=Z0)/\(Z0<(inp.length:Int))/\(0<=Z1)/\(Z1<(inp.length:Int))/\(Sm aa (nV inp Z0))/\(Sm aa (nV inp Z1))/\(∀r3:aa.D,r3=(M.valueOf (M.Ge (M.de (nV inp Z0)) (M.de (nV inp Z1))))->K (.data aa r3) [])) (cond (decide (p.1=(7:Int))) ((0<=Z0)/\(Z0<(inp.length:Int))/\(Sm aa (nV inp Z0))/\(∀r4:aa.D,r4=(M.valueOf (M.AX (M.de (nV inp Z0))))->K (.data aa r4) [])) ((0<=Z0)/\(Z0<(inp.length:Int))/\(∀r5:aa.D,r5=(M.valueOf (M.bool (decide ((nV inp Z0).1=Z0))))->K (.data aa r5) []))))))))):=by kernel_rfl
theorem con92_ok:br P 92 c92:=bw C92 func92 (kC con99_ok (kC con128_ok (kC con131_ok (kC con132_ok (kC con133_ok (kC con134_ok (kC con135_ok (kC con136_ok kN)))))))) fun args hp K h0=>by
 obtain⟨p,row,inp,rfl,rfl,h_p,h_row,h_inp,p0,p1,p2,hK⟩:=g3e h0
 have h:ok (F.lg p row inp) (fun r=>K (.data aa r) []):=aC (F.sH p row inp h_p h_row h_inp p0 p1 p2) (hK _ rfl)
 refine⟨rfl,ann92,aE,(.dat aa),(aK (by kernel_rfl)),?_⟩
 ·rw[vc92]
  exact(oC h (fun _ h=>h) fun _ h=>(oC h (fun _ h=>(oG h fun _ h=>(oG h fun _ h=>h))) fun _ h=>(oC h (fun _ h=>⟨(Int.natCast_nonneg 0),(oG h fun g1 h=>⟨(Int.natCast_nonneg 1),(oG h fun g2 h=>⟨(Int.natCast_nonneg 0),⟨g1,(oC h (fun _ h=>⟨(Int.natCast_nonneg 1),⟨g2,(oC h (fun _ h=>⟨(show Sm aa _ from⟨trivial,(show Sm (Ty.pair aD (Ty.pair Ty.str Ty.unit)) _ from⟨trivial,(show Sm (Ty.pair Ty.str Ty.unit) _ from⟨(Nat.le_of_ble_eq_true rfl),trivial⟩)⟩)⟩),(oC h (fun _ h=>h) fun _ h=>h)⟩) fun _ h=>h)⟩⟩) fun _ h=>h)⟩⟩)⟩)⟩) fun _ h=>(oC h (fun _ h=>⟨(Int.natCast_nonneg 0),(oG h fun _ h=>⟨(Int.natCast_nonneg 1),(oG h fun _ h=>⟨(aL h_inp Z0),⟨(aL h_inp Z1),(oL h fun _ _ h=>h)⟩⟩)⟩)⟩) fun _ h=>(oC h (fun _ h=>⟨(Int.natCast_nonneg 0),(oG h fun _ h=>⟨(Int.natCast_nonneg 1),(oG h fun _ h=>⟨(aL h_inp Z0),⟨(aL h_inp Z1),(oL h fun _ _ h=>h)⟩⟩)⟩)⟩) fun _ h=>(oC h (fun _ h=>⟨(Int.natCast_nonneg 0),(oG h fun _ h=>⟨(Int.natCast_nonneg 1),(oG h fun _ h=>⟨(aL h_inp Z0),⟨(aL h_inp Z1),(oL h fun _ _ h=>h)⟩⟩)⟩)⟩) fun _ h=>(oC h (fun _ h=>⟨(Int.natCast_nonneg 0),(oG h fun _ h=>⟨(aL h_inp Z0),(oL h fun _ _ h=>h)⟩)⟩) fun _ h=>⟨(Int.natCast_nonneg 0),(oG h fun _ h=>(oL h fun _ _ h=>h))⟩)))))))
def c44:Con:=⟨[.dat TVS,.dat TPS],fun args hp K=>g2 (pD TVS) (pD TPS) (fun row e=>(Sm TVS row)/\(Sm TPS e)/\(M.fR row.length e)/\(∀r:aa.D,r=(M.dD row e)->K (.data aa r) [])) args hp,.plain,false⟩
@[reducible] def C44:Ctx:=cx [(50,c50),(92,c92)] 37 [] 0 false
def ann44:=an [[kp 19],[kp 51],[kp 7217],[kp 15409],[.fixRow 7 ax,kp 7345],[kp 7601],[.fixRow 9 aa,kp 7985],[kp 7217],[kp 7217],[kp 16]] [[kp 48]]
@[reducible] def s44_0 (row:LV) (e:LPt) (i0:Int) (v0:LV):St:=⟨[(0,.data TVS row),(4,.ptr 4 0),(5,.own 5 none),(10,.data TPS e),(11,dI (e.length:Int)),(12,dI i0)],[(4,.box [dI Z0,dI Z0,.data Ty.str (⟨#[]⟩:ByteArray)]),(5,.arr false aa v0)]⟩
@[reducible] def LP44_0 (row:LV) (e:LPt) (m:Nat) (st_:St) (K:KX):Prop:=True/\bI (t:=ax) (s44_0 row e) e (F.dR row e) (fun v0:LV=>True) (aW (fun v0:LV=>True->K (.exit 0) (⟨[(4,.ptr 4 0),(5,.own 5 none)],[(4,.box [dI Z0,dI Z0,.data Ty.str (⟨#[]⟩:ByteArray)]),(5,.arr false aa v0)]⟩:St)) (fun _=>False)) m st_
def L44 (row:LV) (e:LPt):bC:=lp1 0 (LP44_0 row e)
theorem vc44 (row:LV) (e:LPt) (K:KA):vcT C44 (L44 row e) ann44 f44 [.data TVS row,.data TPS e] [] (.dat aa) K =
 (∃m_,True/\bI (t:=ax) (s44_0 row e) e (F.dR row e) (fun v0:LV=>True) (aW (fun v0:LV=>True->(0<=Z0)/\(Z0<(v0.length:Int))/\K (.data aa (nV v0 Z0)) []) (fun _=>False)) m_ (s44_0 row e Z0 [])):=by kernel_rfl
@[reducible] def S44l0_0 (row:LV) (e:LPt)  (i0:Int) (v0:LV) (m:Nat) (K:KX):Prop:=(Sm ax (nP e i0))/\(Sm TVS row)/\(Sm TVS (aj v0 (some (wrap64 ((v0.length:Int)-(M.takes (nP e i0))),(v0.length:Int)))))/\(((aj v0 (some (wrap64 ((v0.length:Int)-(M.takes (nP e i0))),(v0.length:Int)))).length:Int)=M.takes (nP e i0))/\(M.xj (nP e i0) row.length)/\(1<=(nP e i0).1/\(nP e i0).1<=8)/\(∀r1:aa.D,r1=(M.eN (nP e i0) row (aj v0 (some (wrap64 ((v0.length:Int)-(M.takes (nP e i0))),(v0.length:Int)))))->(0<=Z0)/\(Z0<=wrap64 ((v0.length:Int)-(M.takes (nP e i0))))/\(wrap64 ((v0.length:Int)-(M.takes (nP e i0)))<=(v0.length:Int))/\(wrap64 ((v0.length:Int)-(M.takes (nP e i0)))=wrap64 ((v0.length:Int)-(M.takes (nP e i0))))/\(Z0=0)/\(((wrap64 ((v0.length:Int)-(M.takes (nP e i0)))).toNat+[r1].length) * 32<=lim)/\(nxT (LP44_0 row e) m K (s44_0 row e (wrap64 (i0+Z1)) (v0.take (wrap64 ((v0.length:Int)-(M.takes (nP e i0)))).toNat++[r1]))))
theorem lvc44_0 (row:LV) (e:LPt)  (i0:Int) (v0:LV) (m:Nat) (K:KX):lvT C44 (L44 row e) ann44 f44 0 0 (s44_0 row e i0 v0) m K =
 (cond (decide (i0<(e.length:Int))) ((0<=i0)/\(i0<(e.length:Int))/\(Sm ax (nP e i0))/\(0<=wrap64 ((v0.length:Int)-(M.takes (nP e i0))))/\(wrap64 ((v0.length:Int)-(M.takes (nP e i0)))<=(v0.length:Int))/\((v0.length:Int)<=(v0.length:Int))/\((v0.length:Int)=(v0.length:Int))/\Q0 (S44l0_0  row e i0 v0 m K)) (K (.exit 0) (⟨[(4,.ptr 4 0),(5,.own 5 none)],[(4,.box [dI Z0,dI Z0,.data Ty.str (⟨#[]⟩:ByteArray)]),(5,.arr false aa v0)]⟩:St))):=by kernel_rfl
theorem con44_ok:br P 44 c44:=bw C44 func44 (kC con50_ok (kC con92_ok kN)) fun args hp K h0=>by
 obtain⟨row,e,rfl,rfl,h_row,h_e,p0,hK⟩:=g2e h0
 have h:ok (F.mJ row e) (fun r=>K (.data aa r) []):=aC (F.ud row e h_row h_e p0) (hK _ rfl)
 refine⟨rfl,ann44,(L44 row e),(.dat aa),(bH (i0:=0) (by kernel_rfl) ?_),?_⟩
 ·rintro _ _ K ⟨hc0,i0,v0,rfl,hl0,rfl,hv0,h⟩
  exact cast (lvc44_0 _ _ _ _ _ _).symm (aV (t:=ax) hl0 h (fun ht0 h=>⟨hl0,⟨ht0,⟨(aL h_e i0),(oG h fun _ h=>(oG h fun g1 h=>⟨(Int.le_refl _),⟨rfl,(q0 (⟨(aL h_e i0),⟨h_row,(oG h fun _ h=>(oG h fun _ h=>(oG h fun _ h=>(oG h fun _ h=>(oL h fun _ _ h=>⟨(Int.natCast_nonneg 0),(oG h fun _ h=>⟨g1,⟨rfl,⟨rfl,(oG h fun _ h=>(aM (t:=ax) (fun _ hm=>⟨hc0,hm⟩) _ rfl hl0 ht0 (bg h_e) trivial h))⟩⟩⟩)⟩)))))⟩⟩))⟩⟩))⟩⟩⟩) fun h=>(h trivial))
 ·rw[vc44]
  exact(aQ (t:=ax) (fun m hm=>⟨trivial,hm⟩) _ rfl trivial (aP h (fun v0 h hv0=>⟨(Int.natCast_nonneg 0),(oG h fun _ h=>h)⟩) (fun _ h=>h.elim)))
def c87:Con:=⟨[.dat TVS,.dat TPS],fun args hp K=>g2 (pD TVS) (pD TPS) (fun row e=>(Sm TVS row)/\(Sm TPS e)/\(M.fR row.length e)/\K (dB (M.holds row e)) []) args hp,.plain,false⟩
@[reducible] def C87:Ctx:=cx [(44,c44),(128,c128)] 10 [] 0 false
def ann87:=an [[kp 3],[kp 16]] []
theorem vc87 (row:LV) (e:LPt) (K:KA):vcT C87 aE ann87 f87 [.data TVS row,.data TPS e] [] (.dat Ty.bool) K =
 ((Sm TVS row)/\(Sm TPS e)/\(M.fR row.length e)/\(∀r1:aa.D,r1=(M.dD row e)->(∀r2:aa.D,r2=(M.valueOf Z1)->K (dB (Ty.beq aa r1 r2)) []))):=by kernel_rfl
theorem con87_ok:br P 87 c87:=bw C87 func87 (kC con44_ok (kC con128_ok kN)) fun args hp K h0=>by
 obtain⟨row,e,rfl,rfl,h_row,h_e,p0,hK⟩:=g2e h0
 have h:ok (F.qM row e) (fun r=>K (dB r) []):=aC (F.uD row e h_row h_e p0) hK
 refine⟨rfl,ann87,aE,(.dat Ty.bool),(aK (by kernel_rfl)),?_⟩
 ·rw[vc87]
  exact⟨h_row,⟨h_e,⟨p0,(oL h fun _ _ h=>(oL h fun _ _ h=>h))⟩⟩⟩
@[reducible] def C194:Ctx:=cx [] 9 [] 400000 true
def T194:Inl:=uz C194 (fun _=>[]) (dN f194) f194.results.toList
theorem inlOk194:vA P 194 T194:=Az C194 func194 kN
def c162:Con:=⟨[.dat TVS],fun args hp K=>g1 (pD TVS) (fun xs=>(Sm TVS xs)/\(∀r:LV,r=xs->K (.clp 0 (r.length:Int)) [(0,.arr false aa r)])) args hp,.bor,false⟩
@[reducible] def C162:Ctx:=cx [] 9 [(194,T194)] 0 true
def ann162:=an [[kp 1],[kp 33],[.clip 2,kp 4],[kp 4]] []
theorem vc162 (xs:LV) (K:KA):vcT C162 aE ann162 f162 [.data TVS xs] [] .raw K =
 (cond (decide ((xs.length:Int)=Z0)) (K (.clp 0 (([]:List aa.D).length:Int)) [(0,.arr false aa ([]:List aa.D))]) ((xs.length * 32<=lim)/\(0<=Z0)/\(Z0<=(xs.length:Int))/\((xs.length:Int)<=(xs.length:Int))/\((xs.length:Int)=(xs.length:Int))/\(Z0=0)/\K (.clp 0 ((xs.take (xs.length:Int).toNat).length:Int)) [(0,.arr false aa (xs.take (xs.length:Int).toNat))])):=by kernel_rfl
theorem con162_ok:br P 162 c162:=bw C162 func162 (kI inlOk194 kN) fun args hp K h0=>by
 obtain⟨xs,rfl,rfl,h_xs,hK⟩:=g1e h0
 have h:ok (F.uC xs) (fun r=>K (.clp 0 (r.length:Int)) [(0,.arr false aa r)]):=aC (F.xA xs h_xs) (hK _ rfl)
 refine⟨rfl,ann162,aE,.raw,(aK (by kernel_rfl)),?_⟩
 ·rw[vc162]
  exact(oC h (fun _ h=>h) fun _ h=>⟨(BY h_xs rfl),⟨(Int.natCast_nonneg 0),⟨(Int.natCast_nonneg _),⟨(Int.le_refl _),⟨rfl,⟨rfl,h⟩⟩⟩⟩⟩⟩)
def c158:Con:=⟨[.dat TVS,.dat (Ty.sl aD)],fun args hp K=>g2 (pD TVS) (pD (Ty.sl aD)) (fun row list=>(Sm TVS row)/\(Sm (Ty.sl aD) list)/\(M.Bn row list)/\(∀r:LV,r=(M.taken row list)->K (.data TVS r) [])) args hp,.plain,false⟩
@[reducible] def C158:Ctx:=cx [(162,c162)] 24 [] 0 false
def ann158:=an [[kp 3],[kp 35],[kp 1825],[kp 3873],[kp 1953],[kp 1825],[kp 1825],[.freeze 23,kp 16]] [[kp 32]]
@[reducible] def s158_0 (row:LV) (list:(List Int)) (i0:Int) (v0:LV):St:=⟨[(0,.data TVS row),(5,.own 5 none),(8,.data (Ty.sl aD) list),(9,dI (list.length:Int)),(10,dI i0)],[(5,.arr false aa v0)]⟩
@[reducible] def LP158_0 (row:LV) (list:(List Int)) (m:Nat) (st_:St) (K:KX):Prop:=True/\bI (t:=aD) (s158_0 row list) list (F.kf row list) (fun v0:LV=>True) (aW (fun v0:LV=>True->K (.exit 0) (⟨[(5,.own 5 none)],[(5,.arr false aa v0)]⟩:St)) (fun _=>False)) m st_
def L158 (row:LV) (list:(List Int)):bC:=lp1 0 (LP158_0 row list)
theorem vc158 (row:LV) (list:(List Int)) (K:KA):vcT C158 (L158 row list) ann158 f158 [.data TVS row,.data (Ty.sl aD) list] [] (.dat TVS) K =
 (∃m_,True/\bI (t:=aD) (s158_0 row list) list (F.kf row list) (fun v0:LV=>True) (aW (fun v0:LV=>True->(Sm TVS v0)/\(∀r1:LV,r1=v0->K (.data TVS (aj r1 (some (Z0,(r1.length:Int))))) [])) (fun _=>False)) m_ (s158_0 row list Z0 [])):=by kernel_rfl
theorem lvc158_0 (row:LV) (list:(List Int))  (i0:Int) (v0:LV) (m:Nat) (K:KX):lvT C158 (L158 row list) ann158 f158 0 0 (s158_0 row list i0 v0) m K =
 (cond (decide (i0<(list.length:Int))) ((0<=i0)/\(i0<(list.length:Int))/\(0<=(nI list i0))/\((nI list i0)<(row.length:Int))/\((v0.length+[(nV row (nI list i0))].length) * 32<=lim)/\(nxT (LP158_0 row list) m K (s158_0 row list (wrap64 (i0+Z1)) (v0++[(nV row (nI list i0))])))) (K (.exit 0) (⟨[(5,.own 5 none)],[(5,.arr false aa v0)]⟩:St))):=by kernel_rfl
theorem con158_ok:br P 158 c158:=bw C158 func158 (kC con162_ok kN) fun args hp K h0=>by
 obtain⟨row,list,rfl,rfl,h_row,h_list,p0,hK⟩:=g2e h0
 have h:ok (F.sF row list) (fun r=>K (.data TVS r) []):=aC (F.Aw row list h_row h_list p0) (hK _ rfl)
 refine⟨rfl,ann158,(L158 row list),(.dat TVS),(bH (i0:=0) (by kernel_rfl) ?_),?_⟩
 ·rintro _ _ K ⟨hc0,i0,v0,rfl,hl0,rfl,hv0,h⟩
  exact cast (lvc158_0 _ _ _ _ _ _).symm (aV (t:=aD) hl0 h (fun ht0 h=>⟨hl0,⟨ht0,(oG h fun _ h=>(oG h fun _ h=>(oG h fun _ h=>(aM (t:=aD) (fun _ hm=>⟨hc0,hm⟩) _ rfl hl0 ht0 (bg h_list) trivial h))))⟩⟩) fun h=>(h trivial))
 ·rw[vc158]
  exact(aQ (t:=aD) (fun m hm=>⟨trivial,hm⟩) _ rfl trivial (aP h (fun v0 h hv0=>(oG h fun _ h=>(oL h fun _ _ h=>h))) (fun _ h=>h.elim)))
def c210:Con:=⟨[.any,.dat aD],fun args hp K=>args2 (fun a0 a1=>AN a0 (fI aD a1 fun n=>(0<=n)/\(n<=1099511627776)/\(∀r:LV,r=([]:List aa.D)->K (.own 0 none) [(0,.arr false aa r)]))) args hp,.plain,false⟩
@[reducible] def C210:Ctx:=cx [] 27 [] 0 false
def ann210:=an [[kp 3],[kp 67],[kp 3],[kp 3],[kp 65539],[kp 1],[kp 16]] []
theorem vc210 (n:Int) (K:KA):vcT C210 aE ann210 f210 [.cst (.slice none 0 0),dI n] [] .raw K =
 (cond (decide (n<Z0)) False (cond (decide (Z0<wrap64 (n-(wrap64 (Z0-Z0))))) ((0<=Z0)/\(Z0<=Z0)/\(Z0<=Z0)/\(Z0=Z0)/\(0<=wrap64 (n-(wrap64 (Z0-Z0))))/\((wrap64 (n-(wrap64 (Z0-Z0)))) * 32<=(lim:Int))/\(0<=Z0)/\(Z0<=Z0)/\(Z0<=((List.replicate (wrap64 (n-(wrap64 (Z0-Z0)))).toNat (Z0,(Z0,((⟨#[]⟩:ByteArray),())))).length:Int))/\(Z0=Z0)/\(Z0=0)/\K (.own 0 none) [(0,.arr false aa ((List.replicate (wrap64 (n-(wrap64 (Z0-Z0)))).toNat (Z0,(Z0,((⟨#[]⟩:ByteArray),())))).take Z0.toNat))]) (K (.own 0 none) [(0,.arr false aa [])]))):=by kernel_rfl
theorem con210_ok:br P 210 c210:=bw C210 func210 kN fun args hp K h0=>by
 obtain⟨a0,a1,rfl,rfl,h1⟩:=bW h0
 obtain⟨rfl,h2⟩:=oV h1
 obtain⟨n,rfl,h3⟩:=bE h2
 obtain⟨p0,p1,hK⟩:=h3
 have h:ok (F.qL n) (fun r=>K (.own 0 none) [(0,.arr false aa r)]):=aC (F.zj n p0 p1) (hK _ rfl)
 refine⟨rfl,ann210,aE,.raw,(aK (by kernel_rfl)),?_⟩
 ·rw[vc210]
  exact(oC h (fun _ h=>h) fun _ h=>(oC h (fun _ h=>⟨(Int.natCast_nonneg 0),⟨(Int.le_refl _),⟨(Int.le_refl _),⟨rfl,(oG h fun _ h=>(oG h fun _ h=>⟨(Int.natCast_nonneg 0),⟨(Int.le_refl _),⟨(Int.natCast_nonneg _),⟨rfl,⟨rfl,h⟩⟩⟩⟩⟩))⟩⟩⟩⟩) fun _ h=>h))
def c191:Con:=⟨[.dat (Ty.sl TVS)],fun args hp K=>g1 (pD (Ty.sl TVS)) (fun xss=>(Sm (Ty.sl TVS) xss)/\(∀r:LV,r=(List.flatten xss)->K (.own 0 none) [(0,.arr false aa r)])) args hp,.plain,false⟩
@[reducible] def C191:Ctx:=cx [(210,c210)] 36 [] 0 false
def ann191:=an [[kp 1],[kp 9],[kp 3593],[kp 7689],[kp 3625],[kp 3593],[kp 1052169],[kp 3593],[kp 3593],[kp 65],[kp 234881088],[kp 503316544],[kp 234881344],[kp 234881088],[kp 234881088],[kp 4]] [[kp 9],[],[kp 64]]
@[reducible] def s191_0 (xss:(List LV)) (i0:Int) (v0:Int):St:=⟨[(0,.data (Ty.sl TVS) xss),(3,dI v0),(9,.data (Ty.sl TVS) xss),(10,dI (xss.length:Int)),(11,dI i0)],[]⟩
@[reducible] def LP191_0 (xss:(List LV)) (m:Nat) (st_:St) (K:KX):Prop:=True/\bI (t:=TVS) (s191_0 xss) xss (F.gZ xss) (fun v0:Int=>True) (aW (fun v0:Int=>True->K (.exit 0) (⟨[(0,.data (Ty.sl TVS) xss),(3,dI v0)],[]⟩:St)) (fun _=>False)) m st_
@[reducible] def s191_2 (xss:(List LV)) (i2:Int) (v2:LV):St:=⟨[(6,.own 24 none),(25,.data (Ty.sl TVS) xss),(26,dI (xss.length:Int)),(27,dI i2)],[(24,.arr false aa v2)]⟩
@[reducible] def LP191_2 (xss:(List LV)) (m:Nat) (st_:St) (K:KX):Prop:=True/\bI (t:=TVS) (s191_2 xss) xss (F.hD xss) (fun v2:LV=>True) (aW (fun v2:LV=>True->K (.exit 2) (⟨[(6,.own 24 none)],[(24,.arr false aa v2)]⟩:St)) (fun _=>False)) m st_
def L191 (xss:(List LV)):bC:=lp2 0 (LP191_0 xss) 2 (LP191_2 xss)
theorem vc191 (xss:(List LV)) (K:KA):vcT C191 (L191 xss) ann191 f191 [.data (Ty.sl TVS) xss] [] .raw K =
 (∃m_,True/\bI (t:=TVS) (s191_0 xss) xss (F.gZ xss) (fun v0:Int=>True) (aW (fun v0:Int=>True->(0<=v0)/\(v0<=1099511627776)/\(∀r1:LV,r1=([]:List aa.D)->(∃m_,True/\bI (t:=TVS) (s191_2 xss) xss (F.hD xss) (fun v2:LV=>True) (aW (fun v2:LV=>True->K (.own 0 none) [(0,.arr false aa v2)]) (fun _=>False)) m_ (s191_2 xss Z0 r1)))) (fun _=>False)) m_ (s191_0 xss Z0 Z0)):=by kernel_rfl
theorem lvc191_0 (xss:(List LV))  (i0:Int) (v0:Int) (m:Nat) (K:KX):lvT C191 (L191 xss) ann191 f191 0 0 (s191_0 xss i0 v0) m K =
 (cond (decide (i0<(xss.length:Int))) ((0<=i0)/\(i0<(xss.length:Int))/\cond (decide (wrap64 (v0+((nth (t:=TVS) xss i0).length:Int))<Z0)) False (nxT (LP191_0 xss) m K (s191_0 xss (wrap64 (i0+Z1)) (wrap64 (v0+((nth (t:=TVS) xss i0).length:Int)))))) (K (.exit 0) (⟨[(0,.data (Ty.sl TVS) xss),(3,dI v0)],[]⟩:St))):=by kernel_rfl
theorem lvc191_1 (xss:(List LV))  (i2:Int) (v2:LV) (m:Nat) (K:KX):lvT C191 (L191 xss) ann191 f191 1 2 (s191_2 xss i2 v2) m K =
 (cond (decide (i2<(xss.length:Int))) ((0<=i2)/\(i2<(xss.length:Int))/\((v2.length+(nth (t:=TVS) xss i2).length) * 32<=lim)/\(nxT (LP191_2 xss) m K (s191_2 xss (wrap64 (i2+Z1)) (v2++(nth (t:=TVS) xss i2))))) (K (.exit 2) (⟨[(6,.own 24 none)],[(24,.arr false aa v2)]⟩:St))):=by kernel_rfl
theorem con191_ok:br P 191 c191:=bw C191 func191 (kC con210_ok kN) fun args hp K h0=>by
 obtain⟨xss,rfl,rfl,h_xss,hK⟩:=g1e h0
 have h:ok (F.ot xss) (fun r=>K (.own 0 none) [(0,.arr false aa r)]):=aC (F.vr xss h_xss) (hK _ rfl)
 refine⟨rfl,ann191,(L191 xss),.raw,(lT (i0:=0) (i1:=2) (by kernel_rfl) ?_ ?_),?_⟩
 ·rintro _ _ K ⟨hc0,i0,v0,rfl,hl0,rfl,hv0,h⟩
  exact cast (lvc191_0 _ _ _ _ _).symm (aV (t:=TVS) hl0 h (fun ht0 h=>⟨hl0,⟨ht0,(oC h (fun _ h=>h) fun _ h=>(aM (t:=TVS) (fun _ hm=>⟨hc0,hm⟩) _ rfl hl0 ht0 (bg h_xss) trivial h))⟩⟩) fun h=>(h trivial))
 ·rintro _ _ K ⟨hc2,i2,v2,rfl,hl2,rfl,hv2,h⟩
  exact cast (lvc191_1 _ _ _ _ _).symm (aV (t:=TVS) hl2 h (fun ht2 h=>⟨hl2,⟨ht2,(oG h fun _ h=>(aM (t:=TVS) (fun _ hm=>⟨hc2,hm⟩) _ rfl hl2 ht2 (bg h_xss) trivial h))⟩⟩) fun h=>(h trivial))
 ·rw[vc191]
  exact(aQ (t:=TVS) (fun m hm=>⟨trivial,hm⟩) _ rfl trivial (aP h (fun v0 h hv0=>(oG h fun _ h=>(oG h fun _ h=>(oL h fun _ _ h=>(aQ (t:=TVS) (fun m hm=>⟨trivial,hm⟩) _ rfl trivial (aP h (fun v2 h hv2=>h) (fun _ h=>h.elim))))))) (fun _ h=>h.elim)))
def c159:Con:=⟨[.dat TVS,.dat TVS],fun args hp K=>g2 (pD TVS) (pD TVS) (fun a b=>(Sm TVS a)/\(Sm TVS b)/\(a.length+b.length<=1048576)/\(∀r:LV,r=(a++b)->K (.clp 0 (r.length:Int)) [(0,.arr false aa r)])) args hp,.bor,false⟩
@[reducible] def C159:Ctx:=cx [(162,c162),(191,c191)] 10 [] 0 false
def ann159:=an [[kp 3],[kp 16]] []
theorem vc159 (a:LV) (b:LV) (K:KA):vcT C159 aE ann159 f159 [.data TVS a,.data TVS b] [] .raw K =
 ((Sm (Ty.sl TVS) [a,b])/\(∀r1:LV,r1=(List.flatten [a,b])->(Sm TVS r1)/\(∀r2:LV,r2=r1->K (.clp 0 ((r2.take (r2.length:Int).toNat).length:Int)) [(0,.arr false aa (r2.take (r2.length:Int).toNat))]))):=by kernel_rfl
theorem con159_ok:br P 159 c159:=bw C159 func159 (kC con162_ok (kC con191_ok kN)) fun args hp K h0=>by
 obtain⟨a,b,rfl,rfl,h_a,h_b,p0,hK⟩:=g2e h0
 have h:ok (F.qB a b) (fun r=>K (.clp 0 (r.length:Int)) [(0,.arr false aa r)]):=aC (F.yT a b h_a h_b p0) (hK _ rfl)
 refine⟨rfl,ann159,aE,.raw,(aK (by kernel_rfl)),?_⟩
 ·rw[vc159]
  exact(oG h fun _ h=>(oL h fun _ _ h=>(oG h fun _ h=>(oL h fun _ _ h=>h))))
def c192:Con:=⟨[.any,.dat aD],fun args hp K=>args2 (fun a0 a1=>AN a0 (fI aD a1 fun n=>(0<=n)/\(n<=1099511627776)/\(∀r:(List LV),r=([]:List TVS.D)->K (.own 0 none) [(0,.arr false TVS r)]))) args hp,.plain,false⟩
@[reducible] def C192:Ctx:=cx [] 27 [] 0 false
def ann192:=an [[kp 3],[kp 67],[kp 3],[kp 3],[kp 65539],[kp 1],[kp 16]] []
theorem vc192 (n:Int) (K:KA):vcT C192 aE ann192 f192 [.cst (.slice none 0 0),dI n] [] .raw K =
 (cond (decide (n<Z0)) False (cond (decide (Z0<wrap64 (n-(wrap64 (Z0-Z0))))) ((0<=Z0)/\(Z0<=Z0)/\(Z0<=Z0)/\(Z0=Z0)/\(0<=wrap64 (n-(wrap64 (Z0-Z0))))/\((wrap64 (n-(wrap64 (Z0-Z0)))) * 24<=(lim:Int))/\(0<=Z0)/\(Z0<=Z0)/\(Z0<=((List.replicate (wrap64 (n-(wrap64 (Z0-Z0)))).toNat ([]:List aa.D)).length:Int))/\(Z0=Z0)/\(Z0=0)/\K (.own 0 none) [(0,.arr false TVS ((List.replicate (wrap64 (n-(wrap64 (Z0-Z0)))).toNat ([]:List aa.D)).take Z0.toNat))]) (K (.own 0 none) [(0,.arr false TVS [])]))):=by kernel_rfl
theorem con192_ok:br P 192 c192:=bw C192 func192 kN fun args hp K h0=>by
 obtain⟨a0,a1,rfl,rfl,h1⟩:=bW h0
 obtain⟨rfl,h2⟩:=oV h1
 obtain⟨n,rfl,h3⟩:=bE h2
 obtain⟨p0,p1,hK⟩:=h3
 have h:ok (F.pz n) (fun r=>K (.own 0 none) [(0,.arr false TVS r)]):=aC (F.xC n p0 p1) (hK _ rfl)
 refine⟨rfl,ann192,aE,.raw,(aK (by kernel_rfl)),?_⟩
 ·rw[vc192]
  exact(oC h (fun _ h=>h) fun _ h=>(oC h (fun _ h=>⟨(Int.natCast_nonneg 0),⟨(Int.le_refl _),⟨(Int.le_refl _),⟨rfl,(oG h fun _ h=>(oG h fun _ h=>⟨(Int.natCast_nonneg 0),⟨(Int.le_refl _),⟨(Int.natCast_nonneg _),⟨rfl,⟨rfl,h⟩⟩⟩⟩⟩))⟩⟩⟩⟩) fun _ h=>h))
def c160:Con:=⟨[.dat (Ty.sl (Ty.sl TVS))],fun args hp K=>g1 (pD (Ty.sl (Ty.sl TVS))) (fun xss=>(Sm (Ty.sl (Ty.sl TVS)) xss)/\(∀r:(List LV),r=(List.flatten xss)->K (.own 0 none) [(0,.arr false TVS r)])) args hp,.plain,false⟩
@[reducible] def C160:Ctx:=cx [(192,c192)] 36 [] 0 false
def ann160:=an [[kp 1],[kp 9],[kp 3593],[kp 7689],[kp 3625],[kp 3593],[kp 1052169],[kp 3593],[kp 3593],[kp 65],[kp 234881088],[kp 503316544],[kp 234881344],[kp 234881088],[kp 234881088],[kp 4]] [[kp 9],[],[kp 64]]
@[reducible] def s160_0 (xss:(List (List LV))) (i0:Int) (v0:Int):St:=⟨[(0,.data (Ty.sl (Ty.sl TVS)) xss),(3,dI v0),(9,.data (Ty.sl (Ty.sl TVS)) xss),(10,dI (xss.length:Int)),(11,dI i0)],[]⟩
@[reducible] def LP160_0 (xss:(List (List LV))) (m:Nat) (st_:St) (K:KX):Prop:=True/\bI (t:=(Ty.sl TVS)) (s160_0 xss) xss (F.gf xss) (fun v0:Int=>True) (aW (fun v0:Int=>True->K (.exit 0) (⟨[(0,.data (Ty.sl (Ty.sl TVS)) xss),(3,dI v0)],[]⟩:St)) (fun _=>False)) m st_
@[reducible] def s160_2 (xss:(List (List LV))) (i2:Int) (v2:(List LV)):St:=⟨[(6,.own 24 none),(25,.data (Ty.sl (Ty.sl TVS)) xss),(26,dI (xss.length:Int)),(27,dI i2)],[(24,.arr false TVS v2)]⟩
@[reducible] def LP160_2 (xss:(List (List LV))) (m:Nat) (st_:St) (K:KX):Prop:=True/\bI (t:=(Ty.sl TVS)) (s160_2 xss) xss (F.gv xss) (fun v2:(List LV)=>True) (aW (fun v2:(List LV)=>True->K (.exit 2) (⟨[(6,.own 24 none)],[(24,.arr false TVS v2)]⟩:St)) (fun _=>False)) m st_
def L160 (xss:(List (List LV))):bC:=lp2 0 (LP160_0 xss) 2 (LP160_2 xss)
theorem vc160 (xss:(List (List LV))) (K:KA):vcT C160 (L160 xss) ann160 f160 [.data (Ty.sl (Ty.sl TVS)) xss] [] .raw K =
 (∃m_,True/\bI (t:=(Ty.sl TVS)) (s160_0 xss) xss (F.gf xss) (fun v0:Int=>True) (aW (fun v0:Int=>True->(0<=v0)/\(v0<=1099511627776)/\(∀r1:(List LV),r1=([]:List TVS.D)->(∃m_,True/\bI (t:=(Ty.sl TVS)) (s160_2 xss) xss (F.gv xss) (fun v2:(List LV)=>True) (aW (fun v2:(List LV)=>True->K (.own 0 none) [(0,.arr false TVS v2)]) (fun _=>False)) m_ (s160_2 xss Z0 r1)))) (fun _=>False)) m_ (s160_0 xss Z0 Z0)):=by kernel_rfl
theorem lvc160_0 (xss:(List (List LV)))  (i0:Int) (v0:Int) (m:Nat) (K:KX):lvT C160 (L160 xss) ann160 f160 0 0 (s160_0 xss i0 v0) m K =
 (cond (decide (i0<(xss.length:Int))) ((0<=i0)/\(i0<(xss.length:Int))/\cond (decide (wrap64 (v0+((nth (t:=(Ty.sl TVS)) xss i0).length:Int))<Z0)) False (nxT (LP160_0 xss) m K (s160_0 xss (wrap64 (i0+Z1)) (wrap64 (v0+((nth (t:=(Ty.sl TVS)) xss i0).length:Int)))))) (K (.exit 0) (⟨[(0,.data (Ty.sl (Ty.sl TVS)) xss),(3,dI v0)],[]⟩:St))):=by kernel_rfl
theorem lvc160_1 (xss:(List (List LV)))  (i2:Int) (v2:(List LV)) (m:Nat) (K:KX):lvT C160 (L160 xss) ann160 f160 1 2 (s160_2 xss i2 v2) m K =
 (cond (decide (i2<(xss.length:Int))) ((0<=i2)/\(i2<(xss.length:Int))/\((v2.length+(nth (t:=(Ty.sl TVS)) xss i2).length) * 24<=lim)/\(nxT (LP160_2 xss) m K (s160_2 xss (wrap64 (i2+Z1)) (v2++(nth (t:=(Ty.sl TVS)) xss i2))))) (K (.exit 2) (⟨[(6,.own 24 none)],[(24,.arr false TVS v2)]⟩:St))):=by kernel_rfl
theorem con160_ok:br P 160 c160:=bw C160 func160 (kC con192_ok kN) fun args hp K h0=>by
 obtain⟨xss,rfl,rfl,h_xss,hK⟩:=g1e h0
 have h:ok (F.mV xss) (fun r=>K (.own 0 none) [(0,.arr false TVS r)]):=aC (F.uo xss h_xss) (hK _ rfl)
 refine⟨rfl,ann160,(L160 xss),.raw,(lT (i0:=0) (i1:=2) (by kernel_rfl) ?_ ?_),?_⟩
 ·rintro _ _ K ⟨hc0,i0,v0,rfl,hl0,rfl,hv0,h⟩
  exact cast (lvc160_0 _ _ _ _ _).symm (aV (t:=(Ty.sl TVS)) hl0 h (fun ht0 h=>⟨hl0,⟨ht0,(oC h (fun _ h=>h) fun _ h=>(aM (t:=(Ty.sl TVS)) (fun _ hm=>⟨hc0,hm⟩) _ rfl hl0 ht0 (bg h_xss) trivial h))⟩⟩) fun h=>(h trivial))
 ·rintro _ _ K ⟨hc2,i2,v2,rfl,hl2,rfl,hv2,h⟩
  exact cast (lvc160_1 _ _ _ _ _).symm (aV (t:=(Ty.sl TVS)) hl2 h (fun ht2 h=>⟨hl2,⟨ht2,(oG h fun _ h=>(aM (t:=(Ty.sl TVS)) (fun _ hm=>⟨hc2,hm⟩) _ rfl hl2 ht2 (bg h_xss) trivial h))⟩⟩) fun h=>(h trivial))
 ·rw[vc160]
  exact(aQ (t:=(Ty.sl TVS)) (fun m hm=>⟨trivial,hm⟩) _ rfl trivial (aP h (fun v0 h hv0=>(oG h fun _ h=>(oG h fun _ h=>(oL h fun _ _ h=>(aQ (t:=(Ty.sl TVS)) (fun m hm=>⟨trivial,hm⟩) _ rfl trivial (aP h (fun v2 h hv2=>h) (fun _ h=>h.elim))))))) (fun _ h=>h.elim)))
@[reducible] def C163:Ctx:=cx [] 9 [] 400000 true
def T163:Inl:=uz C163 (fun _=>[]) (dN f163) f163.results.toList
theorem inlOk163:vA P 163 T163:=Az C163 func163 kN
def c113:Con:=⟨[.dat (Ty.sl TVS)],fun args hp K=>g1 (pD (Ty.sl TVS)) (fun rows=>(Sm (Ty.sl TVS) rows)/\(∀r:(List LV),r=rows->K (.clp 0 (r.length:Int)) [(0,.arr true TVS r)])) args hp,.bor,false⟩
@[reducible] def C113:Ctx:=cx [(162,c162)] 20 [(163,T163)] 0 true
def ann113:=an [[kp 1],[kp 9],[kp 456],[kp 968],[kp 488],[kp 456],[kp 456],[kp 4]] [[kp 8]]
@[reducible] def s113_0 (rows:(List LV)) (i0:Int) (v0:(List LV)):St:=⟨[(3,.own 3 none),(6,.data (Ty.sl TVS) rows),(7,dI (rows.length:Int)),(8,dI i0)],[(3,.arr true TVS v0)]⟩
@[reducible] def LP113_0 (rows:(List LV)) (m:Nat) (st_:St) (K:KX):Prop:=True/\bI (t:=TVS) (s113_0 rows) rows (F.hY rows) (fun v0:(List LV)=>True) (aW (fun v0:(List LV)=>True->K (.exit 0) (⟨[(3,.own 3 none)],[(3,.arr true TVS v0)]⟩:St)) (fun _=>False)) m st_
def L113 (rows:(List LV)):bC:=lp1 0 (LP113_0 rows)
theorem vc113 (rows:(List LV)) (K:KA):vcT C113 (L113 rows) ann113 f113 [.data (Ty.sl TVS) rows] [] .raw K =
 (∃m_,True/\bI (t:=TVS) (s113_0 rows) rows (F.hY rows) (fun v0:(List LV)=>True) (aW (fun v0:(List LV)=>True->(0<=Z0)/\(Z0<=(v0.length:Int))/\((v0.length:Int)<=(v0.length:Int))/\((v0.length:Int)=(v0.length:Int))/\(Z0=0)/\K (.clp 0 ((v0.take (v0.length:Int).toNat).length:Int)) [(0,.arr true TVS (v0.take (v0.length:Int).toNat))]) (fun _=>False)) m_ (s113_0 rows Z0 [])):=by kernel_rfl
theorem lvc113_0 (rows:(List LV))  (i0:Int) (v0:(List LV)) (m:Nat) (K:KX):lvT C113 (L113 rows) ann113 f113 0 0 (s113_0 rows i0 v0) m K =
 (cond (decide (i0<(rows.length:Int))) ((0<=i0)/\(i0<(rows.length:Int))/\(Sm TVS (nth (t:=TVS) rows i0))/\(∀r1:LV,r1=(nth (t:=TVS) rows i0)->((v0.length+[(aj r1 (some (Z0,(r1.length:Int))))].length) * 24<=lim)/\(nxT (LP113_0 rows) m K (s113_0 rows (wrap64 (i0+Z1)) (v0++[(aj r1 (some (Z0,(r1.length:Int))))]))))) (K (.exit 0) (⟨[(3,.own 3 none)],[(3,.arr true TVS v0)]⟩:St))):=by kernel_rfl
theorem con113_ok:br P 113 c113:=bw C113 func113 (kC con162_ok (kI inlOk163 kN)) fun args hp K h0=>by
 obtain⟨rows,rfl,rfl,h_rows,hK⟩:=g1e h0
 have h:ok (F.oo rows) (fun r=>K (.clp 0 (r.length:Int)) [(0,.arr true TVS r)]):=aC (F.vu rows h_rows) (hK _ rfl)
 refine⟨rfl,ann113,(L113 rows),.raw,(bH (i0:=0) (by kernel_rfl) ?_),?_⟩
 ·rintro _ _ K ⟨hc0,i0,v0,rfl,hl0,rfl,hv0,h⟩
  exact cast (lvc113_0 _ _ _ _ _).symm (aV (t:=TVS) hl0 h (fun ht0 h=>⟨hl0,⟨ht0,⟨(aL h_rows i0),(oL h fun _ _ h=>(oG h fun _ h=>(aM (t:=TVS) (fun _ hm=>⟨hc0,hm⟩) _ rfl hl0 ht0 (bg h_rows) trivial h)))⟩⟩⟩) fun h=>(h trivial))
 ·rw[vc113]
  exact(aQ (t:=TVS) (fun m hm=>⟨trivial,hm⟩) _ rfl trivial (aP h (fun v0 h hv0=>⟨(Int.natCast_nonneg 0),⟨(Int.natCast_nonneg _),⟨(Int.le_refl _),⟨rfl,⟨rfl,h⟩⟩⟩⟩⟩) (fun _ h=>h.elim)))
def c215:Con:=⟨[.lent aa,.lent aa],fun args hp K=>g2 (pB aa) (pB aa) (fun xs ys=>(Sm TVS xs)/\(Sm TVS ys)/\K (dB (decide (xs=ys))) []) args hp,.plain,false⟩
@[reducible] def C215:Ctx:=cx [] 26 [] 0 false
def ann215:=an [[kp 3],[kp 1027],[kp 16],[kp 12291],[kp 28675],[kp 12323],[kp 16789507],[kp 16],[kp 12291],[kp 16]] [[kp 0]]
@[reducible] def s215_0 (xs:LV) (ys:LV) (i0:Int) (v0:Unit):St:=⟨[(0,.brw aa xs),(1,.brw aa ys),(12,dI (xs.length:Int)),(13,dI i0)],[]⟩
@[reducible] def LP215_0 (xs:LV) (ys:LV) (m:Nat) (st_:St) (K:KX):Prop:=True/\cJ (s215_0 xs ys) Z0 (xs.length:Int) (F.iT xs ys) (fun v0:Unit=>True) (aW (fun v0:Unit=>True->K (.exit 0) (⟨[],[]⟩:St)) (fun q0:Unit=>K .ret (⟨[(4,dB false)],[]⟩:St))) m st_
def L215 (xs:LV) (ys:LV):bC:=lp1 0 (LP215_0 xs ys)
theorem vc215 (xs:LV) (ys:LV) (K:KA):vcT C215 (L215 xs ys) ann215 f215 [.brw aa xs,.brw aa ys] [] (.dat Ty.bool) K =
 (cond (!decide ((xs.length:Int)=(ys.length:Int))) (K (dB false) []) (∃m_,True/\cJ (s215_0 xs ys) Z0 (xs.length:Int) (F.iT xs ys) (fun v0:Unit=>True) (aW (fun v0:Unit=>True->K (dB true) []) (fun q0:Unit=>K (dB false) [])) m_ (s215_0 xs ys Z0 ()))):=by kernel_rfl
theorem lvc215_0 (xs:LV) (ys:LV)  (i0:Int) (v0:Unit) (m:Nat) (K:KX):lvT C215 (L215 xs ys) ann215 f215 0 0 (s215_0 xs ys i0 v0) m K =
 (cond (decide (i0<(xs.length:Int))) ((0<=i0)/\(i0<(xs.length:Int))/\(0<=i0)/\(i0<(ys.length:Int))/\cond (!(Ty.beq aa (nV xs i0) (nV ys i0))) (K .ret (⟨[(4,dB false)],[]⟩:St)) (nxT (LP215_0 xs ys) m K (s215_0 xs ys (wrap64 (i0+Z1)) ()))) (K (.exit 0) (⟨[],[]⟩:St))):=by kernel_rfl
theorem con215_ok:br P 215 c215:=bw C215 func215 kN fun args hp K h0=>by
 obtain⟨xs,ys,rfl,rfl,h_xs,h_ys,hK⟩:=g2e h0
 have h:ok (F.tO xs ys) (fun r=>K (dB r) []):=aC (F.xK xs ys h_xs h_ys) hK
 refine⟨rfl,ann215,(L215 xs ys),(.dat Ty.bool),(bH (i0:=0) (by kernel_rfl) ?_),?_⟩
 ·rintro _ _ K ⟨hc0,i0,v0,rfl,hl0,rfl,hv0,h⟩
  exact cast (lvc215_0 _ _ _ _ _ _).symm (bV h (fun ht0 h=>⟨hl0,⟨ht0,⟨hl0,(oG h fun _ h=>(oC h (fun _ h=>h) fun _ h=>(aU (fun _ hm=>⟨hc0,hm⟩) _ rfl hl0 gb ht0 (bg h_xs) trivial h)))⟩⟩⟩) fun h=>(h trivial))
 ·rw[vc215]
  exact(oC h (fun _ h=>h) fun _ h=>(bJ (fun m hm=>⟨trivial,hm⟩) Z0 _ rfl (Int.natCast_nonneg 0) trivial (aP h (fun v0 h hv0=>h) (fun q0 h=>h))))
def c211:Con:=⟨[.lent TVS,.dat TVS],fun args hp K=>g2 (pB TVS) (pD TVS) (fun rows row=>(Sm (Ty.sl TVS) rows)/\(Sm TVS row)/\K (dI (M.eV rows row:Int)) []) args hp,.plain,false⟩
@[reducible] def C211:Ctx:=cx [(215,c215)] 21 [] 0 false
def ann211:=an [[kp 3],[kp 35],[kp 1826],[kp 3874],[kp 1954],[kp 67362],[kp 1826],[kp 1826],[kp 16]] [[kp 32]]
@[reducible] def s211_0 (rows:(List LV)) (row:LV) (i0:Int) (v0:Int):St:=⟨[(1,.data TVS row),(5,dI v0),(8,.brw TVS rows),(9,dI (rows.length:Int)),(10,dI i0)],[]⟩
@[reducible] def LP211_0 (rows:(List LV)) (row:LV) (m:Nat) (st_:St) (K:KX):Prop:=True/\bI (t:=TVS) (s211_0 rows row) rows (F.fT rows row) (fun v0:Int=>True) (aW (fun v0:Int=>True->K (.exit 0) (⟨[(5,dI v0)],[]⟩:St)) (fun _=>False)) m st_
def L211 (rows:(List LV)) (row:LV):bC:=lp1 0 (LP211_0 rows row)
theorem vc211 (rows:(List LV)) (row:LV) (K:KA):vcT C211 (L211 rows row) ann211 f211 [.brw TVS rows,.data TVS row] [] (.dat aD) K =
 (∃m_,True/\bI (t:=TVS) (s211_0 rows row) rows (F.fT rows row) (fun v0:Int=>True) (aW (fun v0:Int=>True->K (dI v0) []) (fun _=>False)) m_ (s211_0 rows row Z0 Z0)):=by kernel_rfl
theorem lvc211_0 (rows:(List LV)) (row:LV)  (i0:Int) (v0:Int) (m:Nat) (K:KX):lvT C211 (L211 rows row) ann211 f211 0 0 (s211_0 rows row i0 v0) m K =
 (cond (decide (i0<(rows.length:Int))) ((0<=i0)/\(i0<(rows.length:Int))/\(Sm TVS (nth (t:=TVS) rows i0))/\(Sm TVS row)/\cond (decide ((nth (t:=TVS) rows i0)=row)) (nxT (LP211_0 rows row) m K (s211_0 rows row (wrap64 (i0+Z1)) (wrap64 (v0+Z1)))) (nxT (LP211_0 rows row) m K (s211_0 rows row (wrap64 (i0+Z1)) v0))) (K (.exit 0) (⟨[(5,dI v0)],[]⟩:St))):=by kernel_rfl
theorem con211_ok:br P 211 c211:=bw C211 func211 (kC con215_ok kN) fun args hp K h0=>by
 obtain⟨rows,row,rfl,rfl,h_rows,h_row,hK⟩:=g2e h0
 have h:ok (F.qd rows row) (fun r=>K (dI r) []):=aC (F.xN rows row h_rows h_row) hK
 refine⟨rfl,ann211,(L211 rows row),(.dat aD),(bH (i0:=0) (by kernel_rfl) ?_),?_⟩
 ·rintro _ _ K ⟨hc0,i0,v0,rfl,hl0,rfl,hv0,h⟩
  exact cast (lvc211_0 _ _ _ _ _ _).symm (aV (t:=TVS) hl0 h (fun ht0 h=>⟨hl0,⟨ht0,⟨(aL h_rows i0),⟨h_row,(oC h (fun _ h=>(aM (t:=TVS) (fun _ hm=>⟨hc0,hm⟩) _ rfl hl0 ht0 (bg h_rows) trivial h)) fun _ h=>(aM (t:=TVS) (fun _ hm=>⟨hc0,hm⟩) _ rfl hl0 ht0 (bg h_rows) trivial h))⟩⟩⟩⟩) fun h=>(h trivial))
 ·rw[vc211]
  exact(aQ (t:=TVS) (fun m hm=>⟨trivial,hm⟩) _ rfl trivial (aP h (fun v0 h hv0=>h) (fun _ h=>h.elim)))
def c193:Con:=⟨[.lent TVS,.dat TVS],fun args hp K=>g2 (pB TVS) (pD TVS) (fun rows row=>(Sm (Ty.sl TVS) rows)/\(Sm TVS row)/\K (dB (decide (0<(M.eV rows row:Int)))) []) args hp,.plain,false⟩
@[reducible] def C193:Ctx:=cx [(211,c211)] 9 [] 0 false
def ann193:=an [[kp 3],[kp 16]] []
theorem vc193 (rows:(List LV)) (row:LV) (K:KA):vcT C193 aE ann193 f193 [.brw TVS rows,.data TVS row] [] (.dat Ty.bool) K =
 ((Sm (Ty.sl TVS) rows)/\(Sm TVS row)/\K (dB (decide (Z0<(M.eV rows row:Int)))) []):=by kernel_rfl
theorem con193_ok:br P 193 c193:=bw C193 func193 (kC con211_ok kN) fun args hp K h0=>by
 obtain⟨rows,row,rfl,rfl,h_rows,h_row,hK⟩:=g2e h0
 have h:ok (F.uE rows row) (fun r=>K (dB r) []):=aC (F.xq rows row h_rows h_row) hK
 refine⟨rfl,ann193,aE,(.dat Ty.bool),(aK (by kernel_rfl)),?_⟩
 ·rw[vc193]
  exact⟨h_rows,⟨h_row,h⟩⟩
def c161:Con:=⟨[.dat (Ty.sl TVS)],fun args hp K=>g1 (pD (Ty.sl TVS)) (fun rows=>(Sm (Ty.sl TVS) rows)/\(∀r:(List LV),r=(M.cS rows)->K (.clp 0 (r.length:Int)) [(0,.arr true TVS r)])) args hp,.bor,false⟩
@[reducible] def C161:Ctx:=cx [(113,c113),(193,c193)] 23 [] 0 true
def ann161:=an [[kp 1],[.weak 3,kp 9],[kp 456],[kp 968],[kp 488],[kp 33256],[kp 456],[kp 456],[kp 4]] [[kp 8]]
@[reducible] def s161_0 (rows:(List LV)) (i0:Int) (v0:(List LV)):St:=⟨[(3,.own 3 none),(6,.data (Ty.sl TVS) rows),(7,dI (rows.length:Int)),(8,dI i0)],[(3,.arr false TVS v0)]⟩
@[reducible] def LP161_0 (rows:(List LV)) (m:Nat) (st_:St) (K:KX):Prop:=True/\bI (t:=TVS) (s161_0 rows) rows (F.fj rows) (fun v0:(List LV)=>True) (aW (fun v0:(List LV)=>True->K (.exit 0) (⟨[(3,.own 3 none)],[(3,.arr false TVS v0)]⟩:St)) (fun _=>False)) m st_
def L161 (rows:(List LV)):bC:=lp1 0 (LP161_0 rows)
theorem vc161 (rows:(List LV)) (K:KA):vcT C161 (L161 rows) ann161 f161 [.data (Ty.sl TVS) rows] [] .raw K =
 (∃m_,True/\bI (t:=TVS) (s161_0 rows) rows (F.fj rows) (fun v0:(List LV)=>True) (aW (fun v0:(List LV)=>True->(Sm (Ty.sl TVS) v0)/\(∀r1:(List LV),r1=v0->K (.clp 0 ((r1.take (r1.length:Int).toNat).length:Int)) [(0,.arr true TVS (r1.take (r1.length:Int).toNat))])) (fun _=>False)) m_ (s161_0 rows Z0 [])):=by kernel_rfl
theorem lvc161_0 (rows:(List LV))  (i0:Int) (v0:(List LV)) (m:Nat) (K:KX):lvT C161 (L161 rows) ann161 f161 0 0 (s161_0 rows i0 v0) m K =
 (cond (decide (i0<(rows.length:Int))) ((0<=i0)/\(i0<(rows.length:Int))/\(Sm (Ty.sl TVS) v0)/\(Sm TVS (nth (t:=TVS) rows i0))/\cond (!(decide (0<(M.eV v0 (nth (t:=TVS) rows i0):Int)))) (((v0.length+[(nth (t:=TVS) rows i0)].length) * 24<=lim)/\(nxT (LP161_0 rows) m K (s161_0 rows (wrap64 (i0+Z1)) (v0++[(nth (t:=TVS) rows i0)])))) (nxT (LP161_0 rows) m K (s161_0 rows (wrap64 (i0+Z1)) v0))) (K (.exit 0) (⟨[(3,.own 3 none)],[(3,.arr false TVS v0)]⟩:St))):=by kernel_rfl
theorem con161_ok:br P 161 c161:=bw C161 func161 (kC con113_ok (kC con193_ok kN)) fun args hp K h0=>by
 obtain⟨rows,rfl,rfl,h_rows,hK⟩:=g1e h0
 have h:ok (F.oe rows) (fun r=>K (.clp 0 (r.length:Int)) [(0,.arr true TVS r)]):=aC (F.wg rows h_rows) (hK _ rfl)
 refine⟨rfl,ann161,(L161 rows),.raw,(bH (i0:=0) (by kernel_rfl) ?_),?_⟩
 ·rintro _ _ K ⟨hc0,i0,v0,rfl,hl0,rfl,hv0,h⟩
  exact cast (lvc161_0 _ _ _ _ _).symm (aV (t:=TVS) hl0 h (fun ht0 h=>⟨hl0,⟨ht0,(oG h fun _ h=>⟨(aL h_rows i0),(oC h (fun _ h=>(oG h fun _ h=>(aM (t:=TVS) (fun _ hm=>⟨hc0,hm⟩) _ rfl hl0 ht0 (bg h_rows) trivial h))) fun _ h=>(aM (t:=TVS) (fun _ hm=>⟨hc0,hm⟩) _ rfl hl0 ht0 (bg h_rows) trivial h))⟩)⟩⟩) fun h=>(h trivial))
 ·rw[vc161]
  exact(aQ (t:=TVS) (fun m hm=>⟨trivial,hm⟩) _ rfl trivial (aP h (fun v0 h hv0=>(oG h fun _ h=>(oL h fun _ _ h=>h))) (fun _ h=>h.elim)))
def c112:Con:=⟨[.dat ah,.dat TTb,.lent (Ty.sl TVS)],fun args hp K=>g3 (pD ah) (pD TTb) (pB (Ty.sl TVS)) (fun s tables ahead=>(Sm ah s)/\(Sm TTb tables)/\(Sm (Ty.sl (Ty.sl TVS)) ahead)/\(M.rQ tables ahead s)/\(∀r:(List LV),r=(M.bQ tables ahead s)->K (.data (Ty.sl TVS) r) [])) args hp,.plain,false⟩
@[reducible] def C112:Ctx:=cx [(87,c87),(158,c158),(159,c159),(160,c160),(161,c161)] 126 [] 0 false
def ann112:=an [[.fixRow 3 ah,kp 14],[kp 142],[kp 262286],[kp 786574],[kp 64],[kp 134480012],[kp 60129542280],[kp 128849019016],[kp 60129542792],[kp 4458176053896],[kp 60129542280],[kp 60129542280],[kp 281474976972940],[kp 126100789566374024],[kp 270215977642229896],[kp 126100789566376072],[kp 126100789566374024],[kp 126100789566374024],[.keep [2,3,7,18,68]],[kp 132226261520350065983628],[kp 283341988972178712821900],[kp 132226261520350065991820],[kp 135531918058358817633083532],[kp 290274422969031351995474060],[kp 135531918058358817633116300],[kp 135531918058358817633149068],[kp 79363694432322696411177099404],[kp 135531918058358817633083532],[kp 135531918058358817633083532],[kp 132226261520350065983628],[.keep [2,3,7,18,103]],[kp 64],[.keep [2,3,7,117]],[.weak 124,.freeze 124,kp 64],[kp 64]] [[],[kp 128],[],[kp 128],[],[kp 128],[],[kp 132226261520350065983628]]
@[reducible] def s112_1 (s:ah.D) (tables:LTb) (ahead:(List (List LV))) (i1:Int) (v1:(List LV)):St:=⟨[(3,.adr ah s),(7,.own 7 none),(33,.data (Ty.sl TVS) (nth (t:=(Ty.sl TVS)) ahead s.2.1)),(34,dI ((nth (t:=(Ty.sl TVS)) ahead s.2.1).length:Int)),(35,dI i1)],[(7,.arr false TVS v1)]⟩
@[reducible] def LP112_1 (s:ah.D) (tables:LTb) (ahead:(List (List LV))) (m:Nat) (st_:St) (K:KX):Prop:=True/\bI (t:=TVS) (s112_1 s tables ahead) (nth (t:=(Ty.sl TVS)) ahead s.2.1) (F.gu s tables ahead) (fun v1:(List LV)=>True) (aW (fun v1:(List LV)=>True->K (.exit 1) (⟨[(7,.own 7 none)],[(7,.arr false TVS v1)]⟩:St)) (fun _=>False)) m st_
@[reducible] def s112_3 (s:ah.D) (tables:LTb) (ahead:(List (List LV))) (i3:Int) (v3:(List LV)):St:=⟨[(3,.adr ah s),(7,.own 7 none),(54,.data (Ty.sl TVS) (nth (t:=(Ty.sl TVS)) ahead s.2.1)),(55,dI ((nth (t:=(Ty.sl TVS)) ahead s.2.1).length:Int)),(56,dI i3)],[(7,.arr false TVS v3)]⟩
@[reducible] def LP112_3 (s:ah.D) (tables:LTb) (ahead:(List (List LV))) (m:Nat) (st_:St) (K:KX):Prop:=True/\bI (t:=TVS) (s112_3 s tables ahead) (nth (t:=(Ty.sl TVS)) ahead s.2.1) (F.gB s tables ahead) (fun v3:(List LV)=>True) (aW (fun v3:(List LV)=>True->K (.exit 3) (⟨[(7,.own 7 none)],[(7,.arr false TVS v3)]⟩:St)) (fun _=>False)) m st_
@[reducible] def s112_5 (s:ah.D) (tables:LTb) (ahead:(List (List LV))) (i5:Int) (v5:(List LV)):St:=⟨[(2,.brw (Ty.sl TVS) ahead),(3,.adr ah s),(7,.own 7 none),(74,.data (Ty.sl TVS) (nth (t:=(Ty.sl TVS)) ahead s.2.1)),(75,dI ((nth (t:=(Ty.sl TVS)) ahead s.2.1).length:Int)),(76,dI i5)],[(7,.arr false TVS v5)]⟩
@[reducible] def LP112_5 (s:ah.D) (tables:LTb) (ahead:(List (List LV))) (m:Nat) (st_:St) (K:KX):Prop:=True/\cJ (s112_5 s tables ahead) Z0 ((nth (t:=(Ty.sl TVS)) ahead s.2.1).length:Int) (F.gn s tables ahead) (fun v5:(List LV)=>True) (aW (fun v5:(List LV)=>True->K (.exit 5) (⟨[(7,.own 7 none)],[(7,.arr false TVS v5)]⟩:St)) (fun _=>False)) m st_
@[reducible] def s112_7 (s:ah.D) (tables:LTb) (ahead:(List (List LV))) (c7_0:LV) (c7_1:Int) (i7:Int) (v7:(List LV)):St:=⟨[(2,.brw (Ty.sl TVS) ahead),(3,.adr ah s),(7,.own 7 none),(13,.data TVS c7_0),(74,.data (Ty.sl TVS) (nth (t:=(Ty.sl TVS)) ahead s.2.1)),(75,dI ((nth (t:=(Ty.sl TVS)) ahead s.2.1).length:Int)),(76,dI c7_1),(84,.data (Ty.sl TVS) (nth (t:=(Ty.sl TVS)) ahead s.2.2.1)),(85,dI ((nth (t:=(Ty.sl TVS)) ahead s.2.2.1).length:Int)),(86,dI i7)],[(7,.arr false TVS v7)]⟩
@[reducible] def LP112_7 (s:ah.D) (tables:LTb) (ahead:(List (List LV))) (m:Nat) (st_:St) (K:KX):Prop:=∃c7_0:LV,∃c7_1:Int,(Sm TVS c7_0/\True)/\bI (t:=TVS) (s112_7 s tables ahead c7_0 c7_1) (nth (t:=(Ty.sl TVS)) ahead s.2.2.1) (F.gw s tables ahead c7_0 c7_1) (fun v7:(List LV)=>True) (aW (fun v7:(List LV)=>True->K (.exit 7) (⟨[(2,.brw (Ty.sl TVS) ahead),(3,.adr ah s),(7,.own 7 none),(74,.data (Ty.sl TVS) (nth (t:=(Ty.sl TVS)) ahead s.2.1)),(75,dI ((nth (t:=(Ty.sl TVS)) ahead s.2.1).length:Int)),(76,dI c7_1)],[(7,.arr false TVS v7)]⟩:St)) (fun _=>False)) m st_
def L112 (s:ah.D) (tables:LTb) (ahead:(List (List LV))):bC:=fun id m st_ K=>match id with
 | 1=>LP112_1 s tables ahead m st_ K
 | 3=>LP112_3 s tables ahead m st_ K
 | 5=>LP112_5 s tables ahead m st_ K
 | 7=>LP112_7 s tables ahead m st_ K
 | _=>False
theorem vc112 (s:ah.D) (tables:LTb) (ahead:(List (List LV))) (K:KA):vcT C112 (L112 s tables ahead) ann112 f112 [.data ah s,.data TTb tables,.brw (Ty.sl TVS) ahead] [] (.dat (Ty.sl TVS)) K =
 (cond (decide (s.1=Z1)) ((0<=s.2.2.2.1)/\(s.2.2.2.1<(tables.length:Int))/\K (.data (Ty.sl TVS) (nT tables s.2.2.2.1).2.1) []) (cond (decide (s.1=Z2)) ((0<=s.2.1)/\(s.2.1<(ahead.length:Int))/\(∃m_,True/\bI (t:=TVS) (s112_1 s tables ahead) (nth (t:=(Ty.sl TVS)) ahead s.2.1) (F.gu s tables ahead) (fun v1:(List LV)=>True) (aW (fun v1:(List LV)=>True->K (.data (Ty.sl TVS) v1) []) (fun _=>False)) m_ (s112_1 s tables ahead Z0 []))) (cond (decide (s.1=Z3)) ((0<=s.2.1)/\(s.2.1<(ahead.length:Int))/\(∃m_,True/\bI (t:=TVS) (s112_3 s tables ahead) (nth (t:=(Ty.sl TVS)) ahead s.2.1) (F.gB s tables ahead) (fun v3:(List LV)=>True) (aW (fun v3:(List LV)=>True->K (.data (Ty.sl TVS) v3) []) (fun _=>False)) m_ (s112_3 s tables ahead Z0 []))) (cond (decide (s.1=Z4)) ((0<=s.2.1)/\(s.2.1<(ahead.length:Int))/\(∃m_,True/\cJ (s112_5 s tables ahead) Z0 ((nth (t:=(Ty.sl TVS)) ahead s.2.1).length:Int) (F.gn s tables ahead) (fun v5:(List LV)=>True) (aW (fun v5:(List LV)=>True->K (.data (Ty.sl TVS) v5) []) (fun _=>False)) m_ (s112_5 s tables ahead Z0 []))) (cond (decide (s.1=Z5)) ((0<=s.2.1)/\(s.2.1<(ahead.length:Int))/\(0<=s.2.2.1)/\(s.2.2.1<(ahead.length:Int))/\(Sm (Ty.sl (Ty.sl TVS)) [(nth (t:=(Ty.sl TVS)) ahead s.2.1),(nth (t:=(Ty.sl TVS)) ahead s.2.2.1)])/\(∀r1:(List LV),r1=(List.flatten [(nth (t:=(Ty.sl TVS)) ahead s.2.1),(nth (t:=(Ty.sl TVS)) ahead s.2.2.1)])->K (.data (Ty.sl TVS) r1) [])) (cond (decide (s.1=Z6)) ((0<=s.2.1)/\(s.2.1<(ahead.length:Int))/\(Sm (Ty.sl TVS) (nth (t:=(Ty.sl TVS)) ahead s.2.1))/\(∀r2:(List LV),r2=(M.cS (nth (t:=(Ty.sl TVS)) ahead s.2.1))->K (.data (Ty.sl TVS) (aj r2 (some (Z0,(r2.length:Int))))) [])) (K (.data (Ty.sl TVS) []) []))))))):=by kernel_rfl
theorem lvc112_0 (s:ah.D) (tables:LTb) (ahead:(List (List LV)))  (i1:Int) (v1:(List LV)) (m:Nat) (K:KX):lvT C112 (L112 s tables ahead) ann112 f112 0 1 (s112_1 s tables ahead i1 v1) m K =
 (cond (decide (i1<((nth (t:=(Ty.sl TVS)) ahead s.2.1).length:Int))) ((0<=i1)/\(i1<((nth (t:=(Ty.sl TVS)) ahead s.2.1).length:Int))/\(Sm TVS (nth (t:=TVS) (nth (t:=(Ty.sl TVS)) ahead s.2.1) i1))/\(Sm TPS s.2.2.2.2.1)/\(M.fR (nth (t:=TVS) (nth (t:=(Ty.sl TVS)) ahead s.2.1) i1).length s.2.2.2.2.1)/\cond (M.holds (nth (t:=TVS) (nth (t:=(Ty.sl TVS)) ahead s.2.1) i1) s.2.2.2.2.1) (((v1.length+[(nth (t:=TVS) (nth (t:=(Ty.sl TVS)) ahead s.2.1) i1)].length) * 24<=lim)/\(nxT (LP112_1 s tables ahead) m K (s112_1 s tables ahead (wrap64 (i1+Z1)) (v1++[(nth (t:=TVS) (nth (t:=(Ty.sl TVS)) ahead s.2.1) i1)])))) (nxT (LP112_1 s tables ahead) m K (s112_1 s tables ahead (wrap64 (i1+Z1)) v1))) (K (.exit 1) (⟨[(7,.own 7 none)],[(7,.arr false TVS v1)]⟩:St))):=by kernel_rfl
theorem lvc112_1 (s:ah.D) (tables:LTb) (ahead:(List (List LV)))  (i3:Int) (v3:(List LV)) (m:Nat) (K:KX):lvT C112 (L112 s tables ahead) ann112 f112 1 3 (s112_3 s tables ahead i3 v3) m K =
 (cond (decide (i3<((nth (t:=(Ty.sl TVS)) ahead s.2.1).length:Int))) ((0<=i3)/\(i3<((nth (t:=(Ty.sl TVS)) ahead s.2.1).length:Int))/\(Sm TVS (nth (t:=TVS) (nth (t:=(Ty.sl TVS)) ahead s.2.1) i3))/\(Sm (Ty.sl aD) s.2.2.2.2.2.1)/\(M.Bn (nth (t:=TVS) (nth (t:=(Ty.sl TVS)) ahead s.2.1) i3) s.2.2.2.2.2.1)/\(∀r3:LV,r3=(M.taken (nth (t:=TVS) (nth (t:=(Ty.sl TVS)) ahead s.2.1) i3) s.2.2.2.2.2.1)->((v3.length+[r3].length) * 24<=lim)/\(nxT (LP112_3 s tables ahead) m K (s112_3 s tables ahead (wrap64 (i3+Z1)) (v3++[r3]))))) (K (.exit 3) (⟨[(7,.own 7 none)],[(7,.arr false TVS v3)]⟩:St))):=by kernel_rfl
theorem lvc112_2 (s:ah.D) (tables:LTb) (ahead:(List (List LV)))  (i5:Int) (v5:(List LV)) (m:Nat) (K:KX):lvT C112 (L112 s tables ahead) ann112 f112 2 5 (s112_5 s tables ahead i5 v5) m K =
 (cond (decide (i5<((nth (t:=(Ty.sl TVS)) ahead s.2.1).length:Int))) ((0<=i5)/\(i5<((nth (t:=(Ty.sl TVS)) ahead s.2.1).length:Int))/\(0<=s.2.2.1)/\(s.2.2.1<(ahead.length:Int))/\(∃m_,∃c7_0:LV,∃c7_1:Int,(Sm TVS c7_0/\True)/\bI (t:=TVS) (s112_7 s tables ahead c7_0 c7_1) (nth (t:=(Ty.sl TVS)) ahead s.2.2.1) (F.gw s tables ahead c7_0 c7_1) (fun v7:(List LV)=>True) (aW (fun v7:(List LV)=>True->(nxT (LP112_5 s tables ahead) m K (s112_5 s tables ahead (wrap64 (c7_1+Z1)) v7))) (fun _=>False)) m_ (s112_7 s tables ahead (nth (t:=TVS) (nth (t:=(Ty.sl TVS)) ahead s.2.1) i5) i5 Z0 v5))) (K (.exit 5) (⟨[(7,.own 7 none)],[(7,.arr false TVS v5)]⟩:St))):=by kernel_rfl
theorem lvc112_3 (s:ah.D) (tables:LTb) (ahead:(List (List LV))) (c7_0:LV) (c7_1:Int) (i7:Int) (v7:(List LV)) (m:Nat) (K:KX):lvT C112 (L112 s tables ahead) ann112 f112 3 7 (s112_7 s tables ahead c7_0 c7_1 i7 v7) m K =
 (cond (decide (i7<((nth (t:=(Ty.sl TVS)) ahead s.2.2.1).length:Int))) ((0<=i7)/\(i7<((nth (t:=(Ty.sl TVS)) ahead s.2.2.1).length:Int))/\(Sm TVS c7_0)/\(Sm TVS (nth (t:=TVS) (nth (t:=(Ty.sl TVS)) ahead s.2.2.1) i7))/\(c7_0.length+(nth (t:=TVS) (nth (t:=(Ty.sl TVS)) ahead s.2.2.1) i7).length<=1048576)/\(∀r4:LV,r4=(c7_0++(nth (t:=TVS) (nth (t:=(Ty.sl TVS)) ahead s.2.2.1) i7))->(Sm TVS (aj r4 (some (Z0,(r4.length:Int)))))/\(Sm TPS s.2.2.2.2.1)/\(M.fR (aj r4 (some (Z0,(r4.length:Int)))).length s.2.2.2.2.1)/\cond (M.holds (aj r4 (some (Z0,(r4.length:Int)))) s.2.2.2.2.1) (((v7.length+[(aj r4 (some (Z0,(r4.length:Int))))].length) * 24<=lim)/\(nxT (LP112_7 s tables ahead) m K (s112_7 s tables ahead c7_0 c7_1 (wrap64 (i7+Z1)) (v7++[(aj r4 (some (Z0,(r4.length:Int))))])))) (nxT (LP112_7 s tables ahead) m K (s112_7 s tables ahead c7_0 c7_1 (wrap64 (i7+Z1)) v7)))) (K (.exit 7) (⟨[(2,.brw (Ty.sl TVS) ahead),(3,.adr ah s),(7,.own 7 none),(74,.data (Ty.sl TVS) (nth (t:=(Ty.sl TVS)) ahead s.2.1)),(75,dI ((nth (t:=(Ty.sl TVS)) ahead s.2.1).length:Int)),(76,dI c7_1)],[(7,.arr false TVS v7)]⟩:St))):=by kernel_rfl
theorem con112_ok:br P 112 c112:=bw C112 func112 (kC con87_ok (kC con158_ok (kC con159_ok (kC con160_ok (kC con161_ok kN))))) fun args hp K h0=>by
 obtain⟨s,tables,ahead,rfl,rfl,h_s,h_tables,h_ahead,p0,hK⟩:=g3e h0
 have h:ok (F.mS s tables ahead) (fun r=>K (.data (Ty.sl TVS) r) []):=aC (F.uj s tables ahead h_s h_tables h_ahead p0) (hK _ rfl)
 refine⟨rfl,ann112,(L112 s tables ahead),(.dat (Ty.sl TVS)),(Fi (i0:=1) (i1:=3) (i2:=5) (i3:=7) (by kernel_rfl) ?_ ?_ ?_ ?_),?_⟩
 ·rintro _ _ K ⟨hc1,i1,v1,rfl,hl1,rfl,hv1,h⟩
  exact cast (lvc112_0 _ _ _ _ _ _ _).symm (aV (t:=TVS) hl1 h (fun ht1 h=>⟨hl1,⟨ht1,⟨(aL (aL h_ahead s.2.1) i1),⟨h_s.2.2.2.2.1,(oG h fun _ h=>(oC h (fun _ h=>(oG h fun _ h=>(aM (t:=TVS) (fun _ hm=>⟨hc1,hm⟩) _ rfl hl1 ht1 (bg (aL h_ahead s.2.1)) trivial h))) fun _ h=>(aM (t:=TVS) (fun _ hm=>⟨hc1,hm⟩) _ rfl hl1 ht1 (bg (aL h_ahead s.2.1)) trivial h)))⟩⟩⟩⟩) fun h=>(h trivial))
 ·rintro _ _ K ⟨hc3,i3,v3,rfl,hl3,rfl,hv3,h⟩
  exact cast (lvc112_1 _ _ _ _ _ _ _).symm (aV (t:=TVS) hl3 h (fun ht3 h=>⟨hl3,⟨ht3,⟨(aL (aL h_ahead s.2.1) i3),⟨h_s.2.2.2.2.2.1,(oG h fun _ h=>(oL h fun _ _ h=>(oG h fun _ h=>(aM (t:=TVS) (fun _ hm=>⟨hc3,hm⟩) _ rfl hl3 ht3 (bg (aL h_ahead s.2.1)) trivial h))))⟩⟩⟩⟩) fun h=>(h trivial))
 ·rintro _ _ K ⟨hc5,i5,v5,rfl,hl5,rfl,hv5,h⟩
  exact cast (lvc112_2 _ _ _ _ _ _ _).symm (bV h (fun ht5 h=>⟨hl5,⟨ht5,(oG h fun _ h=>(oG h fun _ h=>(aQ (t:=TVS) (fun m hm=>⟨(nth (t:=TVS) (nth (t:=(Ty.sl TVS)) ahead s.2.1) i5),i5,⟨(aL (aL h_ahead s.2.1) i5),trivial⟩,hm⟩) _ rfl trivial (aP h (fun v7 h hv7=>(aU (fun _ hm=>⟨hc5,hm⟩) _ rfl hl5 gb ht5 (bg (aL h_ahead s.2.1)) trivial h)) (fun _ h=>h.elim)))))⟩⟩) fun h=>(h trivial))
 ·rintro _ _ K ⟨c7_0,c7_1,hc7,i7,v7,rfl,hl7,rfl,hv7,h⟩
  exact cast (lvc112_3 _ _ _ _ _ _ _ _ _).symm (aV (t:=TVS) hl7 h (fun ht7 h=>⟨hl7,⟨ht7,⟨hc7.1,⟨(aL (aL h_ahead s.2.2.1) i7),(oG h fun _ h=>(oL h fun _ _ h=>(oG h fun _ h=>⟨h_s.2.2.2.2.1,(oG h fun _ h=>(oC h (fun _ h=>(oG h fun _ h=>(aM (t:=TVS) (fun _ hm=>⟨c7_0,c7_1,hc7,hm⟩) _ rfl hl7 ht7 (bg (aL h_ahead s.2.2.1)) trivial h))) fun _ h=>(aM (t:=TVS) (fun _ hm=>⟨c7_0,c7_1,hc7,hm⟩) _ rfl hl7 ht7 (bg (aL h_ahead s.2.2.1)) trivial h)))⟩)))⟩⟩⟩⟩) fun h=>(h trivial))
 ·rw[vc112]
  exact(oC h (fun _ h=>(oG h fun _ h=>(oG h fun _ h=>h))) fun _ h=>(oC h (fun _ h=>(oG h fun _ h=>(oG h fun _ h=>(aQ (t:=TVS) (fun m hm=>⟨trivial,hm⟩) _ rfl trivial (aP h (fun v1 h hv1=>h) (fun _ h=>h.elim)))))) fun _ h=>(oC h (fun _ h=>(oG h fun _ h=>(oG h fun _ h=>(aQ (t:=TVS) (fun m hm=>⟨trivial,hm⟩) _ rfl trivial (aP h (fun v3 h hv3=>h) (fun _ h=>h.elim)))))) fun _ h=>(oC h (fun _ h=>(oG h fun _ h=>(oG h fun _ h=>(bJ (fun m hm=>⟨trivial,hm⟩) Z0 _ rfl (Int.natCast_nonneg 0) trivial (aP h (fun v5 h hv5=>h) (fun _ h=>h.elim)))))) fun _ h=>(oC h (fun _ h=>(oG h fun _ h=>(oG h fun _ h=>(oG h fun _ h=>(oG h fun _ h=>(oG h fun _ h=>(oL h fun _ _ h=>h))))))) fun _ h=>(oC h (fun _ h=>(oG h fun _ h=>(oG h fun _ h=>⟨(aL h_ahead s.2.1),(oL h fun _ _ h=>h)⟩))) fun _ h=>h))))))
def c61:Con:=⟨[.dat TTb,.dat TSS],fun args hp K=>g2 (pD TTb) (pD TSS) (fun tables plan=>(Sm TTb tables)/\(Sm TSS plan)/\(M.bB tables plan=true)/\(∀r:(List LV),r=(M.cw tables plan)->K (.clp 0 (r.length:Int)) [(0,.arr true TVS r)])) args hp,.bor,false⟩
@[reducible] def C61:Ctx:=cx [(112,c112),(113,c113)] 29 [] 0 true
def ann61:=an [[kp 3],[.weak 5,kp 35],[kp 1825],[kp 3873],[.fixRow 7 ah,kp 1953],[kp 1825],[kp 1825],[kp 16]] [[kp 32]]
@[reducible] def s61_0 (tables:LTb) (plan:LS) (i0:Int) (v0:(List (List LV))):St:=⟨[(0,.data TTb tables),(5,.own 5 none),(8,.data TSS plan),(9,dI (plan.length:Int)),(10,dI i0)],[(5,.arr false (Ty.sl TVS) v0)]⟩
@[reducible] def LP61_0 (tables:LTb) (plan:LS) (m:Nat) (st_:St) (K:KX):Prop:=True/\bI (t:=ah) (s61_0 tables plan) plan (F.fB tables plan) (fun v0:(List (List LV))=>True) (aW (fun v0:(List (List LV))=>True->K (.exit 0) (⟨[(5,.own 5 none)],[(5,.arr false (Ty.sl TVS) v0)]⟩:St)) (fun _=>False)) m st_
def L61 (tables:LTb) (plan:LS):bC:=lp1 0 (LP61_0 tables plan)
theorem vc61 (tables:LTb) (plan:LS) (K:KA):vcT C61 (L61 tables plan) ann61 f61 [.data TTb tables,.data TSS plan] [] .raw K =
 (∃m_,True/\bI (t:=ah) (s61_0 tables plan) plan (F.fB tables plan) (fun v0:(List (List LV))=>True) (aW (fun v0:(List (List LV))=>True->(0<=wrap64 ((v0.length:Int)-Z1))/\(wrap64 ((v0.length:Int)-Z1)<(v0.length:Int))/\(Sm (Ty.sl TVS) (nth (t:=(Ty.sl TVS)) v0 (wrap64 ((v0.length:Int)-Z1))))/\(∀r1:(List LV),r1=(nth (t:=(Ty.sl TVS)) v0 (wrap64 ((v0.length:Int)-Z1)))->K (.clp 0 ((r1.take (r1.length:Int).toNat).length:Int)) [(0,.arr true TVS (r1.take (r1.length:Int).toNat))])) (fun _=>False)) m_ (s61_0 tables plan Z0 [])):=by kernel_rfl
theorem lvc61_0 (tables:LTb) (plan:LS)  (i0:Int) (v0:(List (List LV))) (m:Nat) (K:KX):lvT C61 (L61 tables plan) ann61 f61 0 0 (s61_0 tables plan i0 v0) m K =
 (cond (decide (i0<(plan.length:Int))) ((0<=i0)/\(i0<(plan.length:Int))/\(Sm ah (nS plan i0))/\(Sm TTb tables)/\(Sm (Ty.sl (Ty.sl TVS)) v0)/\(M.rQ tables v0 (nS plan i0))/\(∀r2:(List LV),r2=(M.bQ tables v0 (nS plan i0))->((v0.length+[r2].length) * 24<=lim)/\(nxT (LP61_0 tables plan) m K (s61_0 tables plan (wrap64 (i0+Z1)) (v0++[r2]))))) (K (.exit 0) (⟨[(5,.own 5 none)],[(5,.arr false (Ty.sl TVS) v0)]⟩:St))):=by kernel_rfl
theorem con61_ok:br P 61 c61:=bw C61 func61 (kC con112_ok (kC con113_ok kN)) fun args hp K h0=>by
 obtain⟨tables,plan,rfl,rfl,h_tables,h_plan,p0,hK⟩:=g2e h0
 have h:ok (F.nU tables plan) (fun r=>K (.clp 0 (r.length:Int)) [(0,.arr true TVS r)]):=aC (F.vD tables plan h_tables h_plan p0) (hK _ rfl)
 refine⟨rfl,ann61,(L61 tables plan),.raw,(bH (i0:=0) (by kernel_rfl) ?_),?_⟩
 ·rintro _ _ K ⟨hc0,i0,v0,rfl,hl0,rfl,hv0,h⟩
  exact cast (lvc61_0 _ _ _ _ _ _).symm (aV (t:=ah) hl0 h (fun ht0 h=>⟨hl0,⟨ht0,⟨(aL h_plan i0),⟨h_tables,(oG h fun _ h=>(oG h fun _ h=>(oL h fun _ _ h=>(oG h fun _ h=>(aM (t:=ah) (fun _ hm=>⟨hc0,hm⟩) _ rfl hl0 ht0 (bg h_plan) trivial h)))))⟩⟩⟩⟩) fun h=>(h trivial))
 ·rw[vc61]
  exact(aQ (t:=ah) (fun m hm=>⟨trivial,hm⟩) _ rfl trivial (aP h (fun v0 h hv0=>(oG h fun _ h=>(oG h fun _ h=>(oG h fun _ h=>(oL h fun _ _ h=>h))))) (fun _ h=>h.elim)))
def c22:Con:=⟨[.dat TTb,.dat TSS],fun args hp K=>g2 (pD TTb) (pD TSS) (fun tables plan=>(Sm TTb tables)/\(Sm TSS plan)/\(∀r:(List LV),r=(M.cw tables plan)->K (.clp 0 (r.length:Int)) [(0,.arr true TVS r)])) args hp,.bor,false⟩
@[reducible] def C22:Ctx:=cx [(20,c20),(61,c61)] 12 [] 0 true
def ann22:=an [[kp 3],[kp 259],[.clip 4,kp 16],[kp 16]] []
theorem vc22 (tables:LTb) (plan:LS) (K:KA):vcT C22 aE ann22 f22 [.data TTb tables,.data TSS plan] [] .raw K =
 ((Sm TTb tables)/\(Sm TSS plan)/\cond (!(M.bB tables plan)) (K (.clp 0 (([]:List TVS.D).length:Int)) [(0,.arr true TVS ([]:List TVS.D))]) ((Sm TTb tables)/\(Sm TSS plan)/\(M.bB tables plan=true)/\(∀r1:(List LV),r1=(M.cw tables plan)->K (.clp 0 ((r1.take (r1.length:Int).toNat).length:Int)) [(0,.arr true TVS (r1.take (r1.length:Int).toNat))]))):=by kernel_rfl
theorem con22_ok:br P 22 c22:=bw C22 func22 (kC con20_ok (kC con61_ok kN)) fun args hp K h0=>by
 obtain⟨tables,plan,rfl,rfl,h_tables,h_plan,hK⟩:=g2e h0
 have h:ok (F.nL tables plan) (fun r=>K (.clp 0 (r.length:Int)) [(0,.arr true TVS r)]):=aC (F.wz tables plan h_tables h_plan) (hK _ rfl)
 refine⟨rfl,ann22,aE,.raw,(aK (by kernel_rfl)),?_⟩
 ·rw[vc22]
  exact⟨h_tables,⟨h_plan,(oC h (fun _ h=>h) fun b_1 h=>⟨h_tables,⟨h_plan,⟨(bnf b_1),(oL h fun _ _ h=>h)⟩⟩⟩)⟩⟩
def c69:Con:=⟨[.dat aD,.dat aD,.dat aD],fun args hp K=>g3 (pD aD) (pD aD) (pD aD) (fun n low high=>K (dB (M.inR n low high)) []) args hp,.plain,false⟩
@[reducible] def C69:Ctx:=cx [] 15 [] 0 false
def ann69:=an [[kp 7],[kp 64]] []
theorem vc69 (n:Int) (low:Int) (high:Int) (K:KA):vcT C69 aE ann69 f69 [dI n,dI low,dI high] [] (.dat Ty.bool) K =
 (cond ((decide (low<=n))==true) (K (dB (decide (n<=high))) []) (K (dB false) [])):=by kernel_rfl
theorem con69_ok:br P 69 c69:=bw C69 func69 kN fun args hp K h0=>by
 obtain⟨n,low,high,rfl,rfl,hK⟩:=g3e h0
 have h:ok (F.vO n low high) (fun r=>K (dB r) []):=aC (F.BT n low high) hK
 refine⟨rfl,ann69,aE,(.dat Ty.bool),(aK (by kernel_rfl)),?_⟩
 ·rw[vc69]
  exact(oC h (fun _ h=>h) fun _ h=>h)
def c94:Con:=⟨[.dat TCS],fun args hp K=>g1 (pD TCS) (fun columns=>(Sm TCS columns)/\K (dB (M.bA columns)) []) args hp,.plain,false⟩
@[reducible] def C94:Ctx:=cx [(69,c69)] 20 [] 0 false
def ann94:=an [[kp 1],[kp 9],[kp 137],[kp 9],[kp 65545],[kp 4],[kp 4]] [[kp 1]]
@[reducible] def s94_0 (columns:LC) (i0:Int) (v0:Unit):St:=⟨[(0,.data TCS columns),(3,dI i0)],[]⟩
@[reducible] def LP94_0 (columns:LC) (m:Nat) (st_:St) (K:KX):Prop:=True/\bI (t:=ag) (s94_0 columns) columns (F.gr columns) (fun v0:Unit=>True) (aW (fun v0:Unit=>True->K (.exit 0) (⟨[(0,.data TCS columns)],[]⟩:St)) (fun q0:Unit=>K .ret (⟨[(2,dB false)],[]⟩:St))) m st_
def L94 (columns:LC):bC:=lp1 0 (LP94_0 columns)
theorem vc94 (columns:LC) (K:KA):vcT C94 (L94 columns) ann94 f94 [.data TCS columns] [] (.dat Ty.bool) K =
 (∃m_,True/\bI (t:=ag) (s94_0 columns) columns (F.gr columns) (fun v0:Unit=>True) (aW (fun v0:Unit=>True->K (dB (decide ((columns.length:Int)<=Z4))) []) (fun q0:Unit=>K (dB false) [])) m_ (s94_0 columns Z0 ())):=by kernel_rfl
theorem lvc94_0 (columns:LC)  (i0:Int) (v0:Unit) (m:Nat) (K:KX):lvT C94 (L94 columns) ann94 f94 0 0 (s94_0 columns i0 v0) m K =
 (cond (decide (i0<(columns.length:Int))) ((0<=i0)/\(i0<(columns.length:Int))/\cond (!(M.inR (nC columns i0).1 Z1 Z3)) (K .ret (⟨[(2,dB false)],[]⟩:St)) (nxT (LP94_0 columns) m K (s94_0 columns (wrap64 (i0+Z1)) ()))) (K (.exit 0) (⟨[(0,.data TCS columns)],[]⟩:St))):=by kernel_rfl
theorem con94_ok:br P 94 c94:=bw C94 func94 (kC con69_ok kN) fun args hp K h0=>by
 obtain⟨columns,rfl,rfl,h_columns,hK⟩:=g1e h0
 have h:ok (F.mB columns) (fun r=>K (dB r) []):=aC (F.uJ columns h_columns) hK
 refine⟨rfl,ann94,(L94 columns),(.dat Ty.bool),(bH (i0:=0) (by kernel_rfl) ?_),?_⟩
 ·rintro _ _ K ⟨hc0,i0,v0,rfl,hl0,rfl,hv0,h⟩
  exact cast (lvc94_0 _ _ _ _ _).symm (aV (t:=ag) hl0 h (fun ht0 h=>⟨hl0,⟨ht0,(oC h (fun _ h=>h) fun _ h=>(aM (t:=ag) (fun _ hm=>⟨hc0,hm⟩) _ rfl hl0 ht0 (bg h_columns) trivial h))⟩⟩) fun h=>(h trivial))
 ·rw[vc94]
  exact(aQ (t:=ag) (fun m hm=>⟨trivial,hm⟩) _ rfl trivial (aP h (fun v0 h hv0=>h) (fun q0 h=>h)))
def c180:Con:=⟨[.dat Ty.str],fun args hp K=>g1 (pD Ty.str) (fun s=>(Sm Ty.str s)/\K (dB (M.text s)) []) args hp,.plain,false⟩
@[reducible] def C180:Ctx:=cx [] 23 [] 0 false
def ann180:=an [[kp 1],[kp 9],[kp 137],[kp 9],[kp 524297],[kp 4],[kp 4]] [[kp 1]]
@[reducible] def s180_0 (s:ByteArray) (i0:Int) (v0:Unit):St:=⟨[(0,.data Ty.str s),(3,dI i0)],[]⟩
@[reducible] def LP180_0 (s:ByteArray) (m:Nat) (st_:St) (K:KX):Prop:=True/\cJ (s180_0 s) Z0 (s.size:Int) (F.jB s) (fun v0:Unit=>True) (aW (fun v0:Unit=>True->K (.exit 0) (⟨[(0,.data Ty.str s)],[]⟩:St)) (fun q0:Unit=>K .ret (⟨[(2,dB false)],[]⟩:St))) m st_
def L180 (s:ByteArray):bC:=lp1 0 (LP180_0 s)
theorem vc180 (s:ByteArray) (K:KA):vcT C180 (L180 s) ann180 f180 [.data Ty.str s] [] (.dat Ty.bool) K =
 (∃m_,True/\cJ (s180_0 s) Z0 (s.size:Int) (F.jB s) (fun v0:Unit=>True) (aW (fun v0:Unit=>True->K (dB (decide ((s.size:Int)<=Z6))) []) (fun q0:Unit=>K (dB false) [])) m_ (s180_0 s Z0 ())):=by kernel_rfl
theorem lvc180_0 (s:ByteArray)  (i0:Int) (v0:Unit) (m:Nat) (K:KX):lvT C180 (L180 s) ann180 f180 0 0 (s180_0 s i0 v0) m K =
 (cond (decide (i0<(s.size:Int))) ((0<=i0)/\(i0<(s.size:Int))/\cond ((decide (((s.get! i0.toNat).toNat:Int)<(97:Int)))==false) ((0<=i0)/\(i0<(s.size:Int))/\cond (decide ((122:Int)<((s.get! i0.toNat).toNat:Int))) (K .ret (⟨[(2,dB false)],[]⟩:St)) (nxT (LP180_0 s) m K (s180_0 s (wrap64 (i0+Z1)) ()))) (K .ret (⟨[(2,dB false)],[]⟩:St))) (K (.exit 0) (⟨[(0,.data Ty.str s)],[]⟩:St))):=by kernel_rfl
theorem con180_ok:br P 180 c180:=bw C180 func180 kN fun args hp K h0=>by
 obtain⟨s,rfl,rfl,h_s,hK⟩:=g1e h0
 have h:ok (F.rz s) (fun r=>K (dB r) []):=aC (F.yq s h_s) hK
 refine⟨rfl,ann180,(L180 s),(.dat Ty.bool),(bH (i0:=0) (by kernel_rfl) ?_),?_⟩
 ·rintro _ _ K ⟨hc0,i0,v0,rfl,hl0,rfl,hv0,h⟩
  exact cast (lvc180_0 _ _ _ _ _).symm (bV h (fun ht0 h=>⟨hl0,⟨ht0,(oC h (fun _ h=>⟨hl0,⟨ht0,(oC h (fun _ h=>h) fun _ h=>(aU (fun _ hm=>⟨hc0,hm⟩) _ rfl hl0 gb ht0 (Iq h_s) trivial h))⟩⟩) fun _ h=>h)⟩⟩) fun h=>(h trivial))
 ·rw[vc180]
  exact(bJ (fun m hm=>⟨trivial,hm⟩) Z0 _ rfl (Int.natCast_nonneg 0) trivial (aP h (fun v0 h hv0=>h) (fun q0 h=>h)))
def c137:Con:=⟨[.dat aa],fun args hp K=>g1 (pD aa) (fun v=>(Sm aa v)/\K (dB (M.aS v)) []) args hp,.plain,false⟩
@[reducible] def C137:Ctx:=cx [(69,c69),(180,c180)] 45 [] 0 false
def ann137:=an [[.fixRow 1 aa,kp 2],[kp 18],[kp 50],[kp 4],[kp 32786],[kp 4],[kp 33554450],[kp 4],[.keep [1,35]],[kp 4],[kp 4]] []
theorem vc137 (v:aa.D) (K:KA):vcT C137 aE ann137 f137 [.data aa v] [] (.dat Ty.bool) K =
 (cond (decide (v.1=Z0)) (cond ((decide (v.2.1=Z0))==true) (K (dB (decide (v.2.2.1=(⟨#[]⟩:ByteArray)))) []) (K (dB false) [])) (cond (decide (v.1=Z1)) (cond ((M.inR v.2.1 (-9999:Int) (9999:Int))==true) (K (dB (decide (v.2.2.1=(⟨#[]⟩:ByteArray)))) []) (K (dB false) [])) (cond (decide (v.1=Z2)) (cond ((decide (v.2.1=Z0))==true) ((Sm Ty.str v.2.2.1)/\K (dB (M.text v.2.2.1)) []) (K (dB false) [])) (cond (decide (v.1=Z3)) (cond ((M.inR v.2.1 Z0 Z1)==true) (K (dB (decide (v.2.2.1=(⟨#[]⟩:ByteArray)))) []) (K (dB false) [])) (K (dB false) []))))):=by kernel_rfl
theorem con137_ok:br P 137 c137:=bw C137 func137 (kC con69_ok (kC con180_ok kN)) fun args hp K h0=>by
 obtain⟨v,rfl,rfl,h_v,hK⟩:=g1e h0
 have h:ok (F.pE v) (fun r=>K (dB r) []):=aC (F.xV v h_v) hK
 refine⟨rfl,ann137,aE,(.dat Ty.bool),(aK (by kernel_rfl)),?_⟩
 ·rw[vc137]
  exact(oC h (fun _ h=>(oC h (fun _ h=>h) fun _ h=>h)) fun _ h=>(oC h (fun _ h=>(oC h (fun _ h=>h) fun _ h=>h)) fun _ h=>(oC h (fun _ h=>(oC h (fun _ h=>⟨h_v.2.2.1,h⟩) fun _ h=>h)) fun _ h=>(oC h (fun _ h=>(oC h (fun _ h=>h) fun _ h=>h)) fun _ h=>h))))
def c95:Con:=⟨[.dat TCS,.mv,.dat ax],fun args hp K=>hpN 0 false aD (fun kinds=>zz (fun a0 a1 a2=>fI TCS a0 fun columns=>HD 0 a1 (fI ax a2 fun p=>(Sm TCS columns)/\(Sm (Ty.sl aD) kinds)/\(Sm ax p)/\(kinds.length<=1000)/\(∀r:(List Int)×Bool,r=(M.vJ columns kinds p)->K (.tup [.own 0 none,dB r.2]) [(0,.arr false aD r.1)]))) args []) hp,.mv,false⟩
@[reducible] def C95:Ctx:=cx [(69,c69),(137,c137)] 191 [] 0 true
def ann95:=an [[.fixRow 5 ax,kp 35],[kp 291],[kp 137438953763],[kp 192],[kp 1099511628067],[kp 3298534883619],[.keep [1,5,52]],[kp 192],[kp 192],[kp 1152922604118475043],[.keep [0,1,5,68]],[kp 192],[kp 192],[.keep [1,5,8,40,79]],[kp 770],[kp 192],[.keep [1,5,8,40,107]],[kp 1282],[kp 192],[.keep [1,8,40,137]],[.keep [1,8,40,137]],[kp 2306],[kp 192],[.keep [1,8,40,166]],[kp 192],[.keep [1,8,179]],[kp 192],[kp 192]] []
@[reducible] def S95_0 (columns:LC) (kinds:(List Int)) (p:ax.D) (K:KA):Prop:=(0<=Z0)/\(Z0<=(bL (wrap64 ((kinds.length:Int)-Z2)) Z0))/\((bL (wrap64 ((kinds.length:Int)-Z2)) Z0)<=(kinds.length:Int))/\((bL (wrap64 ((kinds.length:Int)-Z2)) Z0)=(bL (wrap64 ((kinds.length:Int)-Z2)) Z0))/\(Z0=0)/\(((bL (wrap64 ((kinds.length:Int)-Z2)) Z0).toNat+[Z1].length) * 8<=lim)/\K (.tup [.own 0 none,dB false]) [(0,.arr false aD (kinds.take (bL (wrap64 ((kinds.length:Int)-Z2)) Z0).toNat++[Z1]))]
@[reducible] def S95_1 (columns:LC) (kinds:(List Int)) (p:ax.D) (K:KA):Prop:=(0<=Z0)/\(Z0<=(bL (wrap64 ((kinds.length:Int)-Z2)) Z0))/\((bL (wrap64 ((kinds.length:Int)-Z2)) Z0)<=(kinds.length:Int))/\((bL (wrap64 ((kinds.length:Int)-Z2)) Z0)=(bL (wrap64 ((kinds.length:Int)-Z2)) Z0))/\(Z0=0)/\(((bL (wrap64 ((kinds.length:Int)-Z2)) Z0).toNat+[Z3].length) * 8<=lim)/\K (.tup [.own 0 none,dB false]) [(0,.arr false aD (kinds.take (bL (wrap64 ((kinds.length:Int)-Z2)) Z0).toNat++[Z3]))]
@[reducible] def S95_2 (columns:LC) (kinds:(List Int)) (p:ax.D) (K:KA):Prop:=(S95_1 columns kinds p K)
@[reducible] def S95_3 (columns:LC) (kinds:(List Int)) (p:ax.D) (K:KA):Prop:=cond ((decide (Z1<(kinds.length:Int)))==true) ((0<=wrap64 ((kinds.length:Int)-Z1))/\(wrap64 ((kinds.length:Int)-Z1)<(kinds.length:Int))/\cond ((decide ((nI kinds (wrap64 ((kinds.length:Int)-Z1)))=Z3))==true) ((0<=wrap64 ((kinds.length:Int)-Z2))/\(wrap64 ((kinds.length:Int)-Z2)<(kinds.length:Int))/\(0<=Z0)/\(Z0<=(bL (wrap64 ((kinds.length:Int)-Z2)) Z0))/\((bL (wrap64 ((kinds.length:Int)-Z2)) Z0)<=(kinds.length:Int))/\((bL (wrap64 ((kinds.length:Int)-Z2)) Z0)=(bL (wrap64 ((kinds.length:Int)-Z2)) Z0))/\(Z0=0)/\(((bL (wrap64 ((kinds.length:Int)-Z2)) Z0).toNat+[Z3].length) * 8<=lim)/\K (.tup [.own 0 none,dB (decide ((nI kinds (wrap64 ((kinds.length:Int)-Z2)))=Z3))]) [(0,.arr false aD (kinds.take (bL (wrap64 ((kinds.length:Int)-Z2)) Z0).toNat++[Z3]))]) (S95_2 columns kinds p K)) (S95_2 columns kinds p K)
@[reducible] def S95_4 (columns:LC) (kinds:(List Int)) (p:ax.D) (K:KA):Prop:=cond (decide (p.1=(7:Int))) (cond ((decide (Z0<(kinds.length:Int)))==true) ((0<=wrap64 ((kinds.length:Int)-Z1))/\(wrap64 ((kinds.length:Int)-Z1)<(kinds.length:Int))/\K (.tup [.own 0 none,dB (decide ((nI kinds (wrap64 ((kinds.length:Int)-Z1)))=Z3))]) [(0,.arr false aD kinds)]) (K (.tup [.own 0 none,dB false]) [(0,.arr false aD kinds)])) (cond (decide (p.1=(8:Int))) ((0<=Z0)/\(Z0<=(bL (wrap64 ((kinds.length:Int)-Z1)) Z0))/\((bL (wrap64 ((kinds.length:Int)-Z1)) Z0)<=(kinds.length:Int))/\((bL (wrap64 ((kinds.length:Int)-Z1)) Z0)=(bL (wrap64 ((kinds.length:Int)-Z1)) Z0))/\(Z0=0)/\(((bL (wrap64 ((kinds.length:Int)-Z1)) Z0).toNat+[Z3].length) * 8<=lim)/\K (.tup [.own 0 none,dB (decide (Z0<(kinds.length:Int)))]) [(0,.arr false aD (kinds.take (bL (wrap64 ((kinds.length:Int)-Z1)) Z0).toNat++[Z3]))]) (K (.tup [.own 0 none,dB false]) [(0,.arr false aD kinds)]))
@[reducible] def S95_5 (columns:LC) (kinds:(List Int)) (p:ax.D) (K:KA):Prop:=cond (decide (p.1=Z1)) ((Sm aa p.2.2.1)/\cond ((!(M.aS p.2.2.1))==false) (cond (decide (p.2.2.1.1=Z0)) (K (.tup [.own 0 none,dB false]) [(0,.arr false aD kinds)]) (((kinds.length+[p.2.2.1.1].length) * 8<=lim)/\K (.tup [.own 0 none,dB true]) [(0,.arr false aD (kinds++[p.2.2.1.1]))])) (K (.tup [.own 0 none,dB false]) [(0,.arr false aD kinds)])) (cond (decide (p.1=Z2)) (cond (!(M.inR p.2.1 Z0 (wrap64 ((columns.length:Int)-Z1)))) (K (.tup [.own 0 none,dB false]) [(0,.arr false aD kinds)]) ((0<=p.2.1)/\(p.2.1<(columns.length:Int))/\((kinds.length+[(nC columns p.2.1).1].length) * 8<=lim)/\K (.tup [.own 0 none,dB true]) [(0,.arr false aD (kinds++[(nC columns p.2.1).1]))])) (cond (decide (p.1=Z3)) (cond ((decide (Z1<(kinds.length:Int)))==true) ((0<=wrap64 ((kinds.length:Int)-Z1))/\(wrap64 ((kinds.length:Int)-Z1)<(kinds.length:Int))/\cond ((decide ((nI kinds (wrap64 ((kinds.length:Int)-Z1)))=Z1))==true) ((0<=wrap64 ((kinds.length:Int)-Z2))/\(wrap64 ((kinds.length:Int)-Z2)<(kinds.length:Int))/\(0<=Z0)/\(Z0<=(bL (wrap64 ((kinds.length:Int)-Z2)) Z0))/\((bL (wrap64 ((kinds.length:Int)-Z2)) Z0)<=(kinds.length:Int))/\((bL (wrap64 ((kinds.length:Int)-Z2)) Z0)=(bL (wrap64 ((kinds.length:Int)-Z2)) Z0))/\(Z0=0)/\(((bL (wrap64 ((kinds.length:Int)-Z2)) Z0).toNat+[Z1].length) * 8<=lim)/\K (.tup [.own 0 none,dB (decide ((nI kinds (wrap64 ((kinds.length:Int)-Z2)))=Z1))]) [(0,.arr false aD (kinds.take (bL (wrap64 ((kinds.length:Int)-Z2)) Z0).toNat++[Z1]))]) (S95_0 columns kinds p K)) (S95_0 columns kinds p K)) (cond (decide (p.1=Z4)) (cond ((decide (Z1<(kinds.length:Int)))==true) ((0<=wrap64 ((kinds.length:Int)-Z1))/\(wrap64 ((kinds.length:Int)-Z1)<(kinds.length:Int))/\(0<=wrap64 ((kinds.length:Int)-Z2))/\(wrap64 ((kinds.length:Int)-Z2)<(kinds.length:Int))/\cond ((decide ((nI kinds (wrap64 ((kinds.length:Int)-Z1)))=(nI kinds (wrap64 ((kinds.length:Int)-Z2)))))==true) ((0<=Z0)/\(Z0<=(bL (wrap64 ((kinds.length:Int)-Z2)) Z0))/\((bL (wrap64 ((kinds.length:Int)-Z2)) Z0)<=(kinds.length:Int))/\((bL (wrap64 ((kinds.length:Int)-Z2)) Z0)=(bL (wrap64 ((kinds.length:Int)-Z2)) Z0))/\(Z0=0)/\(((bL (wrap64 ((kinds.length:Int)-Z2)) Z0).toNat+[Z3].length) * 8<=lim)/\K (.tup [.own 0 none,dB (M.inR p.2.1 Z1 Z4)]) [(0,.arr false aD (kinds.take (bL (wrap64 ((kinds.length:Int)-Z2)) Z0).toNat++[Z3]))]) (S95_2 columns kinds p K)) (S95_2 columns kinds p K)) (cond (decide (p.1=Z5)) (cond (decide (p.1=Z5)) (S95_3 columns kinds p K) (S95_4 columns kinds p K)) (cond (decide (p.1=Z6)) (S95_3 columns kinds p K) (S95_4 columns kinds p K))))))
@[reducible] def S95_6 (columns:LC) (kinds:(List Int)) (p:ax.D) (K:KA):Prop:=cond ((!decide (p.1=Z2))==true) (cond ((!decide (p.1=Z4))==true) (cond (!decide (p.2.1=Z0)) (K (.tup [.own 0 none,dB false]) [(0,.arr false aD kinds)]) (S95_5 columns kinds p K)) (S95_5 columns kinds p K)) (S95_5 columns kinds p K)
theorem vc95 (columns:LC) (kinds:(List Int)) (p:ax.D) (K:KA):vcT C95 aE ann95 f95 [.data TCS columns,.own 0 none,.data ax p] [(0,.arr false aD kinds)] .raw K =
 (cond ((!decide (p.1=Z1))==true) (cond ((!(Ty.beq aa p.2.2.1 (Z0,(Z0,((⟨#[]⟩:ByteArray),())))))==false) (S95_6 columns kinds p K) (K (.tup [.own 0 none,dB false]) [(0,.arr false aD kinds)])) (S95_6 columns kinds p K)):=by kernel_rfl
theorem con95_ok:br P 95 c95:=bw C95 func95 (kC con69_ok (kC con137_ok kN)) fun args hp K h0=>by
 unfold c95 at h0
 dsimp only at h0
 obtain⟨kinds,rfl,h00⟩:=Hv (n:=0) (d:=false) (t:=aD) h0
 obtain⟨a0,a1,a2,rfl,_,h1⟩:=mU h00
 obtain⟨columns,rfl,h2⟩:=bE h1
 obtain⟨rfl,h3⟩:=Ee h2
 obtain⟨p,rfl,h4⟩:=bE h3
 obtain⟨h_columns,h_kinds,h_p,p0,hK⟩:=h4
 have h:ok (F.kK columns kinds p) (fun r=>K (.tup [.own 0 none,dB r.2]) [(0,.arr false aD r.1)]):=aC (F.zv columns kinds p h_columns h_kinds h_p p0) (hK _ rfl)
 refine⟨rfl,ann95,aE,.raw,(aK (by kernel_rfl)),?_⟩
 ·rw[vc95]
  exact(oC h (fun b_1 h=>(oC h (fun _ h=>(oC h (fun b_3 h=>(oC h (fun b_4 h=>(oC h (fun _ h=>h) fun _ h=>(bf (bnt (bet b_1)) (bf (bnt (bet b_3)) (oC h (fun _ h=>(oC h (fun _ h=>(oG h fun _ h=>(oG h fun _ h=>(oC h (fun _ h=>(oG h fun _ h=>(oG h fun _ h=>⟨(Int.natCast_nonneg 0),(oG h fun _ h=>(oG h fun _ h=>⟨rfl,⟨rfl,(oG h fun _ h=>h)⟩⟩))⟩))) fun _ h=>⟨(Int.natCast_nonneg 0),(oG h fun _ h=>(oG h fun _ h=>⟨rfl,⟨rfl,(oG h fun _ h=>h)⟩⟩))⟩)))) fun _ h=>⟨(Int.natCast_nonneg 0),(oG h fun _ h=>(oG h fun _ h=>⟨rfl,⟨rfl,(oG h fun _ h=>h)⟩⟩))⟩)) fun _ h=>(bf (bnt (bet b_4)) (oC h (fun b_25 h=>(bM b_25 (oC h (fun _ h=>(oG h fun _ h=>(oG h fun _ h=>(oC h (fun _ h=>(oG h fun _ h=>(oG h fun _ h=>⟨(Int.natCast_nonneg 0),(oG h fun _ h=>(oG h fun _ h=>⟨rfl,⟨rfl,(oG h fun _ h=>h)⟩⟩))⟩))) fun _ h=>⟨(Int.natCast_nonneg 0),(oG h fun _ h=>(oG h fun _ h=>⟨rfl,⟨rfl,(oG h fun _ h=>h)⟩⟩))⟩)))) fun _ h=>⟨(Int.natCast_nonneg 0),(oG h fun _ h=>(oG h fun _ h=>⟨rfl,⟨rfl,(oG h fun _ h=>h)⟩⟩))⟩))) fun _ h=>(oC h (fun _ h=>(oC h (fun _ h=>(oG h fun _ h=>(oG h fun _ h=>(oC h (fun _ h=>(oG h fun _ h=>(oG h fun _ h=>⟨(Int.natCast_nonneg 0),(oG h fun _ h=>(oG h fun _ h=>⟨rfl,⟨rfl,(oG h fun _ h=>h)⟩⟩))⟩))) fun _ h=>⟨(Int.natCast_nonneg 0),(oG h fun _ h=>(oG h fun _ h=>⟨rfl,⟨rfl,(oG h fun _ h=>h)⟩⟩))⟩)))) fun _ h=>⟨(Int.natCast_nonneg 0),(oG h fun _ h=>(oG h fun _ h=>⟨rfl,⟨rfl,(oG h fun _ h=>h)⟩⟩))⟩)) fun _ h=>(oC h (fun _ h=>(oC h (fun _ h=>(oG h fun _ h=>(oG h fun _ h=>h))) fun _ h=>h)) fun _ h=>(oC h (fun _ h=>⟨(Int.natCast_nonneg 0),(oG h fun _ h=>(oG h fun _ h=>⟨rfl,⟨rfl,(oG h fun _ h=>h)⟩⟩))⟩) fun _ h=>h)))))))))) fun b_4 h=>(bf (bnt (bet b_1)) (bf (bnt (bet b_3)) (bf (aT (bnf (bef b_4)) (by decide)) (bM (bnf (bef b_4)) (oC h (fun _ h=>(oG h fun _ h=>(oG h fun _ h=>(oG h fun _ h=>(oG h fun _ h=>(oC h (fun _ h=>⟨(Int.natCast_nonneg 0),(oG h fun _ h=>(oG h fun _ h=>⟨rfl,⟨rfl,(oG h fun _ h=>h)⟩⟩))⟩) fun _ h=>⟨(Int.natCast_nonneg 0),(oG h fun _ h=>(oG h fun _ h=>⟨rfl,⟨rfl,(oG h fun _ h=>h)⟩⟩))⟩)))))) fun _ h=>⟨(Int.natCast_nonneg 0),(oG h fun _ h=>(oG h fun _ h=>⟨rfl,⟨rfl,(oG h fun _ h=>h)⟩⟩))⟩))))))) fun b_3 h=>(bf (bnt (bet b_1)) (bM (bnf (bef b_3)) (oC h (fun _ h=>h) fun b_110 h=>⟨(dP (bnf b_110)),⟨(iz (bnf b_110)),⟨(iV h_kinds (Ia trivial) rfl),h⟩⟩⟩))))) fun _ h=>h)) fun b_1 h=>(bM (uet (unt (aT (bnf (bef b_1)) (by decide)))) (bM (uet (unt (aT (bnf (bef b_1)) (by decide)))) (oC h (fun _ h=>h) fun _ h=>(bM (bnf (bef b_1)) ⟨h_p.2.2.1,(oC h (fun _ h=>(oC h (fun _ h=>h) fun _ h=>⟨(iV h_kinds (Ia trivial) rfl),h⟩)) fun _ h=>h)⟩)))))
def c46:Con:=⟨[.dat TCS,.dat TPS],fun args hp K=>g2 (pD TCS) (pD TPS) (fun columns e=>(Sm TCS columns)/\(Sm TPS e)/\K (dI (M.bu columns e)) []) args hp,.plain,false⟩
@[reducible] def C46:Ctx:=cx [(94,c94),(95,c95)] 46 [] 0 false
def ann46:=an [[kp 3],[kp 32771],[kp 16],[kp 35],[kp 99],[kp 227],[kp 8388835],[kp 227],[kp 227],[.keep [5,42]],[kp 16],[kp 16]] [[kp 96]]
@[reducible] def s46_0 (columns:LC) (e:LPt) (v0:Bool×Int×(List Int)):St:=⟨[(0,.data TCS columns),(1,.data TPS e),(5,.own 16 none),(6,dB v0.1),(7,dI v0.2.1)],[(16,.arr false aD v0.2.2)]⟩
@[reducible] def LP46_0 (columns:LC) (e:LPt) (m:Nat) (st_:St) (K:KX):Prop:=True/\ep (s46_0 columns e) (F.cY columns e) (fun v0:Bool×Int×(List Int)=>True) (fun e0:Bool×(List Int)=>True->K (.exit 0) (⟨[(5,.own 16 none),(6,dB e0.1)],[(16,.arr false aD e0.2)]⟩:St)) m st_
def L46 (columns:LC) (e:LPt):bC:=lp1 0 (LP46_0 columns e)
theorem vc46 (columns:LC) (e:LPt) (K:KA):vcT C46 (L46 columns e) ann46 f46 [.data TCS columns,.data TPS e] [] (.dat aD) K =
 ((Sm TCS columns)/\cond ((!(M.bA columns))==false) (cond (decide ((12:Int)<(e.length:Int))) (K (dI (-1:Int)) []) (∃m_,True/\ep (s46_0 columns e) (F.cY columns e) (fun v0:Bool×Int×(List Int)=>True) (fun e0:Bool×(List Int)=>True->cond ((!e0.1)==false) (cond (!decide ((e0.2.length:Int)=Z1)) (K (dI (-1:Int)) []) ((0<=Z0)/\(Z0<(e0.2.length:Int))/\K (dI (nI e0.2 Z0)) [])) (K (dI (-1:Int)) [])) m_ (s46_0 columns e (true,Z0,[])))) (K (dI (-1:Int)) [])):=by kernel_rfl
theorem lvc46_0 (columns:LC) (e:LPt)  (v0:Bool×Int×(List Int)) (m:Nat) (K:KX):lvT C46 (L46 columns e) ann46 f46 0 0 (s46_0 columns e v0) m K =
 (cond ((decide (v0.2.1<(e.length:Int)))==true) (cond v0.1 ((0<=v0.2.1)/\(v0.2.1<(e.length:Int))/\(Sm TCS columns)/\(Sm (Ty.sl aD) v0.2.2)/\(Sm ax (nP e v0.2.1))/\(v0.2.2.length<=1000)/\(∀r1:(List Int)×Bool,r1=(M.vJ columns v0.2.2 (nP e v0.2.1))->(nxT (LP46_0 columns e) m K (s46_0 columns e (r1.2,wrap64 (v0.2.1+Z1),r1.1))))) (K (.exit 0) (⟨[(5,.own 16 none),(6,dB v0.1)],[(16,.arr false aD v0.2.2)]⟩:St))) (K (.exit 0) (⟨[(5,.own 16 none),(6,dB v0.1)],[(16,.arr false aD v0.2.2)]⟩:St))):=by kernel_rfl
theorem con46_ok:br P 46 c46:=bw C46 func46 (kC con94_ok (kC con95_ok kN)) fun args hp K h0=>by
 obtain⟨columns,e,rfl,rfl,h_columns,h_e,hK⟩:=g2e h0
 have h:ok (F.oc columns e) (fun r=>K (dI r) []):=aC (F.vG columns e h_columns h_e) hK
 refine⟨rfl,ann46,(L46 columns e),(.dat aD),(bH (i0:=0) (by kernel_rfl) ?_),?_⟩
 ·rintro _ _ K ⟨hc0,v0,rfl,hv0,h⟩
  exact cast (lvc46_0 _ _ _ _ _).symm (cX h (fun m1 hm0 h=>(oC h (fun _ h=>(oC h (fun _ h=>(oG h fun _ h=>(oG h fun _ h=>⟨h_columns,(oG h fun _ h=>⟨(aL h_e v0.2.1),(oG h fun _ h=>(oL h fun _ _ h=>(bF (fun _ hm=>⟨hc0,hm⟩) hm0 _ rfl trivial h)))⟩)⟩))) fun _ h=>((cz h :) trivial))) fun _ h=>((cz h :) trivial))))
 ·rw[vc46]
  exact⟨h_columns,(oC h (fun _ h=>(oC h (fun _ h=>h) fun _ h=>(cu (fun m hm=>⟨trivial,hm⟩) _ rfl trivial (gU h (fun e0 h hv0=>(oC h (fun _ h=>(oC h (fun _ h=>h) fun _ h=>⟨(Int.natCast_nonneg 0),(oG h fun _ h=>h)⟩)) fun _ h=>h)))))) fun _ h=>h)⟩
def c177:Con:=⟨[.dat ah],fun args hp K=>g1 (pD ah) (fun s=>(Sm ah s)/\K (dB (M.cr s)) []) args hp,.plain,false⟩
@[reducible] def C177:Ctx:=cx [] 68 [] 0 false
def ann177:=an [[.fixRow 1 ah,kp 2],[kp 10],[kp 26],[kp 58],[kp 4]] []
@[reducible] def S177_0 (s:ah.D) (K:KA):Prop:=cond ((decide (s.1=Z3))==false) (K (dB (decide ((s.2.2.2.2.2.1.length:Int)=Z0))) []) (K (dB true) [])
@[reducible] def S177_1 (s:ah.D) (K:KA):Prop:=cond ((decide (s.1=Z4))==false) (cond ((decide ((s.2.2.2.2.1.length:Int)=Z0))==true) (S177_0 s K) (K (dB false) [])) (S177_0 s K)
@[reducible] def S177_2 (s:ah.D) (K:KA):Prop:=cond ((decide (s.1=Z1))==false) (cond ((decide (s.2.2.2.1=Z0))==true) (S177_1 s K) (K (dB false) [])) (S177_1 s K)
@[reducible] def S177_3 (s:ah.D) (K:KA):Prop:=cond ((decide (s.1=Z5))==false) (cond ((decide (s.2.2.1=Z0))==true) (S177_2 s K) (K (dB false) [])) (S177_2 s K)
@[reducible] def S177_4 (s:ah.D) (K:KA):Prop:=cond ((decide (s.1=Z1))==false) (cond ((decide (s.2.2.2.1=Z0))==true) (S177_0 s K) (K (dB false) [])) (S177_0 s K)
@[reducible] def S177_5 (s:ah.D) (K:KA):Prop:=cond ((decide (s.1=Z5))==false) (cond ((decide (s.2.2.1=Z0))==true) (S177_4 s K) (K (dB false) [])) (S177_4 s K)
theorem vc177 (s:ah.D) (K:KA):vcT C177 aE ann177 f177 [.data ah s] [] (.dat Ty.bool) K =
 (cond ((decide (s.1=Z4))==false) (cond ((decide (s.1=Z2))==false) (cond ((!(decide (s.1=Z1)))==false) (cond ((decide (s.2.1=Z0))==true) (S177_3 s K) (K (dB false) [])) (S177_3 s K)) (cond ((!(decide (s.1=Z1)))==false) (cond ((decide (s.2.1=Z0))==true) (S177_5 s K) (K (dB false) [])) (S177_5 s K))) (cond ((decide (s.1=Z2))==false) (cond ((!(decide (s.1=Z1)))==false) (cond ((decide (s.2.1=Z0))==true) (S177_2 s K) (K (dB false) [])) (S177_2 s K)) (cond ((!(decide (s.1=Z1)))==false) (cond ((decide (s.2.1=Z0))==true) (S177_4 s K) (K (dB false) [])) (S177_4 s K)))):=by kernel_rfl
theorem con177_ok:br P 177 c177:=bw C177 func177 kN fun args hp K h0=>by
 obtain⟨s,rfl,rfl,h_s,hK⟩:=g1e h0
 have h:ok (F.nX s) (fun r=>K (dB r) []):=aC (F.wA s h_s) hK
 refine⟨rfl,ann177,aE,(.dat Ty.bool),(aK (by kernel_rfl)),?_⟩
 ·rw[vc177]
  exact(oC h (fun b_1 h=>(oC h (fun _ h=>(oC h (fun b_3 h=>(oC h (fun _ h=>(bM (ugt (aT (bnf (bgt b_3)) (by decide))) (oC h (fun _ h=>(bf (ugf (bnf (bgt b_3))) (bM (ugt (bgt b_1)) (oC h (fun _ h=>(bM (ugt (aT (bnf (bgt b_3)) (by decide))) h)) fun _ h=>h)))) fun _ h=>h))) fun _ h=>h)) fun b_3 h=>(oC h (fun _ h=>(oC h (fun _ h=>(bM (ugt (bnt (bgf b_3))) (oC h (fun _ h=>(bM (ugt (bgt b_1)) (oC h (fun _ h=>(oC h (fun _ h=>h) fun _ h=>h)) fun _ h=>h))) fun _ h=>h))) fun _ h=>h)) fun b_27 h=>(bM (ugt (bnt (bgf b_3))) (oC h (fun _ h=>(bM (ugt (bgt b_1)) (oC h (fun _ h=>(bM (ugt (aT (bgf b_27) (by decide))) h)) fun _ h=>h))) fun _ h=>h))))) fun b_2 h=>(bf (ugf (unt (aT (bgf b_2) (by decide)))) (bM (ugt (aT (bgf b_2) (by decide))) (oC h (fun _ h=>(bM (ugt (aT (bgf b_2) (by decide))) (oC h (fun _ h=>(bM (ugt (aT (bgf b_2) (by decide))) h)) fun _ h=>h))) fun _ h=>h))))) fun b_1 h=>(bM (ugt (aT (bgf b_1) (by decide))) (bf (ugf (unt (aT (bgf b_1) (by decide)))) (bM (ugt (aT (bgf b_1) (by decide))) (oC h (fun _ h=>(bf (ugf (bgf b_1)) (bM (ugt (aT (bgf b_1) (by decide))) h))) fun _ h=>h)))))
def c119:Con:=⟨[.dat TTb,.lent TCS,.dat ah],fun args hp K=>g3 (pD TTb) (pB TCS) (pD ah) (fun tables ahead s=>(Sm TTb tables)/\(Sm (Ty.sl TCS) ahead)/\(Sm ah s)/\(∀r:LC×Bool,r=(M.fm tables ahead s)->K (.tup [.data TCS r.1,dB r.2]) [])) args hp,.plain,false⟩
@[reducible] def C119:Ctx:=cx [(46,c46),(69,c69),(177,c177)] 185 [] 0 false
def ann119:=an [[.fixRow 5 ah,kp 35],[kp 32803],[kp 192],[kp 524323],[kp 67108897],[kp 192],[kp 192],[.keep [1,5,51]],[kp 192],[kp 290],[.keep [1,5,8,61]],[kp 6917529027641082146],[kp 192],[.keep [1,5,8,61,70]],[kp 800],[kp 1824],[.keep [5,8,9,10,77]],[kp 1824],[.keep [5,8,9,10,89]],[kp 192],[kp 1824],[kp 192],[.keep [1,5,8,61,106]],[kp 2080],[kp 192],[.keep [1,5,8,61,126]],[.keep [1,5,8,136]],[kp 192],[kp 4386],[.keep [1,5,8,12,141]],[kp 4386],[.keep [1,5,8,12,158]],[kp 192],[kp 4386],[kp 192],[.keep [8,181]],[kp 192],[kp 192]] [[],[kp 512],[],[kp 256]]
@[reducible] def s119_1 (tables:LTb) (ahead:(List LC)) (s:ah.D) (i1:Int) (v1:LC):St:=⟨[(5,.adr ah s),(8,.own 53 none),(9,.own 72 none),(10,dI i1)],[(53,.arr false ag ([]++(nth (t:=TCS) ahead s.2.1))),(72,.arr false ag v1)]⟩
@[reducible] def LP119_1 (tables:LTb) (ahead:(List LC)) (s:ah.D) (m:Nat) (st_:St) (K:KX):Prop:=True/\bI (t:=aD) (s119_1 tables ahead s) s.2.2.2.2.2.1 (F.gD tables ahead s) (fun v1:LC=>True) (aW (fun v1:LC=>True->K (.exit 1) (⟨[(9,.own 72 none)],[(72,.arr false ag v1)]⟩:St)) (fun q1:Unit=>K .ret (⟨[(6,.own 90 none),(7,dB false)],[(90,.arr false ag [])]⟩:St))) m st_
@[reducible] def s119_3 (tables:LTb) (ahead:(List LC)) (s:ah.D) (v3:Int×LC):St:=⟨[(1,.brw TCS ahead),(5,.adr ah s),(8,.own 53 none),(12,dI v3.1)],[(53,.arr false ag v3.2)]⟩
@[reducible] def LP119_3 (tables:LTb) (ahead:(List LC)) (s:ah.D) (m:Nat) (st_:St) (K:KX):Prop:=True/\ep (s119_3 tables ahead s) (F.dS tables ahead s) (fun v3:Int×LC=>True) (aW (fun e3:LC=>True->K (.exit 3) (⟨[(8,.own 53 none)],[(53,.arr false ag e3)]⟩:St)) (fun q3:Unit=>K .ret (⟨[(6,.own 159 none),(7,dB false)],[(159,.arr false ag [])]⟩:St))) m st_
def L119 (tables:LTb) (ahead:(List LC)) (s:ah.D):bC:=lp2 1 (LP119_1 tables ahead s) 3 (LP119_3 tables ahead s)
theorem vc119 (tables:LTb) (ahead:(List LC)) (s:ah.D) (K:KA):vcT C119 (L119 tables ahead s) ann119 f119 [.data TTb tables,.brw TCS ahead,.data ah s] [] (.tup [TCS,Ty.bool]) K =
 ((Sm ah s)/\cond (!(M.cr s)) (K (.tup [.data TCS [],dB false]) []) (cond (decide (s.1=Z1)) (cond (!(M.inR s.2.2.2.1 Z0 (wrap64 ((tables.length:Int)-Z1)))) (K (.tup [.data TCS [],dB false]) []) ((0<=s.2.2.2.1)/\(s.2.2.2.1<(tables.length:Int))/\((([]:List ag.D).length+(nT tables s.2.2.2.1).1.length) * 16<=lim)/\K (.tup [.data TCS ([]++(nT tables s.2.2.2.1).1),dB true]) [])) (cond ((!(M.inR s.2.1 Z0 (wrap64 ((ahead.length:Int)-Z1))))==false) (cond (!(M.inR s.2.2.1 Z0 (wrap64 ((ahead.length:Int)-Z1)))) (K (.tup [.data TCS [],dB false]) []) ((0<=s.2.1)/\(s.2.1<(ahead.length:Int))/\((([]:List ag.D).length+(nth (t:=TCS) ahead s.2.1).length) * 16<=lim)/\cond (decide (s.1=Z2)) ((Sm TCS ([]++(nth (t:=TCS) ahead s.2.1)))/\(Sm TPS s.2.2.2.2.1)/\K (.tup [.data TCS ([]++(nth (t:=TCS) ahead s.2.1)),dB (decide ((M.bu ([]++(nth (t:=TCS) ahead s.2.1)) s.2.2.2.2.1)=Z3))]) []) (cond (decide (s.1=Z3)) (∃m_,True/\bI (t:=aD) (s119_1 tables ahead s) s.2.2.2.2.2.1 (F.gD tables ahead s) (fun v1:LC=>True) (aW (fun v1:LC=>True->K (.tup [.data TCS v1,dB (decide ((v1.length:Int)<=Z4))]) []) (fun q1:Unit=>K (.tup [.data TCS [],dB false]) [])) m_ (s119_1 tables ahead s Z0 [])) (cond (decide (s.1=Z4)) ((0<=s.2.2.1)/\(s.2.2.1<(ahead.length:Int))/\((([]++(nth (t:=TCS) ahead s.2.1)).length+(nth (t:=TCS) ahead s.2.2.1).length) * 16<=lim)/\cond ((decide (((([]++(nth (t:=TCS) ahead s.2.1))++(nth (t:=TCS) ahead s.2.2.1)).length:Int)<=Z4))==true) ((Sm TCS (([]++(nth (t:=TCS) ahead s.2.1))++(nth (t:=TCS) ahead s.2.2.1)))/\(Sm TPS s.2.2.2.2.1)/\K (.tup [.data TCS (([]++(nth (t:=TCS) ahead s.2.1))++(nth (t:=TCS) ahead s.2.2.1)),dB (decide ((M.bu (([]++(nth (t:=TCS) ahead s.2.1))++(nth (t:=TCS) ahead s.2.2.1)) s.2.2.2.2.1)=Z3))]) []) (K (.tup [.data TCS (([]++(nth (t:=TCS) ahead s.2.1))++(nth (t:=TCS) ahead s.2.2.1)),dB false]) [])) (cond (decide (s.1=Z5)) ((0<=s.2.2.1)/\(s.2.2.1<(ahead.length:Int))/\cond (!decide ((([]++(nth (t:=TCS) ahead s.2.1)).length:Int)=((nth (t:=TCS) ahead s.2.2.1).length:Int))) (K (.tup [.data TCS [],dB false]) []) (∃m_,True/\ep (s119_3 tables ahead s) (F.dS tables ahead s) (fun v3:Int×LC=>True) (aW (fun e3:LC=>True->K (.tup [.data TCS e3,dB true]) []) (fun q3:Unit=>K (.tup [.data TCS [],dB false]) [])) m_ (s119_3 tables ahead s (Z0,([]++(nth (t:=TCS) ahead s.2.1)))))) (cond (decide (s.1=Z6)) (K (.tup [.data TCS ([]++(nth (t:=TCS) ahead s.2.1)),dB true]) []) (K (.tup [.data TCS [],dB false]) []))))))) (K (.tup [.data TCS [],dB false]) [])))):=by kernel_rfl
theorem lvc119_0 (tables:LTb) (ahead:(List LC)) (s:ah.D)  (i1:Int) (v1:LC) (m:Nat) (K:KX):lvT C119 (L119 tables ahead s) ann119 f119 0 1 (s119_1 tables ahead s i1 v1) m K =
 (cond (decide (i1<(s.2.2.2.2.2.1.length:Int))) ((0<=i1)/\(i1<(s.2.2.2.2.2.1.length:Int))/\cond (!(M.inR (nI s.2.2.2.2.2.1 i1) Z0 (wrap64 ((([]++(nth (t:=TCS) ahead s.2.1)).length:Int)-Z1)))) (K .ret (⟨[(6,.own 90 none),(7,dB false)],[(90,.arr false ag [])]⟩:St)) ((0<=i1)/\(i1<(s.2.2.2.2.2.1.length:Int))/\(0<=(nI s.2.2.2.2.2.1 i1))/\((nI s.2.2.2.2.2.1 i1)<(([]++(nth (t:=TCS) ahead s.2.1)).length:Int))/\((v1.length+([(nC ([]++(nth (t:=TCS) ahead s.2.1)) (nI s.2.2.2.2.2.1 i1))]:List ag.D).length) * 16<=lim)/\(nxT (LP119_1 tables ahead s) m K (s119_1 tables ahead s (wrap64 (i1+Z1)) (v1++[(nC ([]++(nth (t:=TCS) ahead s.2.1)) (nI s.2.2.2.2.2.1 i1))]))))) (K (.exit 1) (⟨[(9,.own 72 none)],[(72,.arr false ag v1)]⟩:St))):=by kernel_rfl
theorem lvc119_1 (tables:LTb) (ahead:(List LC)) (s:ah.D)  (v3:Int×LC) (m:Nat) (K:KX):lvT C119 (L119 tables ahead s) ann119 f119 1 3 (s119_3 tables ahead s v3) m K =
 (cond (decide (v3.1<(v3.2.length:Int))) ((0<=v3.1)/\(v3.1<(v3.2.length:Int))/\(0<=s.2.2.1)/\(s.2.2.1<(ahead.length:Int))/\(0<=v3.1)/\(v3.1<((nth (t:=TCS) ahead s.2.2.1).length:Int))/\cond (!decide ((nC v3.2 v3.1).1=(nC (nth (t:=TCS) ahead s.2.2.1) v3.1).1)) (K .ret (⟨[(6,.own 159 none),(7,dB false)],[(159,.arr false ag [])]⟩:St)) ((0<=v3.1)/\(v3.1<(v3.2.length:Int))/\cond ((nC v3.2 v3.1).2.1==false) ((0<=s.2.2.1)/\(s.2.2.1<(ahead.length:Int))/\(0<=v3.1)/\(v3.1<((nth (t:=TCS) ahead s.2.2.1).length:Int))/\(0<=v3.1)/\(v3.1<(v3.2.length:Int))/\(let y1:LC:=(v3.2.set v3.1.toNat ((nC v3.2 v3.1).1,(nC (nth (t:=TCS) ahead s.2.2.1) v3.1).2));(nxT (LP119_3 tables ahead s) m K (s119_3 tables ahead s (wrap64 (v3.1+Z1),y1))))) ((0<=v3.1)/\(v3.1<(v3.2.length:Int))/\(nxT (LP119_3 tables ahead s) m K (s119_3 tables ahead s (wrap64 (v3.1+Z1),(v3.2.set v3.1.toNat ((nC v3.2 v3.1).1,(true,()))))))))) (K (.exit 3) (⟨[(8,.own 53 none)],[(53,.arr false ag v3.2)]⟩:St))):=by kernel_rfl
theorem con119_ok:br P 119 c119:=bw C119 func119 (kC con46_ok (kC con69_ok (kC con177_ok kN))) fun args hp K h0=>by
 obtain⟨tables,ahead,s,rfl,rfl,h_tables,h_ahead,h_s,hK⟩:=g3e h0
 have h:ok (F.gQ tables ahead s) (fun r=>K (.tup [.data TCS r.1,dB r.2]) []):=aC (F.tI tables ahead s h_tables h_ahead h_s) (hK _ rfl)
 refine⟨rfl,ann119,(L119 tables ahead s),(.tup [TCS,Ty.bool]),(lT (i0:=1) (i1:=3) (by kernel_rfl) ?_ ?_),?_⟩
 ·rintro _ _ K ⟨hc1,i1,v1,rfl,hl1,rfl,hv1,h⟩
  exact cast (lvc119_0 _ _ _ _ _ _ _).symm (aV (t:=aD) hl1 h (fun ht1 h=>⟨hl1,⟨ht1,(oC h (fun _ h=>h) fun b_22 h=>⟨hl1,⟨ht1,⟨(dP (bnf b_22)),⟨(iz (bnf b_22)),(oG h fun _ h=>(aM (t:=aD) (fun _ hm=>⟨hc1,hm⟩) _ rfl hl1 ht1 (bg h_s.2.2.2.2.2.1) trivial h))⟩⟩⟩⟩)⟩⟩) fun h=>(h trivial))
 ·rintro _ _ K ⟨hc3,v3,rfl,hv3,h⟩
  exact cast (lvc119_1 _ _ _ _ _ _).symm (cX h (fun m1 hm3 h=>(oC h (fun _ h=>(oG h fun g1 h=>(oG h fun g2 h=>(oG h fun g3 h=>(oG h fun g4 h=>⟨g1,(oG h fun g5 h=>(oC h (fun _ h=>h) fun _ h=>⟨g1,⟨g2,(oC h (fun _ h=>⟨g3,⟨g4,⟨g1,⟨g5,⟨g1,⟨g2,(have h:=dV h _ rfl;(bF (fun _ hm=>⟨hc3,hm⟩) hm3 _ rfl trivial h))⟩⟩⟩⟩⟩⟩) fun _ h=>⟨g1,⟨g2,(bF (fun _ hm=>⟨hc3,hm⟩) hm3 _ rfl trivial h)⟩⟩)⟩⟩))⟩))))) fun _ h=>((cz h :) trivial))))
 ·rw[vc119]
  exact⟨h_s,(oC h (fun _ h=>h) fun _ h=>(oC h (fun _ h=>(oC h (fun _ h=>h) fun b_3 h=>⟨(dP (bnf b_3)),⟨(iz (bnf b_3)),⟨(iV (iw ag) (aL h_tables s.2.2.2.1).1 rfl),h⟩⟩⟩)) fun _ h=>(oC h (fun b_4 h=>(oC h (fun _ h=>h) fun b_5 h=>⟨(dP (bnf (bgt b_4))),⟨(iz (bnf (bgt b_4))),⟨(iV (iw ag) (aL h_ahead s.2.1) rfl),(oC h (fun _ h=>(oG h fun _ h=>⟨h_s.2.2.2.2.1,h⟩)) fun _ h=>(oC h (fun _ h=>(aQ (t:=aD) (fun m hm=>⟨trivial,hm⟩) _ rfl trivial (aP h (fun v1 h hv1=>h) (fun q1 h=>h)))) fun _ h=>(oC h (fun _ h=>⟨(dP (bnf b_5)),⟨(iz (bnf b_5)),(oG h fun _ h=>(oC h (fun _ h=>(oG h fun _ h=>⟨h_s.2.2.2.2.1,h⟩)) fun _ h=>h))⟩⟩) fun _ h=>(oC h (fun _ h=>⟨(dP (bnf b_5)),⟨(iz (bnf b_5)),(oC h (fun _ h=>h) fun _ h=>(cu (fun m hm=>⟨trivial,hm⟩) _ rfl trivial (aP h (fun e3 h hv3=>h) (fun q3 h=>h))))⟩⟩) fun _ h=>(oC h (fun _ h=>h) fun _ h=>h)))))⟩⟩⟩)) fun _ h=>h)))⟩
def c120:Con:=⟨[.lent aD,.dat ah],fun args hp K=>g2 (pB aD) (pD ah) (fun ahead s=>(Sm (Ty.sl aD) ahead)/\(Sm ah s)/\(M.mN (ahead.length:Int) s)/\K (dI (M.bt ahead s)) []) args hp,.plain,false⟩
@[reducible] def C120:Ctx:=cx [] 40 [] 0 false
def ann120:=an [[.fixRow 3 ah,kp 9],[kp 73],[kp 201],[kp 16],[kp 585],[kp 16],[kp 4194313],[kp 16],[kp 16]] []
theorem vc120 (ahead:(List Int)) (s:ah.D) (K:KA):vcT C120 aE ann120 f120 [.brw aD ahead,.data ah s] [] (.dat aD) K =
 (cond (decide (s.1=Z1)) (K (dI Z6) []) (cond (decide (s.1=Z4)) ((0<=s.2.1)/\(s.2.1<(ahead.length:Int))/\(0<=s.2.2.1)/\(s.2.2.1<(ahead.length:Int))/\K (dI (wrap64 ((nI ahead s.2.1) * (nI ahead s.2.2.1)))) []) (cond (decide (s.1=Z5)) ((0<=s.2.1)/\(s.2.1<(ahead.length:Int))/\(0<=s.2.2.1)/\(s.2.2.1<(ahead.length:Int))/\K (dI (wrap64 ((nI ahead s.2.1)+(nI ahead s.2.2.1)))) []) ((0<=s.2.1)/\(s.2.1<(ahead.length:Int))/\K (dI (nI ahead s.2.1)) [])))):=by kernel_rfl
theorem con120_ok:br P 120 c120:=bw C120 func120 kN fun args hp K h0=>by
 obtain⟨ahead,s,rfl,rfl,h_ahead,h_s,p0,hK⟩:=g2e h0
 have h:ok (F.qY ahead s) (fun r=>K (dI r) []):=aC (F.yJ ahead s h_ahead h_s p0) hK
 refine⟨rfl,ann120,aE,(.dat aD),(aK (by kernel_rfl)),?_⟩
 ·rw[vc120]
  exact(oC h (fun _ h=>h) fun _ h=>(oC h (fun _ h=>(oG h fun _ h=>(oG h fun _ h=>(oG h fun _ h=>(oG h fun _ h=>h))))) fun _ h=>(oC h (fun _ h=>(oG h fun _ h=>(oG h fun _ h=>(oG h fun _ h=>(oG h fun _ h=>h))))) fun _ h=>(oG h fun _ h=>(oG h fun _ h=>h)))))
def c70:Con:=⟨[.dat TTb,.lent ah],fun args hp K=>g2 (pD TTb) (pB ah) (fun tables plan=>(Sm TTb tables)/\(Sm TSS plan)/\(∀r:(List LC)×Bool,r=(M.cn tables plan)->K (.tup [.data (Ty.sl TCS) r.1,dB r.2]) [])) args hp,.plain,false⟩
@[reducible] def C70:Ctx:=cx [(119,c119),(120,c120)] 52 [] 0 false
def ann70:=an [[kp 3],[kp 67],[kp 195],[kp 451],[kp 65987],[kp 451],[kp 1987],[kp 1073742787],[.freeze 31,kp 48],[kp 451],[kp 451],[kp 562949953421763],[.freeze 50,kp 48],[kp 48]] [[kp 64]]
@[reducible] def s70_0 (tables:LTb) (plan:LS) (i0:Int) (v0:(List LC)×(List Int)):St:=⟨[(0,.data TTb tables),(1,.brw ah plan),(6,.own 11 none),(7,.own 12 none),(8,dI i0)],[(11,.arr false TCS v0.1),(12,.arr false aD v0.2)]⟩
@[reducible] def LP70_0 (tables:LTb) (plan:LS) (m:Nat) (st_:St) (K:KX):Prop:=True/\cJ (s70_0 tables plan) Z0 (plan.length:Int) (F.iE tables plan) (fun v0:(List LC)×(List Int)=>True) (aW (fun v0:(List LC)×(List Int)=>True->K (.exit 0) (⟨[(6,.own 11 none)],[(11,.arr false TCS v0.1)]⟩:St)) (fun q0:Unit=>K .ret (⟨[(4,.data (Ty.sl TCS) []),(5,dB false)],[]⟩:St))) m st_
def L70 (tables:LTb) (plan:LS):bC:=lp1 0 (LP70_0 tables plan)
theorem vc70 (tables:LTb) (plan:LS) (K:KA):vcT C70 (L70 tables plan) ann70 f70 [.data TTb tables,.brw ah plan] [] (.tup [(Ty.sl TCS),Ty.bool]) K =
 (∃m_,True/\cJ (s70_0 tables plan) Z0 (plan.length:Int) (F.iE tables plan) (fun v0:(List LC)×(List Int)=>True) (aW (fun v0:(List LC)×(List Int)=>True->K (.tup [.data (Ty.sl TCS) v0.1,dB true]) []) (fun q0:Unit=>K (.tup [.data (Ty.sl TCS) [],dB false]) [])) m_ (s70_0 tables plan Z0 ([],[]))):=by kernel_rfl
theorem lvc70_0 (tables:LTb) (plan:LS)  (i0:Int) (v0:(List LC)×(List Int)) (m:Nat) (K:KX):lvT C70 (L70 tables plan) ann70 f70 0 0 (s70_0 tables plan i0 v0) m K =
 (cond (decide (i0<(plan.length:Int))) ((0<=i0)/\(i0<(plan.length:Int))/\(Sm TTb tables)/\(Sm (Ty.sl TCS) v0.1)/\(Sm ah (nS plan i0))/\(∀r1:LC×Bool,r1=(M.fm tables v0.1 (nS plan i0))->cond (!r1.2) (K .ret (⟨[(4,.data (Ty.sl TCS) []),(5,dB false)],[]⟩:St)) (((v0.1.length+[r1.1].length) * 24<=lim)/\(0<=i0)/\(i0<(plan.length:Int))/\(Sm (Ty.sl aD) v0.2)/\(Sm ah (nS plan i0))/\(M.mN (v0.2.length:Int) (nS plan i0))/\((v0.2.length+[(M.bt v0.2 (nS plan i0))].length) * 8<=lim)/\(0<=i0)/\(i0<((v0.2++[(M.bt v0.2 (nS plan i0))]).length:Int))/\cond (decide ((300:Int)<(nI (v0.2++[(M.bt v0.2 (nS plan i0))]) i0))) (K .ret (⟨[(4,.data (Ty.sl TCS) []),(5,dB false)],[]⟩:St)) (nxT (LP70_0 tables plan) m K (s70_0 tables plan (wrap64 (i0+Z1)) ((v0.1++[r1.1]),(v0.2++[(M.bt v0.2 (nS plan i0))]))))))) (K (.exit 0) (⟨[(6,.own 11 none)],[(11,.arr false TCS v0.1)]⟩:St))):=by kernel_rfl
theorem con70_ok:br P 70 c70:=bw C70 func70 (kC con119_ok (kC con120_ok kN)) fun args hp K h0=>by
 obtain⟨tables,plan,rfl,rfl,h_tables,h_plan,hK⟩:=g2e h0
 have h:ok (F.tr tables plan) (fun r=>K (.tup [.data (Ty.sl TCS) r.1,dB r.2]) []):=aC (F.AH tables plan h_tables h_plan) (hK _ rfl)
 refine⟨rfl,ann70,(L70 tables plan),(.tup [(Ty.sl TCS),Ty.bool]),(bH (i0:=0) (by kernel_rfl) ?_),?_⟩
 ·rintro _ _ K ⟨hc0,i0,v0,rfl,hl0,rfl,hv0,h⟩
  exact cast (lvc70_0 _ _ _ _ _ _).symm (bV h (fun ht0 h=>⟨hl0,⟨ht0,⟨h_tables,(oG h fun _ h=>⟨(aL h_plan i0),(oL h fun _ _ h=>(oC h (fun _ h=>h) fun _ h=>(oG h fun _ h=>⟨hl0,⟨ht0,(oG h fun _ h=>⟨(aL h_plan i0),(oG h fun _ h=>(oG h fun _ h=>⟨hl0,(oG h fun _ h=>(oC h (fun _ h=>h) fun _ h=>(aU (fun _ hm=>⟨hc0,hm⟩) _ rfl hl0 gb ht0 (bg h_plan) trivial h)))⟩))⟩)⟩⟩)))⟩)⟩⟩⟩) fun h=>(h trivial))
 ·rw[vc70]
  exact(bJ (fun m hm=>⟨trivial,hm⟩) Z0 _ rfl (Int.natCast_nonneg 0) trivial (aP h (fun v0 h hv0=>h) (fun q0 h=>h)))
def c208:Con:=⟨[.dat TVS],fun args hp K=>g1 (pD TVS) (fun row=>(Sm TVS row)/\K (dB (M.ow row)) []) args hp,.plain,false⟩
@[reducible] def C208:Ctx:=cx [(137,c137)] 19 [] 0 false
def ann208:=an [[kp 1],[kp 9],[kp 137],[kp 9],[kp 32777],[kp 4],[kp 4]] [[kp 1]]
@[reducible] def s208_0 (row:LV) (i0:Int) (v0:Unit):St:=⟨[(0,.data TVS row),(3,dI i0)],[]⟩
@[reducible] def LP208_0 (row:LV) (m:Nat) (st_:St) (K:KX):Prop:=True/\bI (t:=aa) (s208_0 row) row (F.jY row) (fun v0:Unit=>True) (aW (fun v0:Unit=>True->K (.exit 0) (⟨[(0,.data TVS row)],[]⟩:St)) (fun q0:Unit=>K .ret (⟨[(2,dB false)],[]⟩:St))) m st_
def L208 (row:LV):bC:=lp1 0 (LP208_0 row)
theorem vc208 (row:LV) (K:KA):vcT C208 (L208 row) ann208 f208 [.data TVS row] [] (.dat Ty.bool) K =
 (∃m_,True/\bI (t:=aa) (s208_0 row) row (F.jY row) (fun v0:Unit=>True) (aW (fun v0:Unit=>True->K (dB (decide ((row.length:Int)<=Z4))) []) (fun q0:Unit=>K (dB false) [])) m_ (s208_0 row Z0 ())):=by kernel_rfl
theorem lvc208_0 (row:LV)  (i0:Int) (v0:Unit) (m:Nat) (K:KX):lvT C208 (L208 row) ann208 f208 0 0 (s208_0 row i0 v0) m K =
 (cond (decide (i0<(row.length:Int))) ((0<=i0)/\(i0<(row.length:Int))/\(Sm aa (nV row i0))/\cond (!(M.aS (nV row i0))) (K .ret (⟨[(2,dB false)],[]⟩:St)) (nxT (LP208_0 row) m K (s208_0 row (wrap64 (i0+Z1)) ()))) (K (.exit 0) (⟨[(0,.data TVS row)],[]⟩:St))):=by kernel_rfl
theorem con208_ok:br P 208 c208:=bw C208 func208 (kC con137_ok kN) fun args hp K h0=>by
 obtain⟨row,rfl,rfl,h_row,hK⟩:=g1e h0
 have h:ok (F.sR row) (fun r=>K (dB r) []):=aC (F.Ax row h_row) hK
 refine⟨rfl,ann208,(L208 row),(.dat Ty.bool),(bH (i0:=0) (by kernel_rfl) ?_),?_⟩
 ·rintro _ _ K ⟨hc0,i0,v0,rfl,hl0,rfl,hv0,h⟩
  exact cast (lvc208_0 _ _ _ _ _).symm (aV (t:=aa) hl0 h (fun ht0 h=>⟨hl0,⟨ht0,⟨(aL h_row i0),(oC h (fun _ h=>h) fun _ h=>(aM (t:=aa) (fun _ hm=>⟨hc0,hm⟩) _ rfl hl0 ht0 (bg h_row) trivial h))⟩⟩⟩) fun h=>(h trivial))
 ·rw[vc208]
  exact(aQ (t:=aa) (fun m hm=>⟨trivial,hm⟩) _ rfl trivial (aP h (fun v0 h hv0=>h) (fun q0 h=>h)))
def c186:Con:=⟨[.dat TCS,.dat TVS],fun args hp K=>g2 (pD TCS) (pD TVS) (fun columns row=>(Sm TCS columns)/\(Sm TVS row)/\K (dB (M.cG columns row)) []) args hp,.plain,false⟩
@[reducible] def C186:Ctx:=cx [(94,c94),(208,c208)] 54 [] 0 false
def ann186:=an [[kp 3],[kp 1048579],[kp 16],[kp 35],[kp 16777251],[kp 35],[kp 9007199254741027],[kp 16],[kp 16]] [[kp 0]]
@[reducible] def s186_0 (columns:LC) (row:LV) (i0:Int) (v0:Unit):St:=⟨[(0,.data TCS columns),(1,.data TVS row),(5,dI i0)],[]⟩
@[reducible] def LP186_0 (columns:LC) (row:LV) (m:Nat) (st_:St) (K:KX):Prop:=True/\cJ (s186_0 columns row) Z0 (row.length:Int) (F.iS columns row) (fun v0:Unit=>True) (aW (fun v0:Unit=>True->K (.exit 0) (⟨[],[]⟩:St)) (fun q0:Unit=>K .ret (⟨[(4,dB false)],[]⟩:St))) m st_
def L186 (columns:LC) (row:LV):bC:=lp1 0 (LP186_0 columns row)
theorem vc186 (columns:LC) (row:LV) (K:KA):vcT C186 (L186 columns row) ann186 f186 [.data TCS columns,.data TVS row] [] (.dat Ty.bool) K =
 ((Sm TCS columns)/\cond ((!(M.bA columns))==false) ((Sm TVS row)/\cond ((!(M.ow row))==false) (cond (!decide ((row.length:Int)=(columns.length:Int))) (K (dB false) []) (∃m_,True/\cJ (s186_0 columns row) Z0 (row.length:Int) (F.iS columns row) (fun v0:Unit=>True) (aW (fun v0:Unit=>True->K (dB true) []) (fun q0:Unit=>K (dB false) [])) m_ (s186_0 columns row Z0 ()))) (K (dB false) [])) (K (dB false) [])):=by kernel_rfl
theorem lvc186_0 (columns:LC) (row:LV)  (i0:Int) (v0:Unit) (m:Nat) (K:KX):lvT C186 (L186 columns row) ann186 f186 0 0 (s186_0 columns row i0 v0) m K =
 (cond (decide (i0<(row.length:Int))) ((0<=i0)/\(i0<(row.length:Int))/\(0<=i0)/\(i0<(columns.length:Int))/\cond ((!decide ((nV row i0).1=(nC columns i0).1))==true) ((0<=i0)/\(i0<(row.length:Int))/\cond ((!decide ((nV row i0).1=Z0))==false) ((0<=i0)/\(i0<(columns.length:Int))/\cond (!(nC columns i0).2.1) (K .ret (⟨[(4,dB false)],[]⟩:St)) (nxT (LP186_0 columns row) m K (s186_0 columns row (wrap64 (i0+Z1)) ()))) (K .ret (⟨[(4,dB false)],[]⟩:St))) (nxT (LP186_0 columns row) m K (s186_0 columns row (wrap64 (i0+Z1)) ()))) (K (.exit 0) (⟨[],[]⟩:St))):=by kernel_rfl
theorem con186_ok:br P 186 c186:=bw C186 func186 (kC con94_ok (kC con208_ok kN)) fun args hp K h0=>by
 obtain⟨columns,row,rfl,rfl,h_columns,h_row,hK⟩:=g2e h0
 have h:ok (F.pF columns row) (fun r=>K (dB r) []):=aC (F.xD columns row h_columns h_row) hK
 refine⟨rfl,ann186,(L186 columns row),(.dat Ty.bool),(bH (i0:=0) (by kernel_rfl) ?_),?_⟩
 ·rintro _ _ K ⟨hc0,i0,v0,rfl,hl0,rfl,hv0,h⟩
  exact cast (lvc186_0 _ _ _ _ _ _).symm (bV h (fun ht0 h=>⟨hl0,⟨ht0,⟨hl0,(oG h fun g1 h=>(oC h (fun _ h=>⟨hl0,⟨ht0,(oC h (fun _ h=>⟨hl0,⟨g1,(oC h (fun _ h=>h) fun _ h=>(aU (fun _ hm=>⟨hc0,hm⟩) _ rfl hl0 gb ht0 (bg h_row) trivial h))⟩⟩) fun _ h=>h)⟩⟩) fun _ h=>(aU (fun _ hm=>⟨hc0,hm⟩) _ rfl hl0 gb ht0 (bg h_row) trivial h)))⟩⟩⟩) fun h=>(h trivial))
 ·rw[vc186]
  exact⟨h_columns,(oC h (fun _ h=>⟨h_row,(oC h (fun _ h=>(oC h (fun _ h=>h) fun _ h=>(bJ (fun m hm=>⟨trivial,hm⟩) Z0 _ rfl (Int.natCast_nonneg 0) trivial (aP h (fun v0 h hv0=>h) (fun q0 h=>h))))) fun _ h=>h)⟩) fun _ h=>h)⟩
def c152:Con:=⟨[.dat TCS,.dat (Ty.sl TVS)],fun args hp K=>g2 (pD TCS) (pD (Ty.sl TVS)) (fun columns rows=>(Sm TCS columns)/\(Sm (Ty.sl TVS) rows)/\K (dB (M.fO columns rows)) []) args hp,.plain,false⟩
@[reducible] def C152:Ctx:=cx [(94,c94),(186,c186)] 21 [] 0 false
def ann152:=an [[kp 3],[kp 35],[kp 547],[kp 35],[kp 262179],[kp 16],[kp 16]] [[kp 1]]
@[reducible] def s152_0 (columns:LC) (rows:(List LV)) (i0:Int) (v0:Unit):St:=⟨[(0,.data TCS columns),(1,.data (Ty.sl TVS) rows),(5,dI i0)],[]⟩
@[reducible] def LP152_0 (columns:LC) (rows:(List LV)) (m:Nat) (st_:St) (K:KX):Prop:=True/\bI (t:=TVS) (s152_0 columns rows) rows (F.jj columns rows) (fun v0:Unit=>True) (aW (fun v0:Unit=>True->K (.exit 0) (⟨[(0,.data TCS columns)],[]⟩:St)) (fun q0:Unit=>K .ret (⟨[(4,dB false)],[]⟩:St))) m st_
def L152 (columns:LC) (rows:(List LV)):bC:=lp1 0 (LP152_0 columns rows)
theorem vc152 (columns:LC) (rows:(List LV)) (K:KA):vcT C152 (L152 columns rows) ann152 f152 [.data TCS columns,.data (Ty.sl TVS) rows] [] (.dat Ty.bool) K =
 (∃m_,True/\bI (t:=TVS) (s152_0 columns rows) rows (F.jj columns rows) (fun v0:Unit=>True) (aW (fun v0:Unit=>True->(Sm TCS columns)/\K (dB (M.bA columns)) []) (fun q0:Unit=>K (dB false) [])) m_ (s152_0 columns rows Z0 ())):=by kernel_rfl
theorem lvc152_0 (columns:LC) (rows:(List LV))  (i0:Int) (v0:Unit) (m:Nat) (K:KX):lvT C152 (L152 columns rows) ann152 f152 0 0 (s152_0 columns rows i0 v0) m K =
 (cond (decide (i0<(rows.length:Int))) ((0<=i0)/\(i0<(rows.length:Int))/\(Sm TCS columns)/\(Sm TVS (nth (t:=TVS) rows i0))/\cond (!(M.cG columns (nth (t:=TVS) rows i0))) (K .ret (⟨[(4,dB false)],[]⟩:St)) (nxT (LP152_0 columns rows) m K (s152_0 columns rows (wrap64 (i0+Z1)) ()))) (K (.exit 0) (⟨[(0,.data TCS columns)],[]⟩:St))):=by kernel_rfl
theorem con152_ok:br P 152 c152:=bw C152 func152 (kC con94_ok (kC con186_ok kN)) fun args hp K h0=>by
 obtain⟨columns,rows,rfl,rfl,h_columns,h_rows,hK⟩:=g2e h0
 have h:ok (F.qK columns rows) (fun r=>K (dB r) []):=aC (F.yF columns rows h_columns h_rows) hK
 refine⟨rfl,ann152,(L152 columns rows),(.dat Ty.bool),(bH (i0:=0) (by kernel_rfl) ?_),?_⟩
 ·rintro _ _ K ⟨hc0,i0,v0,rfl,hl0,rfl,hv0,h⟩
  exact cast (lvc152_0 _ _ _ _ _ _).symm (aV (t:=TVS) hl0 h (fun ht0 h=>⟨hl0,⟨ht0,⟨h_columns,⟨(aL h_rows i0),(oC h (fun _ h=>h) fun _ h=>(aM (t:=TVS) (fun _ hm=>⟨hc0,hm⟩) _ rfl hl0 ht0 (bg h_rows) trivial h))⟩⟩⟩⟩) fun h=>(h trivial))
 ·rw[vc152]
  exact(aQ (t:=TVS) (fun m hm=>⟨trivial,hm⟩) _ rfl trivial (aP h (fun v0 h hv0=>⟨h_columns,h⟩) (fun q0 h=>h)))
def c109:Con:=⟨[.dat TTb],fun args hp K=>g1 (pD TTb) (fun tables=>(Sm TTb tables)/\K (dB (M.bX tables)) []) args hp,.plain,false⟩
@[reducible] def C109:Ctx:=cx [(152,c152)] 34 [] 0 false
def ann109:=an [[kp 1],[kp 9],[kp 137],[kp 9],[kp 1073741833],[kp 4],[kp 4]] [[kp 1]]
@[reducible] def s109_0 (tables:LTb) (i0:Int) (v0:Unit):St:=⟨[(0,.data TTb tables),(3,dI i0)],[]⟩
@[reducible] def LP109_0 (tables:LTb) (m:Nat) (st_:St) (K:KX):Prop:=True/\bI (t:=az) (s109_0 tables) tables (F.gS tables) (fun v0:Unit=>True) (aW (fun v0:Unit=>True->K (.exit 0) (⟨[(0,.data TTb tables)],[]⟩:St)) (fun q0:Unit=>K .ret (⟨[(2,dB false)],[]⟩:St))) m st_
def L109 (tables:LTb):bC:=lp1 0 (LP109_0 tables)
theorem vc109 (tables:LTb) (K:KA):vcT C109 (L109 tables) ann109 f109 [.data TTb tables] [] (.dat Ty.bool) K =
 (∃m_,True/\bI (t:=az) (s109_0 tables) tables (F.gS tables) (fun v0:Unit=>True) (aW (fun v0:Unit=>True->K (dB (decide ((tables.length:Int)<=Z3))) []) (fun q0:Unit=>K (dB false) [])) m_ (s109_0 tables Z0 ())):=by kernel_rfl
theorem lvc109_0 (tables:LTb)  (i0:Int) (v0:Unit) (m:Nat) (K:KX):lvT C109 (L109 tables) ann109 f109 0 0 (s109_0 tables i0 v0) m K =
 (cond (decide (i0<(tables.length:Int))) ((0<=i0)/\(i0<(tables.length:Int))/\cond ((decide (Z6<((nT tables i0).2.1.length:Int)))==false) ((0<=i0)/\(i0<(tables.length:Int))/\(0<=i0)/\(i0<(tables.length:Int))/\(Sm TCS (nT tables i0).1)/\(Sm (Ty.sl TVS) (nT tables i0).2.1)/\cond (!(M.fO (nT tables i0).1 (nT tables i0).2.1)) (K .ret (⟨[(2,dB false)],[]⟩:St)) (nxT (LP109_0 tables) m K (s109_0 tables (wrap64 (i0+Z1)) ()))) (K .ret (⟨[(2,dB false)],[]⟩:St))) (K (.exit 0) (⟨[(0,.data TTb tables)],[]⟩:St))):=by kernel_rfl
theorem con109_ok:br P 109 c109:=bw C109 func109 (kC con152_ok kN) fun args hp K h0=>by
 obtain⟨tables,rfl,rfl,h_tables,hK⟩:=g1e h0
 have h:ok (F.nY tables) (fun r=>K (dB r) []):=aC (F.vX tables h_tables) hK
 refine⟨rfl,ann109,(L109 tables),(.dat Ty.bool),(bH (i0:=0) (by kernel_rfl) ?_),?_⟩
 ·rintro _ _ K ⟨hc0,i0,v0,rfl,hl0,rfl,hv0,h⟩
  exact cast (lvc109_0 _ _ _ _ _).symm (aV (t:=az) hl0 h (fun ht0 h=>⟨hl0,⟨ht0,(oC h (fun _ h=>⟨hl0,⟨ht0,⟨hl0,⟨ht0,⟨(aL h_tables i0).1,⟨(aL h_tables i0).2.1,(oC h (fun _ h=>h) fun _ h=>(aM (t:=az) (fun _ hm=>⟨hc0,hm⟩) _ rfl hl0 ht0 (bg h_tables) trivial h))⟩⟩⟩⟩⟩⟩) fun _ h=>h)⟩⟩) fun h=>(h trivial))
 ·rw[vc109]
  exact(aQ (t:=az) (fun m hm=>⟨trivial,hm⟩) _ rfl trivial (aP h (fun v0 h hv0=>h) (fun q0 h=>h)))
def c57:Con:=⟨[.dat TTb,.dat TSS],fun args hp K=>g2 (pD TTb) (pD TSS) (fun tables plan=>(Sm TTb tables)/\(Sm TSS plan)/\K (dB (M.bB tables plan)) []) args hp,.plain,false⟩
@[reducible] def C57:Ctx:=cx [(69,c69),(70,c70),(109,c109)] 23 [] 0 false
def ann57:=an [[kp 3],[kp 67],[kp 16]] []
theorem vc57 (tables:LTb) (plan:LS) (K:KA):vcT C57 aE ann57 f57 [.data TTb tables,.data TSS plan] [] (.dat Ty.bool) K =
 ((Sm TTb tables)/\(Sm TSS plan)/\(∀r1:(List LC)×Bool,r1=(M.cn tables plan)->cond (r1.2==true) ((Sm TTb tables)/\cond ((M.bX tables)==true) (K (dB (M.inR (plan.length:Int) Z1 Z6)) []) (K (dB false) [])) (K (dB false) []))):=by kernel_rfl
theorem con57_ok:br P 57 c57:=bw C57 func57 (kC con69_ok (kC con70_ok (kC con109_ok kN))) fun args hp K h0=>by
 obtain⟨tables,plan,rfl,rfl,h_tables,h_plan,hK⟩:=g2e h0
 have h:ok (F.qE tables plan) (fun r=>K (dB r) []):=aC (F.zB tables plan h_tables h_plan) hK
 refine⟨rfl,ann57,aE,(.dat Ty.bool),(aK (by kernel_rfl)),?_⟩
 ·rw[vc57]
  exact⟨h_tables,⟨h_plan,(oL h fun _ _ h=>(oC h (fun _ h=>⟨h_tables,(oC h (fun _ h=>h) fun _ h=>h)⟩) fun _ h=>h))⟩⟩
def c58:Con:=⟨[.dat TSS],fun args hp K=>g1 (pD TSS) (fun plan=>(Sm TSS plan)/\(∀r:LS,r=plan->K (.own 0 none) [(0,.arr false ah r)])) args hp,.plain,false⟩
@[reducible] def C58:Ctx:=cx [] 32 [] 0 false
def ann58:=an [[kp 1],[kp 9],[kp 25],[kp 1049],[kp 25],[kp 57],[kp 57],[kp 57],[kp 25],[kp 4]] [[kp 8]]
@[reducible] def s58_0 (plan:LS) (i0:Int) (v0:LS):St:=⟨[(0,.data TSS plan),(3,.own 6 none),(4,dI i0)],[(6,.arr false ah v0)]⟩
@[reducible] def LP58_0 (plan:LS) (m:Nat) (st_:St) (K:KX):Prop:=True/\bI (t:=ah) (s58_0 plan) plan (F.jX plan) (fun v0:LS=>True) (aW (fun v0:LS=>True->K (.exit 0) (⟨[(3,.own 6 none)],[(6,.arr false ah v0)]⟩:St)) (fun _=>False)) m st_
def L58 (plan:LS):bC:=lp1 0 (LP58_0 plan)
theorem vc58 (plan:LS) (K:KA):vcT C58 (L58 plan) ann58 f58 [.data TSS plan] [] .raw K =
 (∃m_,True/\bI (t:=ah) (s58_0 plan) plan (F.jX plan) (fun v0:LS=>True) (aW (fun v0:LS=>True->K (.own 0 none) [(0,.arr false ah v0)]) (fun _=>False)) m_ (s58_0 plan Z0 [])):=by kernel_rfl
theorem lvc58_0 (plan:LS)  (i0:Int) (v0:LS) (m:Nat) (K:KX):lvT C58 (L58 plan) ann58 f58 0 0 (s58_0 plan i0 v0) m K =
 (cond (decide (i0<(plan.length:Int))) ((0<=i0)/\(i0<(plan.length:Int))/\((([]:List ax.D).length+(nS plan i0).2.2.2.2.1.length) * 48<=lim)/\((([]:List aD.D).length+(nS plan i0).2.2.2.2.2.1.length) * 8<=lim)/\((v0.length+([((nS plan i0).1,((nS plan i0).2.1,((nS plan i0).2.2.1,((nS plan i0).2.2.2.1,(([]++(nS plan i0).2.2.2.2.1),(([]++(nS plan i0).2.2.2.2.2.1),()))))))]:List ah.D).length) * 80<=lim)/\(nxT (LP58_0 plan) m K (s58_0 plan (wrap64 (i0+Z1)) (v0++[((nS plan i0).1,((nS plan i0).2.1,((nS plan i0).2.2.1,((nS plan i0).2.2.2.1,(([]++(nS plan i0).2.2.2.2.1),(([]++(nS plan i0).2.2.2.2.2.1),()))))))])))) (K (.exit 0) (⟨[(3,.own 6 none)],[(6,.arr false ah v0)]⟩:St))):=by kernel_rfl
theorem con58_ok:br P 58 c58:=bw C58 func58 kN fun args hp K h0=>by
 obtain⟨plan,rfl,rfl,h_plan,hK⟩:=g1e h0
 have h:ok (F.th plan) (fun r=>K (.own 0 none) [(0,.arr false ah r)]):=aC (F.Ah plan h_plan) (hK _ rfl)
 refine⟨rfl,ann58,(L58 plan),.raw,(bH (i0:=0) (by kernel_rfl) ?_),?_⟩
 ·rintro _ _ K ⟨hc0,i0,v0,rfl,hl0,rfl,hv0,h⟩
  exact cast (lvc58_0 _ _ _ _ _).symm (aV (t:=ah) hl0 h (fun ht0 h=>⟨hl0,⟨ht0,⟨(iV (iw ax) (aL h_plan i0).2.2.2.2.1 rfl),⟨(iV (iw aD) (aL h_plan i0).2.2.2.2.2.1 rfl),(oG h fun _ h=>(aM (t:=ah) (fun _ hm=>⟨hc0,hm⟩) _ rfl hl0 ht0 (bg h_plan) trivial h))⟩⟩⟩⟩) fun h=>(h trivial))
 ·rw[vc58]
  exact(aQ (t:=ah) (fun m hm=>⟨trivial,hm⟩) _ rfl trivial (aP h (fun v0 h hv0=>h) (fun _ h=>h.elim)))
def c121:Con:=⟨[.dat TPS,.dat TPS],fun args hp K=>g2 (pD TPS) (pD TPS) (fun a b=>(Sm TPS a)/\(Sm TPS b)/\(∀r:LPt,r=(M.fS a b)->K (.own 0 none) [(0,.arr false ax r)])) args hp,.plain,false⟩
@[reducible] def C121:Ctx:=cx [] 15 [] 0 false
def ann121:=an [[kp 3],[kp 32],[kp 16]] []
theorem vc121 (a:LPt) (b:LPt) (K:KA):vcT C121 aE ann121 f121 [.data TPS a,.data TPS b] [] .raw K =
 (((([]:List ax.D).length+a.length) * 48<=lim)/\((([]++a).length+b.length) * 48<=lim)/\(((([]++a)++b).length+([(Z5,(Z0,((Z0,(Z0,((⟨#[]⟩:ByteArray),()))),())))]:List ax.D).length) * 48<=lim)/\K (.own 0 none) [(0,.arr false ax ((([]++a)++b)++[(Z5,(Z0,((Z0,(Z0,((⟨#[]⟩:ByteArray),()))),())))]))]):=by kernel_rfl
theorem con121_ok:br P 121 c121:=bw C121 func121 kN fun args hp K h0=>by
 obtain⟨a,b,rfl,rfl,h_a,h_b,hK⟩:=g2e h0
 have h:ok (F.qT a b) (fun r=>K (.own 0 none) [(0,.arr false ax r)]):=aC (F.yp a b h_a h_b) (hK _ rfl)
 refine⟨rfl,ann121,aE,.raw,(aK (by kernel_rfl)),?_⟩
 ·rw[vc121]
  exact⟨(iV (iw ax) h_a rfl),(oG h fun _ h=>(oG h fun _ h=>h))⟩
def c122:Con:=⟨[.dat TCS,.dat TPS,.dat (Ty.sl aD)],fun args hp K=>g3 (pD TCS) (pD TPS) (pD (Ty.sl aD)) (fun columns e to=>(Sm TCS columns)/\(Sm TPS e)/\(Sm (Ty.sl aD) to)/\(∀r:LPt,r=(M.jU columns e to)->K (.own 0 none) [(0,.arr false ax r)])) args hp,.plain,false⟩
@[reducible] def C122:Ctx:=cx [(46,c46),(69,c69)] 61 [] 0 false
def ann122:=an [[kp 7],[kp 135],[kp 4194438],[kp 64],[kp 390],[kp 134218118],[kp 390],[kp 34359738758],[kp 64],[kp 646],[kp 1099511628422],[kp 646],[kp 1670],[kp 562949953422982],[kp 1670],[kp 646],[kp 64]] [[kp 134],[],[kp 128]]
@[reducible] def s122_0 (columns:LC) (e:LPt) (to:(List Int)) (i0:Int) (v0:Unit):St:=⟨[(1,.data TPS e),(2,.data (Ty.sl aD) to),(7,.own 11 none),(8,dI i0)],[(11,.arr false ax [])]⟩
@[reducible] def LP122_0 (columns:LC) (e:LPt) (to:(List Int)) (m:Nat) (st_:St) (K:KX):Prop:=True/\bI (t:=aD) (s122_0 columns e to) to (F.gA columns e to) (fun v0:Unit=>True) (aW (fun v0:Unit=>True->K (.exit 0) (⟨[(1,.data TPS e),(2,.data (Ty.sl aD) to),(7,.own 11 none)],[(11,.arr false ax [])]⟩:St)) (fun q0:Unit=>K .ret (⟨[(6,.own 36 none)],[(36,.arr false ax [])]⟩:St))) m st_
@[reducible] def s122_2 (columns:LC) (e:LPt) (to:(List Int)) (i2:Int) (v2:LPt):St:=⟨[(1,.data TPS e),(2,.data (Ty.sl aD) to),(7,.own 11 none),(9,dI i2)],[(11,.arr false ax v2)]⟩
@[reducible] def LP122_2 (columns:LC) (e:LPt) (to:(List Int)) (m:Nat) (st_:St) (K:KX):Prop:=True/\bI (t:=ax) (s122_2 columns e to) e (F.gp columns e to) (fun v2:LPt=>True) (aW (fun v2:LPt=>True->K (.exit 2) (⟨[(7,.own 11 none)],[(11,.arr false ax v2)]⟩:St)) (fun _=>False)) m st_
def L122 (columns:LC) (e:LPt) (to:(List Int)):bC:=lp2 0 (LP122_0 columns e to) 2 (LP122_2 columns e to)
theorem vc122 (columns:LC) (e:LPt) (to:(List Int)) (K:KA):vcT C122 (L122 columns e to) ann122 f122 [.data TCS columns,.data TPS e,.data (Ty.sl aD) to] [] .raw K =
 ((Sm TCS columns)/\(Sm TPS e)/\cond ((decide ((M.bu columns e)<Z0))==false) (cond (!decide ((to.length:Int)=(columns.length:Int))) (K (.own 0 none) [(0,.arr false ax [])]) (∃m_,True/\bI (t:=aD) (s122_0 columns e to) to (F.gA columns e to) (fun v0:Unit=>True) (aW (fun v0:Unit=>True->(∃m_,True/\bI (t:=ax) (s122_2 columns e to) e (F.gp columns e to) (fun v2:LPt=>True) (aW (fun v2:LPt=>True->K (.own 0 none) [(0,.arr false ax v2)]) (fun _=>False)) m_ (s122_2 columns e to Z0 []))) (fun q0:Unit=>K (.own 0 none) [(0,.arr false ax [])])) m_ (s122_0 columns e to Z0 ()))) (K (.own 0 none) [(0,.arr false ax [])])):=by kernel_rfl
theorem lvc122_0 (columns:LC) (e:LPt) (to:(List Int))  (i0:Int) (v0:Unit) (m:Nat) (K:KX):lvT C122 (L122 columns e to) ann122 f122 0 0 (s122_0 columns e to i0 v0) m K =
 (cond (decide (i0<(to.length:Int))) ((0<=i0)/\(i0<(to.length:Int))/\cond (!(M.inR (nI to i0) Z0 Z3)) (K .ret (⟨[(6,.own 36 none)],[(36,.arr false ax [])]⟩:St)) (nxT (LP122_0 columns e to) m K (s122_0 columns e to (wrap64 (i0+Z1)) ()))) (K (.exit 0) (⟨[(1,.data TPS e),(2,.data (Ty.sl aD) to),(7,.own 11 none)],[(11,.arr false ax [])]⟩:St))):=by kernel_rfl
theorem lvc122_1 (columns:LC) (e:LPt) (to:(List Int))  (i2:Int) (v2:LPt) (m:Nat) (K:KX):lvT C122 (L122 columns e to) ann122 f122 1 2 (s122_2 columns e to i2 v2) m K =
 (cond (decide (i2<(e.length:Int))) ((0<=i2)/\(i2<(e.length:Int))/\cond (decide ((nP e i2).1=Z2)) ((0<=(nP e i2).2.1)/\((nP e i2).2.1<(to.length:Int))/\((v2.length+[((nP e i2).1,((nI to (nP e i2).2.1),(nP e i2).2.2))].length) * 48<=lim)/\(nxT (LP122_2 columns e to) m K (s122_2 columns e to (wrap64 (i2+Z1)) (v2++[((nP e i2).1,((nI to (nP e i2).2.1),(nP e i2).2.2))])))) (((v2.length+[(nP e i2)].length) * 48<=lim)/\(nxT (LP122_2 columns e to) m K (s122_2 columns e to (wrap64 (i2+Z1)) (v2++[(nP e i2)]))))) (K (.exit 2) (⟨[(7,.own 11 none)],[(11,.arr false ax v2)]⟩:St))):=by kernel_rfl
theorem con122_ok:br P 122 c122:=bw C122 func122 (kC con46_ok (kC con69_ok kN)) fun args hp K h0=>by
 obtain⟨columns,e,to,rfl,rfl,h_columns,h_e,h_to,hK⟩:=g3e h0
 have h:ok (F.mQ columns e to) (fun r=>K (.own 0 none) [(0,.arr false ax r)]):=aC (F.uu columns e to h_columns h_e h_to) (hK _ rfl)
 refine⟨rfl,ann122,(L122 columns e to),.raw,(lT (i0:=0) (i1:=2) (by kernel_rfl) ?_ ?_),?_⟩
 ·rintro _ _ K ⟨hc0,i0,v0,rfl,hl0,rfl,hv0,h⟩
  exact cast (lvc122_0 _ _ _ _ _ _ _).symm (aV (t:=aD) hl0 h (fun ht0 h=>⟨hl0,⟨ht0,(oC h (fun _ h=>h) fun _ h=>(aM (t:=aD) (fun _ hm=>⟨hc0,hm⟩) _ rfl hl0 ht0 (bg h_to) trivial h))⟩⟩) fun h=>(h trivial))
 ·rintro _ _ K ⟨hc2,i2,v2,rfl,hl2,rfl,hv2,h⟩
  exact cast (lvc122_1 _ _ _ _ _ _ _).symm (aV (t:=ax) hl2 h (fun ht2 h=>⟨hl2,⟨ht2,(oC h (fun _ h=>(oG h fun _ h=>(oG h fun _ h=>(oG h fun _ h=>(aM (t:=ax) (fun _ hm=>⟨hc2,hm⟩) _ rfl hl2 ht2 (bg h_e) trivial h))))) fun _ h=>(oG h fun _ h=>(aM (t:=ax) (fun _ hm=>⟨hc2,hm⟩) _ rfl hl2 ht2 (bg h_e) trivial h)))⟩⟩) fun h=>(h trivial))
 ·rw[vc122]
  exact⟨h_columns,⟨h_e,(oC h (fun _ h=>(oC h (fun _ h=>h) fun _ h=>(aQ (t:=aD) (fun m hm=>⟨trivial,hm⟩) _ rfl trivial (aP h (fun v0 h hv0=>(aQ (t:=ax) (fun m hm=>⟨trivial,hm⟩) _ rfl trivial (aP h (fun v2 h hv2=>h) (fun _ h=>h.elim)))) (fun q0 h=>h))))) fun _ h=>h)⟩⟩
def c71:Con:=⟨[.dat (Ty.sl TCS),.dat TSS,.dat aD,.dat aD],fun args hp K=>g4 (pD (Ty.sl TCS)) (pD TSS) (pD aD) (pD aD) (fun columns plan at_ rule=>(Sm (Ty.sl TCS) columns)/\(Sm TSS plan)/\(M.iG plan at_)/\(M.mI columns plan at_)/\(∀r:LS,r=(M.bS plan at_ rule)->K (.own 0 none) [(0,.arr false ah r)])) args hp,.plain,false⟩
@[reducible] def C71:Ctx:=cx [(121,c121),(122,c122)] 210 [] 0 false
def ann71:=an [[kp 15],[.fixRow 9 ah,kp 527],[kp 1049103],[kp 256],[.fixRow 10 ah,kp 1549],[kp 3597],[kp 1073745421],[kp 256],[kp 1125899906846221],[kp 256],[kp 4722366482869645217293],[kp 256],[.keep [2,3,9,10,11,103]],[kp 256],[.keep [2,3,9,10,124]],[kp 256],[.keep [3,9,10,154]],[kp 5632],[kp 13824],[.keep [9,10,12,13,172]],[kp 13824],[kp 13824],[kp 256],[.keep [10,192]],[kp 256],[kp 256]] [[],[kp 5120]]
@[reducible] def s71_1 (columns:(List LC)) (plan:LS) (at_:Int) (rule:Int) (i1:Int) (v1:(List Int)):St:=⟨[(9,.adr ah (nS plan at_)),(10,.adr ah (nS plan (nS plan at_).2.1)),(12,.own 167 none),(13,dI i1)],[(167,.arr false aD v1)]⟩
@[reducible] def LP71_1 (columns:(List LC)) (plan:LS) (at_:Int) (rule:Int) (m:Nat) (st_:St) (K:KX):Prop:=True/\bI (t:=aD) (s71_1 columns plan at_ rule) (nS plan at_).2.2.2.2.2.1 (F.kr columns plan at_ rule) (fun v1:(List Int)=>True) (aW (fun v1:(List Int)=>True->K (.exit 1) (⟨[(10,.adr ah (nS plan (nS plan at_).2.1)),(12,.own 167 none)],[(167,.arr false aD v1)]⟩:St)) (fun _=>False)) m st_
def L71 (columns:(List LC)) (plan:LS) (at_:Int) (rule:Int):bC:=lp1 1 (LP71_1 columns plan at_ rule)
@[reducible] def S71_0 (columns:(List LC)) (plan:LS) (at_:Int) (rule:Int) (K:KA):Prop:=(Sm TCS (nth (t:=TCS) columns (nS plan at_).2.1))/\(Sm TPS (nS plan at_).2.2.2.2.1)/\(Sm (Ty.sl aD) (nS plan (nS plan at_).2.1).2.2.2.2.2.1)/\(∀r1:LPt,r1=(M.jU (nth (t:=TCS) columns (nS plan at_).2.1) (nS plan at_).2.2.2.2.1 (nS plan (nS plan at_).2.1).2.2.2.2.2.1)->((([]:List aD.D).length+(nS plan (nS plan at_).2.1).2.2.2.2.2.1.length) * 8<=lim)/\K (.own 0 none) [(0,.arr false ah [(Z2,((nS plan (nS plan at_).2.1).2.1,(Z0,(Z0,(r1,([],())))))),(Z3,(at_,(Z0,(Z0,([],(([]++(nS plan (nS plan at_).2.1).2.2.2.2.2.1),()))))))])])
@[reducible] def S71_1 (columns:(List LC)) (plan:LS) (at_:Int) (rule:Int) (K:KA):Prop:=((([]:List ax.D).length+(nS plan at_).2.2.2.2.1.length) * 48<=lim)/\((([]:List ax.D).length+(nS plan at_).2.2.2.2.1.length) * 48<=lim)/\K (.own 0 none) [(0,.arr false ah [(Z2,((nS plan (nS plan at_).2.1).2.1,(Z0,(Z0,(([]++(nS plan at_).2.2.2.2.1),([],())))))),(Z2,((nS plan (nS plan at_).2.1).2.2.1,(Z0,(Z0,(([]++(nS plan at_).2.2.2.2.1),([],())))))),(Z5,(at_,(wrap64 (at_+Z1),(Z0,([],([],()))))))])]
@[reducible] def S71_2 (columns:(List LC)) (plan:LS) (at_:Int) (rule:Int) (K:KA):Prop:=cond ((decide (rule=(7:Int)))==true) (cond ((decide ((nS plan at_).1=Z6))==true) (cond (decide ((nS plan (nS plan at_).2.1).1=Z6)) (K (.own 0 none) [(0,.arr false ah [(Z6,((nS plan (nS plan at_).2.1).2.1,(Z0,(Z0,([],([],()))))))])]) (K (.own 0 none) [(0,.arr false ah [])])) (K (.own 0 none) [(0,.arr false ah [])])) (K (.own 0 none) [(0,.arr false ah [])])
@[reducible] def S71_3 (columns:(List LC)) (plan:LS) (at_:Int) (rule:Int) (K:KA):Prop:=cond ((decide (rule=Z6))==true) (cond ((decide ((nS plan at_).1=Z3))==true) (cond (decide ((nS plan (nS plan at_).2.1).1=Z3)) (∃m_,True/\bI (t:=aD) (s71_1 columns plan at_ rule) (nS plan at_).2.2.2.2.2.1 (F.kr columns plan at_ rule) (fun v1:(List Int)=>True) (aW (fun v1:(List Int)=>True->K (.own 0 none) [(0,.arr false ah [(Z3,((nS plan (nS plan at_).2.1).2.1,(Z0,(Z0,([],(v1,()))))))])]) (fun _=>False)) m_ (s71_1 columns plan at_ rule Z0 [])) (S71_2 columns plan at_ rule K)) (S71_2 columns plan at_ rule K)) (S71_2 columns plan at_ rule K)
@[reducible] def S71_4 (columns:(List LC)) (plan:LS) (at_:Int) (rule:Int) (K:KA):Prop:=cond ((decide (rule=Z5))==true) (cond ((decide ((nS plan at_).1=Z2))==true) (cond (decide ((nS plan (nS plan at_).2.1).1=Z5)) (Q1 (S71_1 columns plan at_ rule K)) (S71_3 columns plan at_ rule K)) (S71_3 columns plan at_ rule K)) (S71_3 columns plan at_ rule K)
@[reducible] def S71_5 (columns:(List LC)) (plan:LS) (at_:Int) (rule:Int) (K:KA):Prop:=cond ((decide (rule=Z4))==true) (cond ((decide ((nS plan at_).1=Z2))==true) (cond (decide ((nS plan (nS plan at_).2.1).1=Z6)) (((([]:List ax.D).length+(nS plan at_).2.2.2.2.1.length) * 48<=lim)/\K (.own 0 none) [(0,.arr false ah [(Z2,((nS plan (nS plan at_).2.1).2.1,(Z0,(Z0,(([]++(nS plan at_).2.2.2.2.1),([],())))))),(Z6,(at_,(Z0,(Z0,([],([],()))))))])]) (S71_4 columns plan at_ rule K)) (S71_4 columns plan at_ rule K)) (S71_4 columns plan at_ rule K)
@[reducible] def S71_6 (columns:(List LC)) (plan:LS) (at_:Int) (rule:Int) (K:KA):Prop:=cond ((decide (rule=Z3))==true) (cond ((decide ((nS plan at_).1=Z2))==true) (cond (decide ((nS plan (nS plan at_).2.1).1=Z3)) ((0<=(nS plan at_).2.1)/\((nS plan at_).2.1<(columns.length:Int))/\Q0 (S71_0 columns plan at_ rule K)) (S71_5 columns plan at_ rule K)) (S71_5 columns plan at_ rule K)) (S71_5 columns plan at_ rule K)
@[reducible] def S71_7 (columns:(List LC)) (plan:LS) (at_:Int) (rule:Int) (K:KA):Prop:=cond ((decide (rule=Z2))==true) (cond ((decide ((nS plan at_).1=Z2))==true) (cond (decide ((nS plan (nS plan at_).2.1).1=Z4)) ((Sm TPS (nS plan (nS plan at_).2.1).2.2.2.2.1)/\(Sm TPS (nS plan at_).2.2.2.2.1)/\(∀r2:LPt,r2=(M.fS (nS plan (nS plan at_).2.1).2.2.2.2.1 (nS plan at_).2.2.2.2.1)->K (.own 0 none) [(0,.arr false ah [(Z4,((nS plan (nS plan at_).2.1).2.1,((nS plan (nS plan at_).2.1).2.2.1,(Z0,(r2,([],()))))))])])) (S71_6 columns plan at_ rule K)) (S71_6 columns plan at_ rule K)) (S71_6 columns plan at_ rule K)
theorem vc71 (columns:(List LC)) (plan:LS) (at_:Int) (rule:Int) (K:KA):vcT C71 (L71 columns plan at_ rule) ann71 f71 [.data (Ty.sl TCS) columns,.data TSS plan,dI at_,dI rule] [] .raw K =
 ((0<=at_)/\(at_<(plan.length:Int))/\cond (decide ((nS plan at_).1=Z1)) (K (.own 0 none) [(0,.arr false ah [])]) ((0<=(nS plan at_).2.1)/\((nS plan at_).2.1<(plan.length:Int))/\cond ((decide (rule=Z1))==true) (cond ((decide ((nS plan at_).1=Z2))==true) (cond (decide ((nS plan (nS plan at_).2.1).1=Z2)) ((Sm TPS (nS plan (nS plan at_).2.1).2.2.2.2.1)/\(Sm TPS (nS plan at_).2.2.2.2.1)/\(∀r3:LPt,r3=(M.fS (nS plan (nS plan at_).2.1).2.2.2.2.1 (nS plan at_).2.2.2.2.1)->K (.own 0 none) [(0,.arr false ah [(Z2,((nS plan (nS plan at_).2.1).2.1,(Z0,(Z0,(r3,([],()))))))])])) (S71_7 columns plan at_ rule K)) (S71_7 columns plan at_ rule K)) (S71_7 columns plan at_ rule K))):=by kernel_rfl
theorem lvc71_0 (columns:(List LC)) (plan:LS) (at_:Int) (rule:Int)  (i1:Int) (v1:(List Int)) (m:Nat) (K:KX):lvT C71 (L71 columns plan at_ rule) ann71 f71 0 1 (s71_1 columns plan at_ rule i1 v1) m K =
 (cond (decide (i1<((nS plan at_).2.2.2.2.2.1.length:Int))) ((0<=i1)/\(i1<((nS plan at_).2.2.2.2.2.1.length:Int))/\(0<=(nI (nS plan at_).2.2.2.2.2.1 i1))/\((nI (nS plan at_).2.2.2.2.2.1 i1)<((nS plan (nS plan at_).2.1).2.2.2.2.2.1.length:Int))/\((v1.length+[(nI (nS plan (nS plan at_).2.1).2.2.2.2.2.1 (nI (nS plan at_).2.2.2.2.2.1 i1))].length) * 8<=lim)/\(nxT (LP71_1 columns plan at_ rule) m K (s71_1 columns plan at_ rule (wrap64 (i1+Z1)) (v1++[(nI (nS plan (nS plan at_).2.1).2.2.2.2.2.1 (nI (nS plan at_).2.2.2.2.2.1 i1))])))) (K (.exit 1) (⟨[(10,.adr ah (nS plan (nS plan at_).2.1)),(12,.own 167 none)],[(167,.arr false aD v1)]⟩:St))):=by kernel_rfl
theorem con71_ok:br P 71 c71:=bw C71 func71 (kC con121_ok (kC con122_ok kN)) fun args hp K h0=>by
 obtain⟨columns,plan,at_,rule,rfl,rfl,h_columns,h_plan,p0,p1,hK⟩:=g4e h0
 have h:ok (F.sV columns plan at_ rule) (fun r=>K (.own 0 none) [(0,.arr false ah r)]):=aC (F.AF columns plan at_ rule h_columns h_plan p0 p1) (hK _ rfl)
 refine⟨rfl,ann71,(L71 columns plan at_ rule),.raw,(bH (i0:=1) (by kernel_rfl) ?_),?_⟩
 ·rintro _ _ K ⟨hc1,i1,v1,rfl,hl1,rfl,hv1,h⟩
  exact cast (lvc71_0 _ _ _ _ _ _ _ _).symm (aV (t:=aD) hl1 h (fun ht1 h=>⟨hl1,⟨ht1,(oG h fun _ h=>(oG h fun _ h=>(oG h fun _ h=>(aM (t:=aD) (fun _ hm=>⟨hc1,hm⟩) _ rfl hl1 ht1 (bg (aL h_plan at_).2.2.2.2.2.1) trivial h))))⟩⟩) fun h=>(h trivial))
 ·rw[vc71]
  exact(oG h fun _ h=>(oG h fun _ h=>(oC h (fun _ h=>h) fun _ h=>(oG h fun g1 h=>(oG h fun _ h=>(oC h (fun b_6 h=>(oC h (fun _ h=>(oC h (fun _ h=>⟨(aL h_plan (nS plan at_).2.1).2.2.2.2.1,⟨(aL h_plan at_).2.2.2.2.1,(oL h fun _ _ h=>h)⟩⟩) fun _ h=>(bf (uef (aT (bet b_6) (by decide))) (bf (uef (aT (bet b_6) (by decide))) (bf (uef (aT (bet b_6) (by decide))) (bf (uef (aT (bet b_6) (by decide))) (bf (uef (aT (bet b_6) (by decide))) (bf (uef (aT (bet b_6) (by decide))) h)))))))) fun _ h=>(bf (uef (aT (bet b_6) (by decide))) (bf (uef (aT (bet b_6) (by decide))) (bf (uef (aT (bet b_6) (by decide))) (bf (uef (aT (bet b_6) (by decide))) (bf (uef (aT (bet b_6) (by decide))) (bf (uef (aT (bet b_6) (by decide))) h)))))))) fun _ h=>(oC h (fun b_69 h=>(oC h (fun _ h=>(oC h (fun _ h=>⟨(aL h_plan (nS plan at_).2.1).2.2.2.2.1,⟨(aL h_plan at_).2.2.2.2.1,(oL h fun _ _ h=>h)⟩⟩) fun _ h=>(bf (uef (aT (bet b_69) (by decide))) (bf (uef (aT (bet b_69) (by decide))) (bf (uef (aT (bet b_69) (by decide))) (bf (uef (aT (bet b_69) (by decide))) (bf (uef (aT (bet b_69) (by decide))) h))))))) fun _ h=>(bf (uef (aT (bet b_69) (by decide))) (bf (uef (aT (bet b_69) (by decide))) (bf (uef (aT (bet b_69) (by decide))) (bf (uef (aT (bet b_69) (by decide))) (bf (uef (aT (bet b_69) (by decide))) h))))))) fun _ h=>(oC h (fun b_92 h=>(oC h (fun _ h=>(oC h (fun _ h=>⟨g1,(oG h fun _ h=>(q0 (⟨(aL h_columns (nS plan at_).2.1),⟨(aL h_plan at_).2.2.2.2.1,⟨(aL h_plan (nS plan at_).2.1).2.2.2.2.2.1,(oL h fun _ _ h=>⟨(iV (iw aD) (aL h_plan (nS plan at_).2.1).2.2.2.2.2.1 rfl),h⟩)⟩⟩⟩)))⟩) fun _ h=>(bf (uef (aT (bet b_92) (by decide))) (bf (uef (aT (bet b_92) (by decide))) (bf (uef (aT (bet b_92) (by decide))) (bf (uef (aT (bet b_92) (by decide))) h)))))) fun _ h=>(bf (uef (aT (bet b_92) (by decide))) (bf (uef (aT (bet b_92) (by decide))) (bf (uef (aT (bet b_92) (by decide))) (bf (uef (aT (bet b_92) (by decide))) h)))))) fun _ h=>(oC h (fun b_112 h=>(oC h (fun _ h=>(oC h (fun _ h=>⟨(iV (iw ax) (aL h_plan at_).2.2.2.2.1 rfl),h⟩) fun _ h=>(bf (uef (aT (bet b_112) (by decide))) (bf (uef (aT (bet b_112) (by decide))) (bf (uef (aT (bet b_112) (by decide))) h))))) fun _ h=>(bf (uef (aT (bet b_112) (by decide))) (bf (uef (aT (bet b_112) (by decide))) (bf (uef (aT (bet b_112) (by decide))) h))))) fun _ h=>(oC h (fun b_127 h=>(oC h (fun _ h=>(oC h (fun _ h=>(q1 (⟨(iV (iw ax) (aL h_plan at_).2.2.2.2.1 rfl),⟨(iV (iw ax) (aL h_plan at_).2.2.2.2.1 rfl),h⟩⟩))) fun _ h=>(bf (uef (aT (bet b_127) (by decide))) (bf (uef (aT (bet b_127) (by decide))) h)))) fun _ h=>(bf (uef (aT (bet b_127) (by decide))) (bf (uef (aT (bet b_127) (by decide))) h)))) fun _ h=>(oC h (fun b_138 h=>(oC h (fun _ h=>(oC h (fun _ h=>(aQ (t:=aD) (fun m hm=>⟨trivial,hm⟩) _ rfl trivial (aP h (fun v1 h hv1=>h) (fun _ h=>h.elim)))) fun _ h=>(bf (uef (aT (bet b_138) (by decide))) h))) fun _ h=>(bf (uef (aT (bet b_138) (by decide))) h))) fun _ h=>(oC h (fun _ h=>(oC h (fun _ h=>(oC h (fun _ h=>h) fun _ h=>h)) fun _ h=>h)) fun _ h=>h))))))))))))
def c72:Con:=⟨[.dat TSS,.dat aD,.dat TSS],fun args hp K=>g3 (pD TSS) (pD aD) (pD TSS) (fun plan at_ steps=>(Sm TSS plan)/\(Sm TSS steps)/\(0<=at_)/\(at_<(plan.length:Int))/\(∀r:LS,r=(M.bY plan at_ steps)->K (.own 0 none) [(0,.arr false ah r)])) args hp,.plain,false⟩
@[reducible] def C72:Ctx:=cx [(58,c58)] 74 [] 0 false
def ann72:=an [[kp 7],[kp 134],[kp 390],[kp 898],[kp 1922],[kp 536872834],[kp 1922],[kp 3970],[kp 17592186048386],[kp 3970],[kp 9223372036854779778],[kp 3970],[kp 1922],[kp 64]] [[kp 256]]
@[reducible] def s72_0 (plan:LS) (at_:Int) (steps:LS) (c0_0:LS) (i0:Int) (v0:LS):St:=⟨[(1,dI at_),(7,.own 13 none),(8,.own 14 none),(9,dI (wrap64 ((steps.length:Int)-Z1))),(10,dI i0)],[(13,.arr false ah c0_0),(14,.arr false ah v0)]⟩
@[reducible] def LP72_0 (plan:LS) (at_:Int) (steps:LS) (m:Nat) (st_:St) (K:KX):Prop:=∃c0_0:LS,((c0_0.length:Int)<=fG/\True)/\cJ (s72_0 plan at_ steps c0_0) Z0 (c0_0.length:Int) (F.iK plan at_ steps c0_0) (fun v0:LS=>True) (aW (fun v0:LS=>True->K (.exit 0) (⟨[(8,.own 14 none)],[(14,.arr false ah v0)]⟩:St)) (fun _=>False)) m st_
def L72 (plan:LS) (at_:Int) (steps:LS):bC:=lp1 0 (LP72_0 plan at_ steps)
theorem vc72 (plan:LS) (at_:Int) (steps:LS) (K:KA):vcT C72 (L72 plan at_ steps) ann72 f72 [.data TSS plan,dI at_,.data TSS steps] [] .raw K =
 ((Sm TSS plan)/\(∀r1:LS,r1=plan->(0<=Z0)/\(Z0<=at_)/\(at_<=(r1.length:Int))/\(at_=at_)/\((([]:List ah.D).length+(aj r1 (some (Z0,at_))).length) * 80<=lim)/\((([]++(aj r1 (some (Z0,at_)))).length+steps.length) * 80<=lim)/\(∃m_,∃c0_0:LS,((c0_0.length:Int)<=fG/\True)/\cJ (s72_0 plan at_ steps c0_0) Z0 (c0_0.length:Int) (F.iK plan at_ steps c0_0) (fun v0:LS=>True) (aW (fun v0:LS=>True->K (.own 0 none) [(0,.arr false ah v0)]) (fun _=>False)) m_ (s72_0 plan at_ steps r1 (wrap64 (at_+Z1)) (([]++(aj r1 (some (Z0,at_))))++steps))))):=by kernel_rfl
@[reducible] def S72l0_0 (plan:LS) (at_:Int) (steps:LS) (c0_0:LS) (i0:Int) (v0:LS) (m:Nat) (K:KX):Prop:=((v0.length+[((nS c0_0 i0).1,(wrap64 ((nS c0_0 i0).2.1+wrap64 ((steps.length:Int)-Z1)),(nS c0_0 i0).2.2))].length) * 80<=lim)/\(nxT (LP72_0 plan at_ steps) m K (s72_0 plan at_ steps c0_0 (wrap64 (i0+Z1)) (v0++[((nS c0_0 i0).1,(wrap64 ((nS c0_0 i0).2.1+wrap64 ((steps.length:Int)-Z1)),(nS c0_0 i0).2.2))])))
@[reducible] def S72l0_1 (plan:LS) (at_:Int) (steps:LS) (c0_0:LS) (i0:Int) (v0:LS) (m:Nat) (K:KX):Prop:=cond (decide (at_<=(nS c0_0 i0).2.2.1)) (((v0.length+[((nS c0_0 i0).1,(wrap64 ((nS c0_0 i0).2.1+wrap64 ((steps.length:Int)-Z1)),(wrap64 ((nS c0_0 i0).2.2.1+wrap64 ((steps.length:Int)-Z1)),(nS c0_0 i0).2.2.2)))].length) * 80<=lim)/\(nxT (LP72_0 plan at_ steps) m K (s72_0 plan at_ steps c0_0 (wrap64 (i0+Z1)) (v0++[((nS c0_0 i0).1,(wrap64 ((nS c0_0 i0).2.1+wrap64 ((steps.length:Int)-Z1)),(wrap64 ((nS c0_0 i0).2.2.1+wrap64 ((steps.length:Int)-Z1)),(nS c0_0 i0).2.2.2)))])))) (S72l0_0  plan at_ steps c0_0 i0 v0 m K)
@[reducible] def S72l0_2 (plan:LS) (at_:Int) (steps:LS) (c0_0:LS) (i0:Int) (v0:LS) (m:Nat) (K:KX):Prop:=((v0.length+[(nS c0_0 i0)].length) * 80<=lim)/\(nxT (LP72_0 plan at_ steps) m K (s72_0 plan at_ steps c0_0 (wrap64 (i0+Z1)) (v0++[(nS c0_0 i0)])))
@[reducible] def S72l0_3 (plan:LS) (at_:Int) (steps:LS) (c0_0:LS) (i0:Int) (v0:LS) (m:Nat) (K:KX):Prop:=cond (decide (at_<=(nS c0_0 i0).2.2.1)) (((v0.length+[((nS c0_0 i0).1,((nS c0_0 i0).2.1,(wrap64 ((nS c0_0 i0).2.2.1+wrap64 ((steps.length:Int)-Z1)),(nS c0_0 i0).2.2.2)))].length) * 80<=lim)/\(nxT (LP72_0 plan at_ steps) m K (s72_0 plan at_ steps c0_0 (wrap64 (i0+Z1)) (v0++[((nS c0_0 i0).1,((nS c0_0 i0).2.1,(wrap64 ((nS c0_0 i0).2.2.1+wrap64 ((steps.length:Int)-Z1)),(nS c0_0 i0).2.2.2)))])))) (S72l0_2  plan at_ steps c0_0 i0 v0 m K)
@[reducible] def S72l0_4 (plan:LS) (at_:Int) (steps:LS) (c0_0:LS) (i0:Int) (v0:LS) (m:Nat) (K:KX):Prop:=cond ((decide ((nS c0_0 i0).1=Z4))==false) (cond ((decide ((nS c0_0 i0).1=Z5))==true) (S72l0_3  plan at_ steps c0_0 i0 v0 m K) (S72l0_2  plan at_ steps c0_0 i0 v0 m K)) (S72l0_3  plan at_ steps c0_0 i0 v0 m K)
theorem lvc72_0 (plan:LS) (at_:Int) (steps:LS) (c0_0:LS) (i0:Int) (v0:LS) (m:Nat) (K:KX):lvT C72 (L72 plan at_ steps) ann72 f72 0 0 (s72_0 plan at_ steps c0_0 i0 v0) m K =
 (cond (decide (i0<(c0_0.length:Int))) ((0<=i0)/\(i0<(c0_0.length:Int))/\cond ((!decide ((nS c0_0 i0).1=Z1))==true) (cond (decide (at_<=(nS c0_0 i0).2.1)) (cond ((decide ((nS c0_0 i0).1=Z4))==false) (cond ((decide ((nS c0_0 i0).1=Z5))==true) (S72l0_1  plan at_ steps c0_0 i0 v0 m K) (S72l0_0  plan at_ steps c0_0 i0 v0 m K)) (S72l0_1  plan at_ steps c0_0 i0 v0 m K)) (S72l0_4  plan at_ steps c0_0 i0 v0 m K)) (S72l0_4  plan at_ steps c0_0 i0 v0 m K)) (K (.exit 0) (⟨[(8,.own 14 none)],[(14,.arr false ah v0)]⟩:St))):=by kernel_rfl
theorem con72_ok:br P 72 c72:=bw C72 func72 (kC con58_ok kN) fun args hp K h0=>by
 obtain⟨plan,at_,steps,rfl,rfl,h_plan,h_steps,p0,p1,hK⟩:=g3e h0
 have h:ok (F.tc plan at_ steps) (fun r=>K (.own 0 none) [(0,.arr false ah r)]):=aC (F.zZ plan at_ steps h_plan h_steps p0 p1) (hK _ rfl)
 refine⟨rfl,ann72,(L72 plan at_ steps),.raw,(bH (i0:=0) (by kernel_rfl) ?_),?_⟩
 ·rintro _ _ K ⟨c0_0,hc0,i0,v0,rfl,hl0,rfl,hv0,h⟩
  exact cast (lvc72_0 _ _ _ _ _ _ _ _).symm (bV h (fun ht0 h=>⟨hl0,⟨ht0,(oC h (fun _ h=>(oC h (fun _ h=>(oC h (fun _ h=>(oC h (fun _ h=>(oC h (fun _ h=>(oG h fun _ h=>(aU (fun _ hm=>⟨c0_0,hc0,hm⟩) _ rfl hl0 gb ht0 hc0.1 trivial h))) fun _ h=>(oG h fun _ h=>(aU (fun _ hm=>⟨c0_0,hc0,hm⟩) _ rfl hl0 gb ht0 hc0.1 trivial h)))) fun _ h=>(oG h fun _ h=>(aU (fun _ hm=>⟨c0_0,hc0,hm⟩) _ rfl hl0 gb ht0 hc0.1 trivial h)))) fun _ h=>(oC h (fun _ h=>(oG h fun _ h=>(aU (fun _ hm=>⟨c0_0,hc0,hm⟩) _ rfl hl0 gb ht0 hc0.1 trivial h))) fun _ h=>(oG h fun _ h=>(aU (fun _ hm=>⟨c0_0,hc0,hm⟩) _ rfl hl0 gb ht0 hc0.1 trivial h))))) fun _ h=>(oC h (fun _ h=>(oC h (fun _ h=>(oC h (fun _ h=>(oG h fun _ h=>(aU (fun _ hm=>⟨c0_0,hc0,hm⟩) _ rfl hl0 gb ht0 hc0.1 trivial h))) fun _ h=>(oG h fun _ h=>(aU (fun _ hm=>⟨c0_0,hc0,hm⟩) _ rfl hl0 gb ht0 hc0.1 trivial h)))) fun _ h=>(oG h fun _ h=>(aU (fun _ hm=>⟨c0_0,hc0,hm⟩) _ rfl hl0 gb ht0 hc0.1 trivial h)))) fun _ h=>(oC h (fun _ h=>(oG h fun _ h=>(aU (fun _ hm=>⟨c0_0,hc0,hm⟩) _ rfl hl0 gb ht0 hc0.1 trivial h))) fun _ h=>(oG h fun _ h=>(aU (fun _ hm=>⟨c0_0,hc0,hm⟩) _ rfl hl0 gb ht0 hc0.1 trivial h)))))) fun b_32 h=>(bM (ugt (aT (bnf (bef b_32)) (by decide))) (bf (uef (aT (bnf (bef b_32)) (by decide))) (oG h fun _ h=>(aU (fun _ hm=>⟨c0_0,hc0,hm⟩) _ rfl hl0 gb ht0 hc0.1 trivial h)))))⟩⟩) fun h=>(h trivial))
 ·rw[vc72]
  exact⟨h_plan,(oL h fun r1 _ h=>⟨(Int.natCast_nonneg 0),(oG h fun _ h=>(oG h fun _ h=>⟨rfl,(oG h fun _ h=>(oG h fun _ h=>(have hi_0:=(aB h).1;have hlo:=(aB (aB h).2).1;have h:=(aB (aB h).2).2;(bJ (fun m hm=>⟨r1,⟨hi_0,trivial⟩,hm⟩) (wrap64 (at_+Z1)) _ rfl hlo trivial (aP h (fun v0 h hv0=>h) (fun _ h=>h.elim))))))⟩))⟩)⟩
def c30:Con:=⟨[.dat TTb,.dat TSS,.dat aD,.dat aD],fun args hp K=>g4 (pD TTb) (pD TSS) (pD aD) (pD aD) (fun tables plan at_ rule=>(Sm TTb tables)/\(Sm TSS plan)/\(∀r:LS×Bool,r=(M.ck tables plan at_ rule)->K (.tup [.data TSS r.1,dB r.2]) [])) args hp,.plain,false⟩
@[reducible] def C30:Ctx:=cx [(57,c57),(58,c58),(69,c69),(70,c70),(71,c71),(72,c72)] 59 [] 0 false
def ann30:=an [[kp 15],[kp 1073741839],[kp 768],[kp 1039],[kp 4103],[kp 35184372092935],[kp 768],[kp 8195],[.keep [1,13,55]],[kp 768],[kp 768]] []
theorem vc30 (tables:LTb) (plan:LS) (at_:Int) (rule:Int) (K:KA):vcT C30 aE ann30 f30 [.data TTb tables,.data TSS plan,dI at_,dI rule] [] (.tup [TSS,Ty.bool]) K =
 ((Sm TTb tables)/\(Sm TSS plan)/\cond ((!(M.bB tables plan))==false) (cond ((!(M.inR at_ Z0 (wrap64 ((plan.length:Int)-Z1))))==false) (cond (!(M.inR rule Z1 (7:Int))) (K (.tup [.data TSS [],dB false]) []) ((Sm TTb tables)/\(Sm TSS plan)/\(∀r1:(List LC)×Bool,r1=(M.cn tables plan)->(Sm (Ty.sl TCS) r1.1)/\(Sm TSS plan)/\(M.iG plan at_)/\(M.mI r1.1 plan at_)/\(∀r2:LS,r2=(M.bS plan at_ rule)->cond (decide ((r2.length:Int)=Z0)) ((Sm TSS plan)/\(∀r3:LS,r3=plan->K (.tup [.data TSS r3,dB false]) [])) ((Sm TSS plan)/\(Sm TSS r2)/\(0<=at_)/\(at_<(plan.length:Int))/\(∀r4:LS,r4=(M.bY plan at_ r2)->(Sm TTb tables)/\(Sm TSS r4)/\cond (!(M.bB tables r4)) ((Sm TSS plan)/\(∀r5:LS,r5=plan->K (.tup [.data TSS r5,dB false]) [])) (K (.tup [.data TSS r4,dB true]) []))))))) (K (.tup [.data TSS [],dB false]) [])) (K (.tup [.data TSS [],dB false]) [])):=by kernel_rfl
theorem con30_ok:br P 30 c30:=bw C30 func30 (kC con57_ok (kC con58_ok (kC con69_ok (kC con70_ok (kC con71_ok (kC con72_ok kN)))))) fun args hp K h0=>by
 obtain⟨tables,plan,at_,rule,rfl,rfl,h_tables,h_plan,hK⟩:=g4e h0
 have h:ok (F.lf tables plan at_ rule) (fun r=>K (.tup [.data TSS r.1,dB r.2]) []):=aC (F.tw tables plan at_ rule h_tables h_plan) (hK _ rfl)
 refine⟨rfl,ann30,aE,(.tup [TSS,Ty.bool]),(aK (by kernel_rfl)),?_⟩
 ·rw[vc30]
  exact⟨h_tables,⟨h_plan,(oC h (fun _ h=>(oC h (fun b_2 h=>(oC h (fun _ h=>h) fun _ h=>⟨h_tables,⟨h_plan,(oL h fun _ _ h=>(oG h fun _ h=>⟨h_plan,(oG h fun _ h=>(oG h fun _ h=>(oL h fun _ _ h=>(oC h (fun _ h=>⟨h_plan,(oL h fun _ _ h=>h)⟩) fun _ h=>⟨h_plan,(oG h fun _ h=>⟨(dP (bnf (bgt b_2))),⟨(iz (bnf (bgt b_2))),(oL h fun _ _ h=>⟨h_tables,(oG h fun _ h=>(oC h (fun _ h=>⟨h_plan,(oL h fun _ _ h=>h)⟩) fun _ h=>h))⟩)⟩⟩)⟩))))⟩))⟩⟩)) fun _ h=>h)) fun _ h=>h)⟩⟩
@[reducible] def C39:Ctx:=cx [] 11 [] 200000 false
def T39:Inl:=uz C39 (fun _=>[]) (dN f39) f39.results.toList
theorem inlOk39:vA P 39 T39:=Az C39 func39 kN
def c41:Con:=⟨[.any,.dat aD],fun args hp K=>hpR (fun b p=>args2 (fun a0 a1=>nx a0 (fI aD a1 fun n=>(Sm (Ty.sl (Ty.int .u8)) b)/\(M.ay b)/\(0<=p)/\(p<=1000000000000000)/\(∀r:Int×Int,r=(M.pick b p n)->K (dI r.1) [(1000000,.box [.data (Ty.sl (Ty.int .u8)) b,dI r.2])]))) args []) hp,.plain,true⟩
@[reducible] def C41:Ctx:=cx [] 99 [] 0 false
def ann41:=an [[kp 3],[kp 3],[kp 16777219],[kp 16],[kp 35],[kp 68719476771],[kp 16],[kp 66],[kp 66],[kp 16]] []
@[reducible] def S41_0 (b:(List Int)) (p:Int) (n:Int) (K:KA):Prop:=K (dI Z0) [(1000000,.box [.data (Ty.sl (Ty.int .u8)) b,dI (wrap64 (p+Z1))])]
@[reducible] def S41_1 (b:(List Int)) (p:Int) (n:Int) (K:KA):Prop:=((64:Int)≠0)/\(n≠0)/\K (dI ((nj .xor .i64 (wrap64 (wrap64 (wrap64 (wrap64 ((wrap64 (nth (t:=(Ty.int .u8)) b ((wrap64 (wrap64 (p+Z1)-Z1)).tmod (b.length:Int)))) * (131:Int))+wrap64 ((wrap64 (nth (t:=(Ty.int .u8)) b ((wrap64 (wrap64 ((wrap64 (wrap64 (p+Z1)-Z1)) * (7:Int))+Z3)).tmod (b.length:Int)))) * (1117:Int)))+wrap64 ((wrap64 (wrap64 (p+Z1)-Z1)) * (29:Int)))+wrap64 ((wrap64 ((wrap64 (wrap64 (p+Z1)-Z1)).tdiv (b.length:Int))) * (53:Int)))) (wrap64 ((wrap64 (wrap64 (wrap64 (wrap64 ((wrap64 (nth (t:=(Ty.int .u8)) b ((wrap64 (wrap64 (p+Z1)-Z1)).tmod (b.length:Int)))) * (131:Int))+wrap64 ((wrap64 (nth (t:=(Ty.int .u8)) b ((wrap64 (wrap64 ((wrap64 (wrap64 (p+Z1)-Z1)) * (7:Int))+Z3)).tmod (b.length:Int)))) * (1117:Int)))+wrap64 ((wrap64 (wrap64 (p+Z1)-Z1)) * (29:Int)))+wrap64 ((wrap64 ((wrap64 (wrap64 (p+Z1)-Z1)).tdiv (b.length:Int))) * (53:Int)))).tdiv (64:Int)))).tmod n)) [(1000000,.box [.data (Ty.sl (Ty.int .u8)) b,dI (wrap64 (p+Z1))])]
@[reducible] def S41_2 (b:(List Int)) (p:Int) (n:Int) (K:KA):Prop:=(S41_1 b p n K)
theorem vc41 (b:(List Int)) (p:Int) (n:Int) (K:KA):vcT C41 aE ann41 f41 [.ptr 1000000 0,dI n] [(1000000,.box [.data (Ty.sl (Ty.int .u8)) b,dI p])] (.dat aD) K =
 (cond ((decide (n<Z1))==false) (cond (decide ((b.length:Int)=Z0)) (S41_0 b p n K) (cond (decide (wrap64 (wrap64 (p+Z1)-Z1)<(b.length:Int))) ((0<=wrap64 (wrap64 (p+Z1)-Z1))/\(wrap64 (wrap64 (p+Z1)-Z1)<(b.length:Int))/\(n≠0)/\K (dI ((wrap64 (nth (t:=(Ty.int .u8)) b (wrap64 (wrap64 (p+Z1)-Z1)))).tmod n)) [(1000000,.box [.data (Ty.sl (Ty.int .u8)) b,dI (wrap64 (p+Z1))])]) (((b.length:Int)≠0)/\(0<=((wrap64 (wrap64 (p+Z1)-Z1)).tmod (b.length:Int)))/\(((wrap64 (wrap64 (p+Z1)-Z1)).tmod (b.length:Int))<(b.length:Int))/\((b.length:Int)≠0)/\(0<=((wrap64 (wrap64 ((wrap64 (wrap64 (p+Z1)-Z1)) * (7:Int))+Z3)).tmod (b.length:Int)))/\(((wrap64 (wrap64 ((wrap64 (wrap64 (p+Z1)-Z1)) * (7:Int))+Z3)).tmod (b.length:Int))<(b.length:Int))/\((b.length:Int)≠0)/\Q0 (S41_2 b p n K)))) (S41_0 b p n K)):=by kernel_rfl
theorem con41_ok:br P 41 c41:=bw C41 func41 kN fun args hp K h0=>by
 unfold c41 at h0
 dsimp only at h0
 obtain⟨b,p,rfl,h00⟩:=fq h0
 obtain⟨a0,a1,rfl,_,h1⟩:=bW h00
 obtain⟨rfl,h2⟩:=dz h1
 obtain⟨n,rfl,h3⟩:=bE h2
 obtain⟨h_b,p0,p1,p2,hK⟩:=h3
 have h:ok (F.ov b p n) (fun r=>K (dI r.1) [(1000000,.box [.data (Ty.sl (Ty.int .u8)) b,dI r.2])]):=aC (F.Ce b p n h_b p0 p1 p2) (hK _ rfl)
 refine⟨rfl,ann41,aE,(.dat aD),(aK (by kernel_rfl)),?_⟩
 ·rw[vc41]
  exact(oC h (fun _ h=>(oC h (fun _ h=>h) fun _ h=>(oC h (fun _ h=>(oG h fun _ h=>(oG h fun _ h=>(oG h fun _ h=>h)))) fun _ h=>(oG h fun g1 h=>(oG h fun _ h=>(oG h fun _ h=>⟨g1,(oG h fun _ h=>(oG h fun _ h=>⟨g1,(q0 (⟨(by decide),(oG h fun _ h=>h)⟩))⟩))⟩)))))) fun _ h=>h)
def c129:Con:=⟨[.any,.dat ag],fun args hp K=>hpR (fun b p=>args2 (fun a0 a1=>nx a0 (fI ag a1 fun c=>(Sm (Ty.sl (Ty.int .u8)) b)/\(M.ay b)/\(0<=p)/\(p<=998000000000000)/\(∀r:aa.D×Int,r=(M.kD b p c)->K (.data aa r.1) [(1000000,.box [.data (Ty.sl (Ty.int .u8)) b,dI r.2])]))) args []) hp,.plain,true⟩
@[reducible] def C129:Ctx:=cx [(41,c41)] 31 [] 0 false
def ann129:=an [[.fixRow 3 ag,kp 25],[kp 2073],[kp 16],[kp 16401],[kp 49169],[kp 16],[kp 1048593],[kp 16],[kp 16]] []
theorem vc129 (b:(List Int)) (p:Int) (c:ag.D) (K:KA):vcT C129 aE ann129 f129 [.ptr 1000000 0,.data ag c] [(1000000,.box [.data (Ty.sl (Ty.int .u8)) b,dI p])] (.dat aa) K =
 (cond (c.2.1==true) ((Sm (Ty.sl (Ty.int .u8)) b)/\(M.ay b)/\(0<=p)/\(p<=1000000000000000)/\(∀r1:Int×Int,r1=(M.pick b p Z5)->cond (decide (r1.1=Z0)) (K (.data aa (Z0,(Z0,((⟨#[]⟩:ByteArray),())))) [(1000000,.box [.data (Ty.sl (Ty.int .u8)) b,dI r1.2])]) (cond (decide (c.1=Z1)) ((Sm (Ty.sl (Ty.int .u8)) b)/\(M.ay b)/\(0<=r1.2)/\(r1.2<=1000000000000000)/\(∀r2:Int×Int,r2=(M.pick b r1.2 Z4)->K (.data aa (Z1,(r2.1,((⟨#[]⟩:ByteArray),())))) [(1000000,.box [.data (Ty.sl (Ty.int .u8)) b,dI r2.2])])) (cond (decide (c.1=Z2)) ((Sm (Ty.sl (Ty.int .u8)) b)/\(M.ay b)/\(0<=r1.2)/\(r1.2<=1000000000000000)/\(∀r3:Int×Int,r3=(M.pick b r1.2 Z4)->(0<=r3.1)/\(r3.1<([(⟨#[]⟩:ByteArray),(⟨#[97]⟩:ByteArray),(⟨#[98]⟩:ByteArray),(⟨#[97,98]⟩:ByteArray)].length:Int))/\K (.data aa (Z2,(Z0,((nth (t:=Ty.str) [(⟨#[]⟩:ByteArray),(⟨#[97]⟩:ByteArray),(⟨#[98]⟩:ByteArray),(⟨#[97,98]⟩:ByteArray)] r3.1),())))) [(1000000,.box [.data (Ty.sl (Ty.int .u8)) b,dI r3.2])])) ((Sm (Ty.sl (Ty.int .u8)) b)/\(M.ay b)/\(0<=r1.2)/\(r1.2<=1000000000000000)/\(∀r4:Int×Int,r4=(M.pick b r1.2 Z2)->K (.data aa (Z3,(r4.1,((⟨#[]⟩:ByteArray),())))) [(1000000,.box [.data (Ty.sl (Ty.int .u8)) b,dI r4.2])])))))) (cond (decide (c.1=Z1)) ((Sm (Ty.sl (Ty.int .u8)) b)/\(M.ay b)/\(0<=p)/\(p<=1000000000000000)/\(∀r2:Int×Int,r2=(M.pick b p Z4)->K (.data aa (Z1,(r2.1,((⟨#[]⟩:ByteArray),())))) [(1000000,.box [.data (Ty.sl (Ty.int .u8)) b,dI r2.2])])) (cond (decide (c.1=Z2)) ((Sm (Ty.sl (Ty.int .u8)) b)/\(M.ay b)/\(0<=p)/\(p<=1000000000000000)/\(∀r3:Int×Int,r3=(M.pick b p Z4)->(0<=r3.1)/\(r3.1<([(⟨#[]⟩:ByteArray),(⟨#[97]⟩:ByteArray),(⟨#[98]⟩:ByteArray),(⟨#[97,98]⟩:ByteArray)].length:Int))/\K (.data aa (Z2,(Z0,((nth (t:=Ty.str) [(⟨#[]⟩:ByteArray),(⟨#[97]⟩:ByteArray),(⟨#[98]⟩:ByteArray),(⟨#[97,98]⟩:ByteArray)] r3.1),())))) [(1000000,.box [.data (Ty.sl (Ty.int .u8)) b,dI r3.2])])) ((Sm (Ty.sl (Ty.int .u8)) b)/\(M.ay b)/\(0<=p)/\(p<=1000000000000000)/\(∀r4:Int×Int,r4=(M.pick b p Z2)->K (.data aa (Z3,(r4.1,((⟨#[]⟩:ByteArray),())))) [(1000000,.box [.data (Ty.sl (Ty.int .u8)) b,dI r4.2])]))))):=by kernel_rfl
theorem con129_ok:br P 129 c129:=bw C129 func129 (kC con41_ok kN) fun args hp K h0=>by
 unfold c129 at h0
 dsimp only at h0
 obtain⟨b,p,rfl,h00⟩:=fq h0
 obtain⟨a0,a1,rfl,_,h1⟩:=bW h00
 obtain⟨rfl,h2⟩:=dz h1
 obtain⟨c,rfl,h3⟩:=bE h2
 obtain⟨h_b,p0,p1,p2,hK⟩:=h3
 have h:ok (F.jz b p c) (fun r=>K (.data aa r.1) [(1000000,.box [.data (Ty.sl (Ty.int .u8)) b,dI r.2])]):=aC (F.xP b p c h_b p0 p1 p2) (hK _ rfl)
 refine⟨rfl,ann129,aE,(.dat aa),(aK (by kernel_rfl)),?_⟩
 ·rw[vc129]
  exact(oC h (fun _ h=>⟨h_b,⟨p0,⟨p1,(oG h fun _ h=>(oL h fun _ _ h=>(oC h (fun _ h=>h) fun _ h=>(oC h (fun _ h=>⟨h_b,⟨p0,(oG h fun _ h=>(oG h fun _ h=>(oL h fun _ _ h=>h)))⟩⟩) fun _ h=>(oC h (fun _ h=>⟨h_b,⟨p0,(oG h fun _ h=>(oG h fun _ h=>(oL h fun _ _ h=>(oG h fun _ h=>(oG h fun _ h=>h)))))⟩⟩) fun _ h=>⟨h_b,⟨p0,(oG h fun _ h=>(oG h fun _ h=>(oL h fun _ _ h=>h)))⟩⟩)))))⟩⟩⟩) fun _ h=>(oC h (fun _ h=>⟨h_b,⟨p0,⟨p1,(oG h fun _ h=>(oL h fun _ _ h=>h))⟩⟩⟩) fun _ h=>(oC h (fun _ h=>⟨h_b,⟨p0,⟨p1,(oG h fun _ h=>(oL h fun _ _ h=>(oG h fun _ h=>(oG h fun _ h=>h))))⟩⟩⟩) fun _ h=>⟨h_b,⟨p0,⟨p1,(oG h fun _ h=>(oL h fun _ _ h=>h))⟩⟩⟩)))
def c91:Con:=⟨[.any,.dat TCS,.dat aD],fun args hp K=>hpR (fun b p=>zz (fun a0 a1 a2=>nx a0 (fI TCS a1 fun columns=>fI aD a2 fun kind=>(Sm (Ty.sl (Ty.int .u8)) b)/\(Sm TCS columns)/\(M.ay b)/\(0<=p)/\(p<=997000000000000)/\(∀r:ax.D×Int,r=(M.dH b p columns kind)->K (.data ax r.1) [(1000000,.box [.data (Ty.sl (Ty.int .u8)) b,dI r.2])]))) args []) hp,.plain,true⟩
@[reducible] def C91:Ctx:=cx [(41,c41),(129,c129)] 41 [] 0 false
def ann91:=an [[kp 71],[kp 199],[kp 32967],[kp 199],[kp 455],[kp 8589935047],[kp 64],[kp 64]] [[kp 69]]
@[reducible] def s91_0 (b:(List Int)) (p:Int) (columns:LC) (kind:Int) (v0:Int×Int):St:=⟨[(0,.ptr 1000000 0),(1,.data TCS columns),(2,dI kind),(6,.ptr 6 0),(7,dI v0.1)],[(1000000,.box [.data (Ty.sl (Ty.int .u8)) b,dI v0.2]),(6,.box [dI Z0,dI Z0,dI Z0,dI Z0,.data Ty.str (⟨#[]⟩:ByteArray)])]⟩
@[reducible] def LP91_0 (b:(List Int)) (p:Int) (columns:LC) (kind:Int) (m:Nat) (st_:St) (K:KX):Prop:=True/\ep (s91_0 b p columns kind) (F.iP b p columns kind) (fun v0:Int×Int=>True) (aW (fun e0:Int=>True->K (.exit 0) (⟨[(0,.ptr 1000000 0),(2,dI kind),(6,.ptr 6 0)],[(1000000,.box [.data (Ty.sl (Ty.int .u8)) b,dI e0]),(6,.box [dI Z0,dI Z0,dI Z0,dI Z0,.data Ty.str (⟨#[]⟩:ByteArray)])]⟩:St)) (fun q0:Int×Int=>K .ret (⟨[(6,.ptr 6 0)],[(1000000,.box [.data (Ty.sl (Ty.int .u8)) b,dI q0.1]),(6,.box [dI Z2,dI q0.2,dI Z0,dI Z0,.data Ty.str (⟨#[]⟩:ByteArray)])]⟩:St))) m st_
def L91 (b:(List Int)) (p:Int) (columns:LC) (kind:Int):bC:=lp1 0 (LP91_0 b p columns kind)
theorem vc91 (b:(List Int)) (p:Int) (columns:LC) (kind:Int) (K:KA):vcT C91 (L91 b p columns kind) ann91 f91 [.ptr 1000000 0,.data TCS columns,dI kind] [(1000000,.box [.data (Ty.sl (Ty.int .u8)) b,dI p])] (.dat ax) K =
 (∃m_,True/\ep (s91_0 b p columns kind) (F.iP b p columns kind) (fun v0:Int×Int=>True) (aW (fun e0:Int=>True->(Sm (Ty.sl (Ty.int .u8)) b)/\(M.ay b)/\(0<=e0)/\(e0<=998000000000000)/\(∀r1:aa.D×Int,r1=(M.kD b e0 (kind,(false,())))->K (.data ax (Z1,(Z0,(r1.1,())))) [(1000000,.box [.data (Ty.sl (Ty.int .u8)) b,dI r1.2])])) (fun q0:Int×Int=>K (.data ax (Z2,(q0.2,((Z0,(Z0,((⟨#[]⟩:ByteArray),()))),())))) [(1000000,.box [.data (Ty.sl (Ty.int .u8)) b,dI q0.1])])) m_ (s91_0 b p columns kind (Z0,p))):=by kernel_rfl
@[reducible] def S91l0_0 (b:(List Int)) (p:Int) (columns:LC) (kind:Int)  (v0:Int×Int) (m:Nat) (K:KX):Prop:=K (.exit 0) (⟨[(0,.ptr 1000000 0),(2,dI kind),(6,.ptr 6 0)],[(1000000,.box [.data (Ty.sl (Ty.int .u8)) b,dI v0.2]),(6,.box [dI Z0,dI Z0,dI Z0,dI Z0,.data Ty.str (⟨#[]⟩:ByteArray)])]⟩:St)
theorem lvc91_0 (b:(List Int)) (p:Int) (columns:LC) (kind:Int)  (v0:Int×Int) (m:Nat) (K:KX):lvT C91 (L91 b p columns kind) ann91 f91 0 0 (s91_0 b p columns kind v0) m K =
 (cond ((decide (v0.1<Z4))==true) (cond (decide (Z0<(columns.length:Int))) ((Sm (Ty.sl (Ty.int .u8)) b)/\(M.ay b)/\(0<=v0.2)/\(v0.2<=1000000000000000)/\(∀r2:Int×Int,r2=(M.pick b v0.2 (columns.length:Int))->(0<=r2.1)/\(r2.1<(columns.length:Int))/\cond ((decide ((nC columns r2.1).1=kind))==true) ((Sm (Ty.sl (Ty.int .u8)) b)/\(M.ay b)/\(0<=r2.2)/\(r2.2<=1000000000000000)/\(∀r3:Int×Int,r3=(M.pick b r2.2 Z3)->cond (decide (Z0<r3.1)) (K .ret (⟨[(6,.ptr 6 0)],[(1000000,.box [.data (Ty.sl (Ty.int .u8)) b,dI r3.2]),(6,.box [dI Z2,dI r2.1,dI Z0,dI Z0,.data Ty.str (⟨#[]⟩:ByteArray)])]⟩:St)) (nxT (LP91_0 b p columns kind) m K (s91_0 b p columns kind (wrap64 (v0.1+Z1),r3.2))))) (nxT (LP91_0 b p columns kind) m K (s91_0 b p columns kind (wrap64 (v0.1+Z1),r2.2))))) (S91l0_0  b p columns kind v0 m K)) (S91l0_0  b p columns kind v0 m K)):=by kernel_rfl
theorem con91_ok:br P 91 c91:=bw C91 func91 (kC con41_ok (kC con129_ok kN)) fun args hp K h0=>by
 unfold c91 at h0
 dsimp only at h0
 obtain⟨b,p,rfl,h00⟩:=fq h0
 obtain⟨a0,a1,a2,rfl,_,h1⟩:=mU h00
 obtain⟨rfl,h2⟩:=dz h1
 obtain⟨columns,rfl,h3⟩:=bE h2
 obtain⟨kind,rfl,h4⟩:=bE h3
 obtain⟨h_b,h_columns,p0,p1,p2,hK⟩:=h4
 have h:ok (F.jr b p columns kind) (fun r=>K (.data ax r.1) [(1000000,.box [.data (Ty.sl (Ty.int .u8)) b,dI r.2])]):=aC (F.xH b p columns kind h_b h_columns p0 p1 p2) (hK _ rfl)
 refine⟨rfl,ann91,(L91 b p columns kind),(.dat ax),(bH (i0:=0) (by kernel_rfl) ?_),?_⟩
 ·rintro _ _ K ⟨hc0,v0,rfl,hv0,h⟩
  exact cast (lvc91_0 _ _ _ _ _ _ _).symm (cX h (fun m1 hm0 h=>(oC h (fun _ h=>(oC h (fun _ h=>⟨h_b,(oG h fun g1 h=>(oG h fun _ h=>(oG h fun _ h=>(oL h fun _ _ h=>(oG h fun _ h=>(oG h fun _ h=>(oC h (fun _ h=>⟨h_b,⟨g1,(oG h fun _ h=>(oG h fun _ h=>(oL h fun _ _ h=>(oC h (fun _ h=>h) fun _ h=>(bF (fun _ hm=>⟨hc0,hm⟩) hm0 _ rfl trivial h)))))⟩⟩) fun _ h=>(bF (fun _ hm=>⟨hc0,hm⟩) hm0 _ rfl trivial h))))))))⟩) fun _ h=>((cz h :) trivial))) fun _ h=>((cz h :) trivial))))
 ·rw[vc91]
  exact(cu (fun m hm=>⟨trivial,hm⟩) _ rfl trivial (aP h (fun e0 h hv0=>⟨h_b,⟨p0,(oG h fun _ h=>(oG h fun _ h=>(oL h fun _ _ h=>h)))⟩⟩) (fun q0 h=>h)))
def c42r (n_:Nat):Con:=⟨[.any,.dat TCS,.dat aD,.dat aD],fun args hp K=>hpR (fun b p=>EO (fun a0 a1 a2 a3=>nx a0 (fI TCS a1 fun columns=>fI aD a2 fun kind=>fI aD a3 fun deep=>(Sm (Ty.sl (Ty.int .u8)) b)/\(Sm TCS columns)/\(M.ay b)/\(0<=p)/\(p+40 * (M.eB deep:Int)<=996000000000000)/\(deep<=3)/\(deep.toNat<n_)/\(∀r:LPt×Int,r=(M.bD n_ b p columns kind deep)->K (.own 0 none) [(0,.arr false ax r.1),(1000000,.box [.data (Ty.sl (Ty.int .u8)) b,dI r.2])]))) args []) hp,.plain,true⟩
@[reducible] def C42 (n_:Nat):Ctx:=cx [(41,c41),(91,c91),(42,c42r n_)] 111 [] 0 false
def ann42:=an [[kp 15],[kp 65551],[kp 256],[kp 8388623],[kp 256],[kp 1099511627791],[kp 256],[kp 140737488355339],[kp 422212465065995],[kp 256],[.keep [0,1,3,47,67]],[kp 256],[.keep [0,1,3,77]],[kp 256],[kp 523],[kp 256]] []
theorem vc42 (n_:Nat) (b:(List Int)) (p:Int) (columns:LC) (kind:Int) (deep:Int) (K:KA):vcT (C42 n_) aE ann42 f42 [.ptr 1000000 0,.data TCS columns,dI kind,dI deep] [(1000000,.box [.data (Ty.sl (Ty.int .u8)) b,dI p])] .raw K =
 (cond ((decide (deep<Z1))==false) ((Sm (Ty.sl (Ty.int .u8)) b)/\(M.ay b)/\(0<=p)/\(p<=1000000000000000)/\(∀r1:Int×Int,r1=(M.pick b p Z4)->cond (decide (r1.1=Z0)) ((Sm (Ty.sl (Ty.int .u8)) b)/\(Sm TCS columns)/\(M.ay b)/\(0<=r1.2)/\(r1.2<=997000000000000)/\(∀r2:ax.D×Int,r2=(M.dH b r1.2 columns kind)->K (.own 0 none) [(0,.arr false ax [r2.1]),(1000000,.box [.data (Ty.sl (Ty.int .u8)) b,dI r2.2])])) (cond (decide (kind=Z1)) ((Sm (Ty.sl (Ty.int .u8)) b)/\(Sm TCS columns)/\(M.ay b)/\(0<=r1.2)/\(r1.2+40 * (M.eB (wrap64 (deep-Z1)):Int)<=996000000000000)/\((wrap64 (deep-Z1))<=3)/\((wrap64 (deep-Z1)).toNat<n_)/\(∀r3:LPt×Int,r3=(M.bD n_ b r1.2 columns kind (wrap64 (deep-Z1)))->(Sm (Ty.sl (Ty.int .u8)) b)/\(Sm TCS columns)/\(M.ay b)/\(0<=r3.2)/\(r3.2<=997000000000000)/\(∀r4:ax.D×Int,r4=(M.dH b r3.2 columns kind)->((r3.1.length+[r4.1].length) * 48<=lim)/\(((r3.1++[r4.1]).length+([(Z3,(Z0,((Z0,(Z0,((⟨#[]⟩:ByteArray),()))),())))]:List ax.D).length) * 48<=lim)/\K (.own 0 none) [(0,.arr false ax ((r3.1++[r4.1])++[(Z3,(Z0,((Z0,(Z0,((⟨#[]⟩:ByteArray),()))),())))])),(1000000,.box [.data (Ty.sl (Ty.int .u8)) b,dI r4.2])]))) (cond (decide (kind=Z2)) ((Sm (Ty.sl (Ty.int .u8)) b)/\(Sm TCS columns)/\(M.ay b)/\(0<=r1.2)/\(r1.2<=997000000000000)/\(∀r5:ax.D×Int,r5=(M.dH b r1.2 columns kind)->K (.own 0 none) [(0,.arr false ax [r5.1]),(1000000,.box [.data (Ty.sl (Ty.int .u8)) b,dI r5.2])])) ((Sm (Ty.sl (Ty.int .u8)) b)/\(M.ay b)/\(0<=r1.2)/\(r1.2<=1000000000000000)/\(∀r6:Int×Int,r6=(M.pick b r1.2 Z6)->cond (decide (r6.1=Z0)) ((Sm (Ty.sl (Ty.int .u8)) b)/\(Sm TCS columns)/\(M.ay b)/\(0<=r6.2)/\(r6.2+40 * (M.eB (wrap64 (deep-Z1)):Int)<=996000000000000)/\((wrap64 (deep-Z1))<=3)/\((wrap64 (deep-Z1)).toNat<n_)/\(∀r7:LPt×Int,r7=(M.bD n_ b r6.2 columns Z3 (wrap64 (deep-Z1)))->(Sm (Ty.sl (Ty.int .u8)) b)/\(Sm TCS columns)/\(M.ay b)/\(0<=r7.2)/\(r7.2+40 * (M.eB (wrap64 (deep-Z2)):Int)<=996000000000000)/\((wrap64 (deep-Z2))<=3)/\((wrap64 (deep-Z2)).toNat<n_)/\(∀r8:LPt×Int,r8=(M.bD n_ b r7.2 columns Z3 (wrap64 (deep-Z2)))->((r7.1.length+r8.1.length) * 48<=lim)/\(Sm (Ty.sl (Ty.int .u8)) b)/\(M.ay b)/\(0<=r8.2)/\(r8.2<=1000000000000000)/\(∀r9:Int×Int,r9=(M.pick b r8.2 Z2)->(((r7.1++r8.1).length+([(wrap64 (Z5+r9.1),(Z0,((Z0,(Z0,((⟨#[]⟩:ByteArray),()))),())))]:List ax.D).length) * 48<=lim)/\K (.own 0 none) [(0,.arr false ax ((r7.1++r8.1)++[(wrap64 (Z5+r9.1),(Z0,((Z0,(Z0,((⟨#[]⟩:ByteArray),()))),())))])),(1000000,.box [.data (Ty.sl (Ty.int .u8)) b,dI r9.2])])))) (cond (decide (r6.1=Z1)) ((Sm (Ty.sl (Ty.int .u8)) b)/\(Sm TCS columns)/\(M.ay b)/\(0<=r6.2)/\(r6.2+40 * (M.eB (wrap64 (deep-Z1)):Int)<=996000000000000)/\((wrap64 (deep-Z1))<=3)/\((wrap64 (deep-Z1)).toNat<n_)/\(∀r10:LPt×Int,r10=(M.bD n_ b r6.2 columns Z3 (wrap64 (deep-Z1)))->((r10.1.length+([((7:Int),(Z0,((Z0,(Z0,((⟨#[]⟩:ByteArray),()))),())))]:List ax.D).length) * 48<=lim)/\K (.own 0 none) [(0,.arr false ax (r10.1++[((7:Int),(Z0,((Z0,(Z0,((⟨#[]⟩:ByteArray),()))),())))])),(1000000,.box [.data (Ty.sl (Ty.int .u8)) b,dI r10.2])])) (cond (decide (r6.1=Z2)) ((Sm (Ty.sl (Ty.int .u8)) b)/\(M.ay b)/\(0<=r6.2)/\(r6.2<=1000000000000000)/\(∀r11:Int×Int,r11=(M.pick b r6.2 Z3)->(Sm (Ty.sl (Ty.int .u8)) b)/\(Sm TCS columns)/\(M.ay b)/\(0<=r11.2)/\(r11.2+40 * (M.eB (wrap64 (deep-Z1)):Int)<=996000000000000)/\((wrap64 (deep-Z1))<=3)/\((wrap64 (deep-Z1)).toNat<n_)/\(∀r12:LPt×Int,r12=(M.bD n_ b r11.2 columns (wrap64 (Z1+r11.1)) (wrap64 (deep-Z1)))->((r12.1.length+([((8:Int),(Z0,((Z0,(Z0,((⟨#[]⟩:ByteArray),()))),())))]:List ax.D).length) * 48<=lim)/\K (.own 0 none) [(0,.arr false ax (r12.1++[((8:Int),(Z0,((Z0,(Z0,((⟨#[]⟩:ByteArray),()))),())))])),(1000000,.box [.data (Ty.sl (Ty.int .u8)) b,dI r12.2])]))) ((Sm (Ty.sl (Ty.int .u8)) b)/\(M.ay b)/\(0<=r6.2)/\(r6.2<=1000000000000000)/\(∀r13:Int×Int,r13=(M.pick b r6.2 Z3)->(Sm (Ty.sl (Ty.int .u8)) b)/\(Sm TCS columns)/\(M.ay b)/\(0<=r13.2)/\(r13.2+40 * (M.eB (wrap64 (deep-Z1)):Int)<=996000000000000)/\((wrap64 (deep-Z1))<=3)/\((wrap64 (deep-Z1)).toNat<n_)/\(∀r14:LPt×Int,r14=(M.bD n_ b r13.2 columns (wrap64 (Z1+r13.1)) (wrap64 (deep-Z1)))->(Sm (Ty.sl (Ty.int .u8)) b)/\(Sm TCS columns)/\(M.ay b)/\(0<=r14.2)/\(r14.2<=997000000000000)/\(∀r15:ax.D×Int,r15=(M.dH b r14.2 columns (wrap64 (Z1+r13.1)))->((r14.1.length+[r15.1].length) * 48<=lim)/\(Sm (Ty.sl (Ty.int .u8)) b)/\(M.ay b)/\(0<=r15.2)/\(r15.2<=1000000000000000)/\(∀r16:Int×Int,r16=(M.pick b r15.2 Z4)->(((r14.1++[r15.1]).length+([(Z4,(wrap64 (Z1+r16.1),((Z0,(Z0,((⟨#[]⟩:ByteArray),()))),())))]:List ax.D).length) * 48<=lim)/\K (.own 0 none) [(0,.arr false ax ((r14.1++[r15.1])++[(Z4,(wrap64 (Z1+r16.1),((Z0,(Z0,((⟨#[]⟩:ByteArray),()))),())))])),(1000000,.box [.data (Ty.sl (Ty.int .u8)) b,dI r16.2])]))))))))))))) ((Sm (Ty.sl (Ty.int .u8)) b)/\(Sm TCS columns)/\(M.ay b)/\(0<=p)/\(p<=997000000000000)/\(∀r2:ax.D×Int,r2=(M.dH b p columns kind)->K (.own 0 none) [(0,.arr false ax [r2.1]),(1000000,.box [.data (Ty.sl (Ty.int .u8)) b,dI r2.2])]))):=by kernel_rfl
theorem con42r_ok:∀n_,br P 42 (c42r n_)
 | 0=>bw (cx [] 111 [] 0 false) func42 kN fun args hp K h0=>by
  unfold c42r at h0
  dsimp only at h0
  obtain⟨b,p,rfl,h00⟩:=fq h0
  obtain⟨a0,a1,a2,a3,rfl,_,h1⟩:=sP h00
  obtain⟨rfl,h2⟩:=dz h1
  obtain⟨columns,rfl,h3⟩:=bE h2
  obtain⟨kind,rfl,h4⟩:=bE h3
  obtain⟨deep,rfl,h5⟩:=bE h4
  obtain⟨h_b,h_columns,p0,p1,p2,p3,p4,_⟩:=h5
  exact absurd p4 (Nat.not_lt_zero _)
 | n_+1=>(fun ih=>bw (C42 n_) func42 (kC con41_ok (kC con91_ok (kC ih kN))) fun args hp K h0=>by
  unfold c42r at h0
  dsimp only at h0
  obtain⟨b,p,rfl,h00⟩:=fq h0
  obtain⟨a0,a1,a2,a3,rfl,_,h1⟩:=sP h00
  obtain⟨rfl,h2⟩:=dz h1
  obtain⟨columns,rfl,h3⟩:=bE h2
  obtain⟨kind,rfl,h4⟩:=bE h3
  obtain⟨deep,rfl,h5⟩:=bE h4
  obtain⟨h_b,h_columns,p0,p1,p2,p3,p4,hK⟩:=h5
  have h:ok (F.lS n_ b p columns kind deep) (fun r=>K (.own 0 none) [(0,.arr false ax r.1),(1000000,.box [.data (Ty.sl (Ty.int .u8)) b,dI r.2])]):=aC (F.xE n_ b p columns kind deep h_b h_columns p0 p1 p2 p3 p4) (hK _ rfl)
  refine⟨rfl,ann42,aE,.raw,(aK (by kernel_rfl)),?_⟩
  ·rw[vc42]
   exact(oC h (fun _ h=>⟨h_b,⟨p0,⟨p1,(oG h fun _ h=>(oL h fun _ _ h=>(oC h (fun _ h=>⟨h_b,⟨h_columns,⟨p0,(oG h fun _ h=>(oG h fun _ h=>(oL h fun _ _ h=>h)))⟩⟩⟩) fun _ h=>(oC h (fun _ h=>⟨h_b,⟨h_columns,⟨p0,(oG h fun _ h=>(oG h fun _ h=>(oG h fun _ h=>(oG h fun _ h=>(oL h fun _ _ h=>⟨h_b,⟨h_columns,⟨p0,(oG h fun _ h=>(oG h fun _ h=>(oL h fun _ _ h=>(oG h fun _ h=>(oG h fun _ h=>h)))))⟩⟩⟩)))))⟩⟩⟩) fun _ h=>(oC h (fun _ h=>⟨h_b,⟨h_columns,⟨p0,(oG h fun _ h=>(oG h fun _ h=>(oL h fun _ _ h=>h)))⟩⟩⟩) fun _ h=>⟨h_b,⟨p0,(oG h fun _ h=>(oG h fun _ h=>(oL h fun _ _ h=>(oC h (fun _ h=>⟨h_b,⟨h_columns,⟨p0,(oG h fun _ h=>(oG h fun _ h=>(oG h fun _ h=>(oG h fun _ h=>(oL h fun _ _ h=>⟨h_b,⟨h_columns,⟨p0,(oG h fun _ h=>(oG h fun _ h=>(oG h fun _ h=>(oG h fun _ h=>(oL h fun _ _ h=>(oG h fun _ h=>⟨h_b,⟨p0,(oG h fun _ h=>(oG h fun _ h=>(oL h fun _ _ h=>(oG h fun _ h=>h))))⟩⟩))))))⟩⟩⟩)))))⟩⟩⟩) fun _ h=>(oC h (fun _ h=>⟨h_b,⟨h_columns,⟨p0,(oG h fun _ h=>(oG h fun _ h=>(oG h fun _ h=>(oG h fun _ h=>(oL h fun _ _ h=>(oG h fun _ h=>h))))))⟩⟩⟩) fun _ h=>(oC h (fun _ h=>⟨h_b,⟨p0,(oG h fun _ h=>(oG h fun _ h=>(oL h fun _ _ h=>⟨h_b,⟨h_columns,⟨p0,(oG h fun _ h=>(oG h fun _ h=>(oG h fun _ h=>(oG h fun _ h=>(oL h fun _ _ h=>(oG h fun _ h=>h))))))⟩⟩⟩)))⟩⟩) fun _ h=>⟨h_b,⟨p0,(oG h fun _ h=>(oG h fun _ h=>(oL h fun _ _ h=>⟨h_b,⟨h_columns,⟨p0,(oG h fun _ h=>(oG h fun _ h=>(oG h fun _ h=>(oG h fun _ h=>(oL h fun _ _ h=>⟨h_b,⟨h_columns,⟨p0,(oG h fun _ h=>(oG h fun _ h=>(oL h fun _ _ h=>(oG h fun _ h=>⟨h_b,⟨p0,(oG h fun _ h=>(oG h fun _ h=>(oL h fun _ _ h=>(oG h fun _ h=>h))))⟩⟩))))⟩⟩⟩)))))⟩⟩⟩)))⟩⟩))))))⟩⟩)))))⟩⟩⟩) fun _ h=>⟨h_b,⟨h_columns,⟨p0,⟨p1,(oG h fun _ h=>(oL h fun _ _ h=>h))⟩⟩⟩⟩)) (con42r_ok n_)
def c42:Con:=c42r 64
theorem con42_ok:br P 42 c42:=con42r_ok 64
def c106:Con:=⟨[.any,.dat aD],fun args hp K=>hpR (fun b p=>args2 (fun a0 a1=>nx a0 (fI aD a1 fun n=>(Sm (Ty.sl (Ty.int .u8)) b)/\(M.ay b)/\(0<=p)/\(p<=999000000000000)/\(∀r:Bool×Int,r=(M.odd b p n)->K (dB r.1) [(1000000,.box [.data (Ty.sl (Ty.int .u8)) b,dI r.2])]))) args []) hp,.plain,true⟩
@[reducible] def C106:Ctx:=cx [(41,c41)] 15 [] 0 false
def ann106:=an [[kp 3],[kp 16]] []
theorem vc106 (b:(List Int)) (p:Int) (n:Int) (K:KA):vcT C106 aE ann106 f106 [.ptr 1000000 0,dI n] [(1000000,.box [.data (Ty.sl (Ty.int .u8)) b,dI p])] (.dat Ty.bool) K =
 (cond ((decide (Z0<n))==true) ((Sm (Ty.sl (Ty.int .u8)) b)/\(M.ay b)/\(0<=p)/\(p<=1000000000000000)/\(∀r1:Int×Int,r1=(M.pick b p n)->K (dB (decide (r1.1=wrap64 (n-Z1)))) [(1000000,.box [.data (Ty.sl (Ty.int .u8)) b,dI r1.2])])) (K (dB false) [(1000000,.box [.data (Ty.sl (Ty.int .u8)) b,dI p])])):=by kernel_rfl
theorem con106_ok:br P 106 c106:=bw C106 func106 (kC con41_ok kN) fun args hp K h0=>by
 unfold c106 at h0
 dsimp only at h0
 obtain⟨b,p,rfl,h00⟩:=fq h0
 obtain⟨a0,a1,rfl,_,h1⟩:=bW h00
 obtain⟨rfl,h2⟩:=dz h1
 obtain⟨n,rfl,h3⟩:=bE h2
 obtain⟨h_b,p0,p1,p2,hK⟩:=h3
 have h:ok (F.qR b p n) (fun r=>K (dB r.1) [(1000000,.box [.data (Ty.sl (Ty.int .u8)) b,dI r.2])]):=aC (F.Da b p n h_b p0 p1 p2) (hK _ rfl)
 refine⟨rfl,ann106,aE,(.dat Ty.bool),(aK (by kernel_rfl)),?_⟩
 ·rw[vc106]
  exact(oC h (fun _ h=>⟨h_b,⟨p0,⟨p1,(oG h fun _ h=>(oL h fun _ _ h=>h))⟩⟩⟩) fun _ h=>h)
def c88:Con:=⟨[.any,.dat aD],fun args hp K=>hpR (fun b p=>args2 (fun a0 a1=>nx a0 (fI aD a1 fun n=>(Sm (Ty.sl (Ty.int .u8)) b)/\(M.ay b)/\(0<=p)/\(p<=998000000000000)/\(∀r:LC×Int,r=(M.fK b p n)->K (.own 0 none) [(0,.arr false ag r.1),(1000000,.box [.data (Ty.sl (Ty.int .u8)) b,dI r.2])]))) args []) hp,.plain,true⟩
@[reducible] def C88:Ctx:=cx [(41,c41),(106,c106)] 40 [] 0 false
def ann88:=an [[kp 3],[kp 35],[kp 99],[kp 4195],[kp 99],[kp 99],[kp 536870945],[kp 32],[kp 16]] [[kp 35]]
@[reducible] def s88_0 (b:(List Int)) (p:Int) (n:Int) (v0:Int×Int×LC):St:=⟨[(0,.ptr 1000000 0),(1,dI n),(5,.own 7 none),(6,dI v0.1)],[(1000000,.box [.data (Ty.sl (Ty.int .u8)) b,dI v0.2.1]),(7,.arr false ag v0.2.2)]⟩
@[reducible] def LP88_0 (b:(List Int)) (p:Int) (n:Int) (m:Nat) (st_:St) (K:KX):Prop:=True/\ep (s88_0 b p n) (F.fN b p n) (fun v0:Int×Int×LC=>True) (fun e0:Int×LC=>True->K (.exit 0) (⟨[(0,.ptr 1000000 0),(1,dI n),(5,.own 7 none)],[(1000000,.box [.data (Ty.sl (Ty.int .u8)) b,dI e0.1]),(7,.arr false ag e0.2)]⟩:St)) m st_
def L88 (b:(List Int)) (p:Int) (n:Int):bC:=lp1 0 (LP88_0 b p n)
theorem vc88 (b:(List Int)) (p:Int) (n:Int) (K:KA):vcT C88 (L88 b p n) ann88 f88 [.ptr 1000000 0,dI n] [(1000000,.box [.data (Ty.sl (Ty.int .u8)) b,dI p])] .raw K =
 ((Sm (Ty.sl (Ty.int .u8)) b)/\(M.ay b)/\(0<=p)/\(p<=1000000000000000)/\(∀r1:Int×Int,r1=(M.pick b p Z3)->(∃m_,True/\ep (s88_0 b p n) (F.fN b p n) (fun v0:Int×Int×LC=>True) (fun e0:Int×LC=>True->(Sm (Ty.sl (Ty.int .u8)) b)/\(M.ay b)/\(0<=e0.1)/\(e0.1<=999000000000000)/\(∀r2:Bool×Int,r2=(M.odd b e0.1 n)->cond r2.1 ((Sm (Ty.sl (Ty.int .u8)) b)/\(M.ay b)/\(0<=r2.2)/\(r2.2<=1000000000000000)/\(∀r3:Int×Int,r3=(M.pick b r2.2 Z6)->((e0.2.length+[(wrap64 (r3.1-Z1),(false,())),(Z1,(false,())),(Z1,(false,()))].length) * 16<=lim)/\K (.own 0 none) [(0,.arr false ag (e0.2++[(wrap64 (r3.1-Z1),(false,())),(Z1,(false,())),(Z1,(false,()))])),(1000000,.box [.data (Ty.sl (Ty.int .u8)) b,dI r3.2])])) (K (.own 0 none) [(0,.arr false ag e0.2),(1000000,.box [.data (Ty.sl (Ty.int .u8)) b,dI r2.2])]))) m_ (s88_0 b p n (wrap64 (Z1+r1.1),r1.2,[]))))):=by kernel_rfl
theorem lvc88_0 (b:(List Int)) (p:Int) (n:Int)  (v0:Int×Int×LC) (m:Nat) (K:KX):lvT C88 (L88 b p n) ann88 f88 0 0 (s88_0 b p n v0) m K =
 (cond (decide (Z0<v0.1)) (((Sm (Ty.sl (Ty.int .u8)) b)/\(M.ay b)/\(0<=v0.2.1)/\(v0.2.1<=1000000000000000)/\(∀r4:Int×Int,r4=(M.pick b v0.2.1 Z4)->(0<=r4.1)/\(r4.1<([Z1,Z1,Z2,Z3].length:Int))/\Q0 ((Sm (Ty.sl (Ty.int .u8)) b)/\(M.ay b)/\(0<=r4.2)/\(r4.2<=1000000000000000)/\(∀r5:Int×Int,r5=(M.pick b r4.2 Z3)->((v0.2.2.length+[((nI [Z1,Z1,Z2,Z3] r4.1),((decide (Z0<r5.1)),()))].length) * 16<=lim)/\(nxT (LP88_0 b p n) m K (s88_0 b p n (wrap64 (v0.1-Z1),r5.2,(v0.2.2++[((nI [Z1,Z1,Z2,Z3] r4.1),((decide (Z0<r5.1)),()))]))))))))/\((Sm (Ty.sl (Ty.int .u8)) b)/\(M.ay b)/\(0<=v0.2.1)/\(v0.2.1<=1000000000000000)/\(∀r4:Int×Int,r4=(M.pick b v0.2.1 Z4)->((0<=r4.1)/\(r4.1<([Z1,Z1,Z2,Z3].length:Int))/\Q0 ((Sm (Ty.sl (Ty.int .u8)) b)/\(M.ay b)/\(0<=r4.2)/\(r4.2<=1000000000000000)/\(∀r5:Int×Int,r5=(M.pick b r4.2 Z3)->((v0.2.2.length+[((nI [Z1,Z1,Z2,Z3] r4.1),((decide (Z0<r5.1)),()))].length) * 16<=lim)/\(nxT (LP88_0 b p n) m K (s88_0 b p n (wrap64 (v0.1-Z1),r5.2,(v0.2.2++[((nI [Z1,Z1,Z2,Z3] r4.1),((decide (Z0<r5.1)),()))])))))))/\((Sm (Ty.sl (Ty.int .u8)) b)/\(M.ay b)/\(0<=r4.2)/\(r4.2<=1000000000000000)/\(∀r5:Int×Int,r5=(M.pick b r4.2 Z3)->(0<=r4.1)/\(r4.1<([Z1,Z1,Z2,Z3].length:Int))/\((v0.2.2.length+[((nI [Z1,Z1,Z2,Z3] r4.1),((decide (Z0<r5.1)),()))].length) * 16<=lim)/\(nxT (LP88_0 b p n) m K (s88_0 b p n (wrap64 (v0.1-Z1),r5.2,(v0.2.2++[((nI [Z1,Z1,Z2,Z3] r4.1),((decide (Z0<r5.1)),()))]))))))))) (K (.exit 0) (⟨[(0,.ptr 1000000 0),(1,dI n),(5,.own 7 none)],[(1000000,.box [.data (Ty.sl (Ty.int .u8)) b,dI v0.2.1]),(7,.arr false ag v0.2.2)]⟩:St))):=by kernel_rfl
theorem con88_ok:br P 88 c88:=bw C88 func88 (kC con41_ok (kC con106_ok kN)) fun args hp K h0=>by
 unfold c88 at h0
 dsimp only at h0
 obtain⟨b,p,rfl,h00⟩:=fq h0
 obtain⟨a0,a1,rfl,_,h1⟩:=bW h00
 obtain⟨rfl,h2⟩:=dz h1
 obtain⟨n,rfl,h3⟩:=bE h2
 obtain⟨h_b,p0,p1,p2,hK⟩:=h3
 have h:ok (F.fX b p n) (fun r=>K (.own 0 none) [(0,.arr false ag r.1),(1000000,.box [.data (Ty.sl (Ty.int .u8)) b,dI r.2])]):=aC (F.ta b p n h_b p0 p1 p2) (hK _ rfl)
 refine⟨rfl,ann88,(L88 b p n),.raw,(bH (i0:=0) (by kernel_rfl) ?_),?_⟩
 ·rintro _ _ K ⟨hc0,v0,rfl,hv0,h⟩
  exact cast (lvc88_0 _ _ _ _ _ _).symm (cX h (fun m1 hm0 h=>(oC h (fun _ h=>((fun(g1_0:M.ay b)=>(fun(g1_1:0<=v0.2.1)=>(fun(g1_2:v0.2.1<=1000000000000000)=>(fun(g1_3:0<=(M.pick b v0.2.1 Z4).1)=>(fun(g1_4:(M.pick b v0.2.1 Z4).1<([Z1,Z1,Z2,Z3].length:Int))=>(fun(g1_5:0<=(M.pick b v0.2.1 Z4).2)=>(fun(g1_6:(M.pick b v0.2.1 Z4).2<=1000000000000000)=>(fun(g1_7:(v0.2.2.length+[((nI [Z1,Z1,Z2,Z3] (M.pick b v0.2.1 Z4).1),((decide (Z0<(M.pick b (M.pick b v0.2.1 Z4).2 Z3).1)),()))].length) * 16<=lim)=>⟨⟨h_b,⟨g1_0,have g1:=g1_0;⟨g1_1,have g2:=g1_1;⟨g1_2,have g3:=g1_2;(fun r4 er4=>(have g4:0<=r4.1:=(by rw[er4];exact g1_3);⟨g4,(have g5:r4.1<([Z1,Z1,Z2,Z3].length:Int):=(by rw[er4];exact g1_4);⟨g5,(q0 (⟨h_b,⟨g1,(have g6:0<=r4.2:=(by rw[er4];exact g1_5);⟨g6,(have g7:r4.2<=1000000000000000:=(by rw[er4];exact g1_6);⟨g7,(fun r5 er5=>(have g8:(v0.2.2.length+[((nI [Z1,Z1,Z2,Z3] r4.1),((decide (Z0<r5.1)),()))].length) * 16<=lim:=(by rw[er5,er4];exact g1_7);⟨g8,(have h:=(aB (dV (aB (aB (aB (aB (dV (aB (aB (aB h).2).2).2 r4 er4)).2).2).2).2 r5 er5)).2;(bF (fun _ hm=>⟨hc0,hm⟩) hm0 _ rfl trivial h))⟩))⟩)⟩)⟩⟩))⟩)⟩))⟩⟩⟩⟩,⟨h_b,⟨g1_0,have g9:=g1_0;⟨g1_1,have g10:=g1_1;⟨g1_2,have g11:=g1_2;(fun r4 er4=>⟨(have g12:0<=r4.1:=(by rw[er4];exact g1_3);⟨g12,(have g13:r4.1<([Z1,Z1,Z2,Z3].length:Int):=(by rw[er4];exact g1_4);⟨g13,(q0 (⟨h_b,⟨g9,(have g14:0<=r4.2:=(by rw[er4];exact g1_5);⟨g14,(have g15:r4.2<=1000000000000000:=(by rw[er4];exact g1_6);⟨g15,(fun r5 er5=>(have g16:(v0.2.2.length+[((nI [Z1,Z1,Z2,Z3] r4.1),((decide (Z0<r5.1)),()))].length) * 16<=lim:=(by rw[er5,er4];exact g1_7);⟨g16,(have h:=(aB (dV (aB (aB (aB (aB (dV (aB (aB (aB h).2).2).2 r4 er4)).2).2).2).2 r5 er5)).2;(bF (fun _ hm=>⟨hc0,hm⟩) hm0 _ rfl trivial h))⟩))⟩)⟩)⟩⟩))⟩)⟩),⟨h_b,⟨g9,(have g17:0<=r4.2:=(by rw[er4];exact g1_5);⟨g17,(have g18:r4.2<=1000000000000000:=(by rw[er4];exact g1_6);⟨g18,(fun r5 er5=>(have g19:0<=r4.1:=(by rw[er4];exact g1_3);⟨g19,(have g20:r4.1<([Z1,Z1,Z2,Z3].length:Int):=(by rw[er4];exact g1_4);⟨g20,(have g21:(v0.2.2.length+[((nI [Z1,Z1,Z2,Z3] r4.1),((decide (Z0<r5.1)),()))].length) * 16<=lim:=(by rw[er5,er4];exact g1_7);⟨g21,(have h:=(aB (dV (aB (aB (aB (aB (dV (aB (aB (aB h).2).2).2 r4 er4)).2).2).2).2 r5 er5)).2;(bF (fun _ hm=>⟨hc0,hm⟩) hm0 _ rfl trivial h))⟩)⟩)⟩))⟩)⟩)⟩⟩⟩)⟩⟩⟩⟩⟩) (aB (dV (aB (aB (aB (aB (dV (aB (aB (aB h).2).2).2 _ rfl)).2).2).2).2 _ rfl)).1) (aB (aB (aB (aB (dV (aB (aB (aB h).2).2).2 _ rfl)).2).2).2).1) (aB (aB (aB (dV (aB (aB (aB h).2).2).2 _ rfl)).2).2).1) (aB (aB (dV (aB (aB (aB h).2).2).2 _ rfl)).2).1) (aB (dV (aB (aB (aB h).2).2).2 _ rfl)).1) (aB (aB (aB h).2).2).1) (aB (aB h).2).1) (aB h).1)) fun _ h=>((cz h :) trivial))))
 ·rw[vc88]
  exact⟨h_b,⟨p0,⟨p1,(oG h fun _ h=>(oL h fun _ _ h=>(cu (fun m hm=>⟨trivial,hm⟩) _ rfl trivial (gU h (fun e0 h hv0=>⟨h_b,⟨p0,(oG h fun _ h=>(oG h fun _ h=>(oL h fun _ _ h=>(oC h (fun _ h=>⟨h_b,⟨p0,(oG h fun _ h=>(oG h fun _ h=>(oL h fun _ _ h=>(oG h fun _ h=>h))))⟩⟩) fun _ h=>h))))⟩⟩)))))⟩⟩⟩
end Go.AE
