/- Contracts. -/
import Derived.Test.YtmkgiaecgkicoaaGreatAeInl
import Derived.Test.YtmkgiaecgkicoaaGreatAeEq
import Derived.Test.YtmkgiaecgkicoaaGreatAeDel
namespace Go.AE
open Go Go.RowKit Go.Proofs.Tryz
set_option maxRecDepth 100000
set_option maxHeartbeats 2000000
set_option linter.unusedVariables false
abbrev Q0 (p:Prop):Prop:=(p/\p)
theorem q0 {p:Prop} (h:p):Q0 p:=⟨h,h⟩
abbrev Q1 (p:Prop):Prop:=(p/\(p/\(p/\p)))
theorem q1 {p:Prop} (h:p):Q1 p:=⟨h,⟨h,⟨h,h⟩⟩⟩
abbrev Q2 (p:Prop):Prop:=(p/\(p/\p))
theorem q2 {p:Prop} (h:p):Q2 p:=⟨h,⟨h,h⟩⟩
def c130:Con:=⟨[.dat TVS,.dat TVS],fun args hp K=>g2 (pD TVS) (pD TVS) (fun a b=>(Sm TVS a)/\(Sm TVS b)/\(a=b)/\K (dB true) []) args hp,.plain,false⟩
abbrev C130:Ctx:=cx [] 26 [] 0 false
def ann130:=an [[kp 3],[kp 1027],[kp 16],[kp 35],[kp 16419],[kp 35],[kp 33554467],[kp 16],[kp 16]] [[kp 0]]
abbrev s130_0 (a:LV) (b:LV) (i0:Int) (v0:Unit):St:=⟨[(0,.data TVS a),(1,.data TVS b),(5,dI i0)],[]⟩
abbrev LP130_0 (a:LV) (b:LV) (m:Nat) (st_:St) (K:KX):Prop:=True/\cu (s130_0 a b) Z0 (a.length:Int) (F.iW a b) (fun v0:Unit=>True) (bA (fun v0:Unit=>True->K (.exit 0) (⟨[],[]⟩:St)) (fun q0:Unit=>K .ret (⟨[(4,dB false)],[]⟩:St))) m st_
def L130 (a:LV) (b:LV):bC:=lp1 0 (LP130_0 a b)
theorem vc130 (a:LV) (b:LV) (K:KA):vcT C130 (L130 a b) ann130 f130 [.data TVS a,.data TVS b] [] (.dat Ty.bool) K =
 (cond (!decide ((a.length:Int)=(b.length:Int))) (K (dB false) []) (∃m_,True/\cu (s130_0 a b) Z0 (a.length:Int) (F.iW a b) (fun v0:Unit=>True) (bA (fun v0:Unit=>True->K (dB true) []) (fun q0:Unit=>K (dB false) [])) m_ (s130_0 a b Z0 ()))):=by kernel_rfl
theorem lvc130_0 (a:LV) (b:LV)  (i0:Int) (v0:Unit) (m:Nat) (K:KX):lvT C130 (L130 a b) ann130 f130 0 0 (s130_0 a b i0 v0) m K =
 (cond (decide (i0<(a.length:Int))) ((0<=i0)/\(i0<(a.length:Int))/\(0<=i0)/\(i0<(b.length:Int))/\cond (!(Ty.beq aa (nV a i0) (nV b i0))) (K .ret (⟨[(4,dB false)],[]⟩:St)) (nxT (LP130_0 a b) m K (s130_0 a b (wrap64 (i0+Z1)) ()))) (K (.exit 0) (⟨[],[]⟩:St))):=by kernel_rfl
theorem con130_ok:aV P 130 c130:=aY C130 func130 kN fun args hp K h0=>by
 obtain⟨a,b,rfl,rfl,h_a,h_b,p0,hK⟩:=g2e h0
 have h:ok (F.qf a b) (fun r=>K (dB r) []):=aB (F.xX a b h_a h_b p0) hK
 refine⟨rfl,ann130,(L130 a b),(.dat Ty.bool),(br (i0:=0) (by kernel_rfl) ?_),?_⟩
 ·rintro _ _ K ⟨hc0,i0,v0,rfl,hl0,rfl,hv0,h⟩
  exact cast (lvc130_0 _ _ _ _ _ _).symm (bJ h (fun ht0 h=>⟨hl0,⟨ht0,⟨hl0,(oG h fun _ h=>(oC h (fun _ h=>h) fun _ h=>(bu (fun _ hm=>⟨hc0,hm⟩) _ rfl hl0 jk ht0 (bE h_a) trivial h)))⟩⟩⟩) fun h=>(h trivial))
 ·rw[vc130]
  exact(oC h (fun _ h=>h) fun _ h=>(bp (fun m hm=>⟨trivial,hm⟩) Z0 _ rfl (Int.natCast_nonneg 0) trivial (aX h (fun v0 h hv0=>h) (fun q0 h=>h))))
def c69:Con:=⟨[.dat (Ty.sl TVS),.dat (Ty.sl TVS)],fun args hp K=>g2 (pD (Ty.sl TVS)) (pD (Ty.sl TVS)) (fun a b=>(Sm (Ty.sl TVS) a)/\(Sm (Ty.sl TVS) b)/\(a=b)/\K (dB true) []) args hp,.plain,false⟩
abbrev C69:Ctx:=cx [(130,c130)] 27 [] 0 false
def ann69:=an [[kp 3],[kp 1027],[kp 16],[kp 35],[kp 16419],[kp 35],[kp 67108899],[kp 16],[kp 16]] [[kp 0]]
abbrev s69_0 (a:(List LV)) (b:(List LV)) (i0:Int) (v0:Unit):St:=⟨[(0,.data (Ty.sl TVS) a),(1,.data (Ty.sl TVS) b),(5,dI i0)],[]⟩
abbrev LP69_0 (a:(List LV)) (b:(List LV)) (m:Nat) (st_:St) (K:KX):Prop:=True/\cu (s69_0 a b) Z0 (a.length:Int) (F.ig a b) (fun v0:Unit=>True) (bA (fun v0:Unit=>True->K (.exit 0) (⟨[],[]⟩:St)) (fun q0:Unit=>K .ret (⟨[(4,dB false)],[]⟩:St))) m st_
def L69 (a:(List LV)) (b:(List LV)):bC:=lp1 0 (LP69_0 a b)
theorem vc69 (a:(List LV)) (b:(List LV)) (K:KA):vcT C69 (L69 a b) ann69 f69 [.data (Ty.sl TVS) a,.data (Ty.sl TVS) b] [] (.dat Ty.bool) K =
 (cond (!decide ((a.length:Int)=(b.length:Int))) (K (dB false) []) (∃m_,True/\cu (s69_0 a b) Z0 (a.length:Int) (F.ig a b) (fun v0:Unit=>True) (bA (fun v0:Unit=>True->K (dB true) []) (fun q0:Unit=>K (dB false) [])) m_ (s69_0 a b Z0 ()))):=by kernel_rfl
theorem lvc69_0 (a:(List LV)) (b:(List LV))  (i0:Int) (v0:Unit) (m:Nat) (K:KX):lvT C69 (L69 a b) ann69 f69 0 0 (s69_0 a b i0 v0) m K =
 (cond (decide (i0<(a.length:Int))) ((0<=i0)/\(i0<(a.length:Int))/\(0<=i0)/\(i0<(b.length:Int))/\(Sm TVS (nth (t:=TVS) a i0))/\(Sm TVS (nth (t:=TVS) b i0))/\((nth (t:=TVS) a i0)=(nth (t:=TVS) b i0))/\cond (!true) (K .ret (⟨[(4,dB false)],[]⟩:St)) (nxT (LP69_0 a b) m K (s69_0 a b (wrap64 (i0+Z1)) ()))) (K (.exit 0) (⟨[],[]⟩:St))):=by kernel_rfl
theorem con69_ok:aV P 69 c69:=aY C69 func69 (kC con130_ok kN) fun args hp K h0=>by
 obtain⟨a,b,rfl,rfl,h_a,h_b,p0,hK⟩:=g2e h0
 have h:ok (F.oS a b) (fun r=>K (dB r) []):=aB (F.wu a b h_a h_b p0) hK
 refine⟨rfl,ann69,(L69 a b),(.dat Ty.bool),(br (i0:=0) (by kernel_rfl) ?_),?_⟩
 ·rintro _ _ K ⟨hc0,i0,v0,rfl,hl0,rfl,hv0,h⟩
  exact cast (lvc69_0 _ _ _ _ _ _).symm (bJ h (fun ht0 h=>⟨hl0,⟨ht0,⟨hl0,(oG h fun _ h=>⟨(aH h_a i0),⟨(aH h_b i0),(oG h fun _ h=>(oC h (fun _ h=>h) fun _ h=>(bu (fun _ hm=>⟨hc0,hm⟩) _ rfl hl0 jk ht0 (bE h_a) trivial h)))⟩⟩)⟩⟩⟩) fun h=>(h trivial))
 ·rw[vc69]
  exact(oC h (fun _ h=>h) fun _ h=>(bp (fun m hm=>⟨trivial,hm⟩) Z0 _ rfl (Int.natCast_nonneg 0) trivial (aX h (fun v0 h hv0=>h) (fun q0 h=>h))))
def c25:Con:=⟨[.dat TTb,.dat TTb],fun args hp K=>g2 (pD TTb) (pD TTb) (fun a b=>(Sm TTb a)/\(Sm TTb b)/\(a=b)/\K (dB true) []) args hp,.plain,false⟩
abbrev C25:Ctx:=cx [(69,c69)] 72 [] 0 false
def ann25:=an [[kp 3],[kp 2051],[kp 16],[kp 35],[kp 32803],[kp 35],[kp 17592186044451],[kp 16],[kp 99],[kp 4503599627370595],[kp 99],[.keep [0,1,5,6,71]],[kp 16],[kp 16]] [[kp 0],[],[kp 35]]
abbrev s25_0 (a:LTb) (b:LTb) (i0:Int) (v0:Unit):St:=⟨[(0,.data TTb a),(1,.data TTb b),(5,dI i0)],[]⟩
abbrev LP25_0 (a:LTb) (b:LTb) (m:Nat) (st_:St) (K:KX):Prop:=True/\cu (s25_0 a b) Z0 (a.length:Int) (F.ga a b) (fun v0:Unit=>True) (bA (fun v0:Unit=>True->K (.exit 0) (⟨[],[]⟩:St)) (fun q0:Unit=>K .ret (⟨[(4,dB false)],[]⟩:St))) m st_
abbrev s25_2 (a:LTb) (b:LTb) (c2_0:Int) (v2:Int):St:=⟨[(0,.data TTb a),(1,.data TTb b),(5,dI c2_0),(6,dI v2)],[]⟩
abbrev LP25_2 (a:LTb) (b:LTb) (m:Nat) (st_:St) (K:KX):Prop:=∃c2_0:Int,True/\cR (s25_2 a b c2_0) (F.dg a b c2_0) (fun v2:Int=>True) (bA (fun e2:Unit=>True->K (.exit 2) (⟨[(0,.data TTb a),(1,.data TTb b),(5,dI c2_0)],[]⟩:St)) (fun q2:Unit=>K .ret (⟨[(4,dB false)],[]⟩:St))) m st_
def L25 (a:LTb) (b:LTb):bC:=lp2 0 (LP25_0 a b) 2 (LP25_2 a b)
theorem vc25 (a:LTb) (b:LTb) (K:KA):vcT C25 (L25 a b) ann25 f25 [.data TTb a,.data TTb b] [] (.dat Ty.bool) K =
 (cond (!decide ((a.length:Int)=(b.length:Int))) (K (dB false) []) (∃m_,True/\cu (s25_0 a b) Z0 (a.length:Int) (F.ga a b) (fun v0:Unit=>True) (bA (fun v0:Unit=>True->K (dB true) []) (fun q0:Unit=>K (dB false) [])) m_ (s25_0 a b Z0 ()))):=by kernel_rfl
theorem lvc25_0 (a:LTb) (b:LTb)  (i0:Int) (v0:Unit) (m:Nat) (K:KX):lvT C25 (L25 a b) ann25 f25 0 0 (s25_0 a b i0 v0) m K =
 (cond (decide (i0<(a.length:Int))) ((0<=i0)/\(i0<(a.length:Int))/\(0<=i0)/\(i0<(b.length:Int))/\cond ((!decide (((nT a i0).1.length:Int)=((nT b i0).1.length:Int)))==false) ((0<=i0)/\(i0<(a.length:Int))/\(0<=i0)/\(i0<(b.length:Int))/\(Sm (Ty.sl TVS) (nT a i0).2.1)/\(Sm (Ty.sl TVS) (nT b i0).2.1)/\((nT a i0).2.1=(nT b i0).2.1)/\cond (!true) (K .ret (⟨[(4,dB false)],[]⟩:St)) (∃m_,∃c2_0:Int,True/\cR (s25_2 a b c2_0) (F.dg a b c2_0) (fun v2:Int=>True) (bA (fun e2:Unit=>True->(nxT (LP25_0 a b) m K (s25_0 a b (wrap64 (c2_0+Z1)) ()))) (fun q2:Unit=>K .ret (⟨[(4,dB false)],[]⟩:St))) m_ (s25_2 a b i0 Z0))) (K .ret (⟨[(4,dB false)],[]⟩:St))) (K (.exit 0) (⟨[],[]⟩:St))):=by kernel_rfl
theorem lvc25_1 (a:LTb) (b:LTb) (c2_0:Int) (v2:Int) (m:Nat) (K:KX):lvT C25 (L25 a b) ann25 f25 1 2 (s25_2 a b c2_0 v2) m K =
 ((0<=c2_0)/\(c2_0<(a.length:Int))/\cond (decide (v2<((nT a c2_0).1.length:Int))) ((0<=c2_0)/\(c2_0<(a.length:Int))/\(0<=v2)/\(v2<((nT a c2_0).1.length:Int))/\(0<=c2_0)/\(c2_0<(b.length:Int))/\(0<=v2)/\(v2<((nT b c2_0).1.length:Int))/\cond (!(Ty.beq ax (nC (nT a c2_0).1 v2) (nC (nT b c2_0).1 v2))) (K .ret (⟨[(4,dB false)],[]⟩:St)) (nxT (LP25_2 a b) m K (s25_2 a b c2_0 (wrap64 (v2+Z1))))) (K (.exit 2) (⟨[(0,.data TTb a),(1,.data TTb b),(5,dI c2_0)],[]⟩:St))):=by kernel_rfl
theorem con25_ok:aV P 25 c25:=aY C25 func25 (kC con69_ok kN) fun args hp K h0=>by
 obtain⟨a,b,rfl,rfl,h_a,h_b,p0,hK⟩:=g2e h0
 have h:ok (F.lV a b) (fun r=>K (dB r) []):=aB (F.tW a b h_a h_b p0) hK
 refine⟨rfl,ann25,(L25 a b),(.dat Ty.bool),(sV (i0:=0) (i1:=2) (by kernel_rfl) ?_ ?_),?_⟩
 ·rintro _ _ K ⟨hc0,i0,v0,rfl,hl0,rfl,hv0,h⟩
  exact cast (lvc25_0 _ _ _ _ _ _).symm (bJ h (fun ht0 h=>⟨hl0,⟨ht0,⟨hl0,(oG h fun g1 h=>(oC h (fun _ h=>⟨hl0,⟨ht0,⟨hl0,⟨g1,⟨(aH h_a i0).2.1,⟨(aH h_b i0).2.1,(oG h fun _ h=>(oC h (fun _ h=>h) fun _ h=>(bI (fun m hm=>⟨i0,trivial,hm⟩) _ rfl trivial (aX h (fun e2 h hv2=>(bu (fun _ hm=>⟨hc0,hm⟩) _ rfl hl0 jk ht0 (bE h_a) trivial h)) (fun q2 h=>h)))))⟩⟩⟩⟩⟩⟩) fun _ h=>h))⟩⟩⟩) fun h=>(h trivial))
 ·rintro _ _ K ⟨c2_0,hc2,v2,rfl,hv2,h⟩
  exact cast (lvc25_1 _ _ _ _ _ _).symm (cm h (fun m1 hm2 h=>(oG h fun g2 h=>(oG h fun g3 h=>(oC h (fun _ h=>⟨g2,⟨g3,(oG h fun g4 h=>(oG h fun _ h=>⟨g2,(oG h fun _ h=>⟨g4,(oG h fun _ h=>(oC h (fun _ h=>h) fun _ h=>(bz (fun _ hm=>⟨c2_0,hc2,hm⟩) hm2 _ rfl trivial h)))⟩)⟩))⟩⟩) fun _ h=>((cq h :) trivial))))))
 ·rw[vc25]
  exact(oC h (fun _ h=>h) fun _ h=>(bp (fun m hm=>⟨trivial,hm⟩) Z0 _ rfl (Int.natCast_nonneg 0) trivial (aX h (fun v0 h hv0=>h) (fun q0 h=>h))))
def c132:Con:=⟨[.dat aD,.dat aD,.dat aD],fun args hp K=>g3 (pD aD) (pD aD) (pD aD) (fun n low high=>K (dB (M.inR n low high)) []) args hp,.plain,false⟩
abbrev C132:Ctx:=cx [] 15 [] 0 false
def ann132:=an [[kp 7],[kp 64]] []
theorem vc132 (n:Int) (low:Int) (high:Int) (K:KA):vcT C132 aA ann132 f132 [dI n,dI low,dI high] [] (.dat Ty.bool) K =
 (cond ((decide (low<=n))==true) (K (dB (decide (n<=high))) []) (K (dB false) [])):=by kernel_rfl
theorem con132_ok:aV P 132 c132:=aY C132 func132 kN fun args hp K h0=>by
 obtain⟨n,low,high,rfl,rfl,hK⟩:=g3e h0
 have h:ok (F.qo n low high) (fun r=>K (dB r) []):=aB (F.yz n low high) hK
 refine⟨rfl,ann132,aA,(.dat Ty.bool),(aI (by kernel_rfl)),?_⟩
 ·rw[vc132]
  exact(oC h (fun _ h=>h) fun _ h=>h)
def c189:Con:=⟨[.dat Ty.str],fun args hp K=>g1 (pD Ty.str) (fun s=>(Sm Ty.str s)/\K (dB (M.lower (bX s))) []) args hp,.plain,false⟩
abbrev C189:Ctx:=cx [(132,c132)] 17 [] 0 false
def ann189:=an [[kp 1],[kp 448],[kp 960],[kp 464],[kp 33216],[kp 4],[kp 448],[kp 4]] [[kp 0]]
abbrev s189_0 (s:ByteArray) (i0:Int) (v0:Unit):St:=⟨[(6,.data TBy (bX s)),(7,dI ((bX s).length:Int)),(8,dI i0)],[]⟩
abbrev LP189_0 (s:ByteArray) (m:Nat) (st_:St) (K:KX):Prop:=True/\cN (t:=(Ty.int .u8)) (s189_0 s) (bX s) (F.je s) (fun v0:Unit=>True) (bA (fun v0:Unit=>True->K (.exit 0) (⟨[],[]⟩:St)) (fun q0:Unit=>K .ret (⟨[(2,dB false)],[]⟩:St))) m st_
def L189 (s:ByteArray):bC:=lp1 0 (LP189_0 s)
theorem vc189 (s:ByteArray) (K:KA):vcT C189 (L189 s) ann189 f189 [.data Ty.str s] [] (.dat Ty.bool) K =
 (∃m_,True/\cN (t:=(Ty.int .u8)) (s189_0 s) (bX s) (F.je s) (fun v0:Unit=>True) (bA (fun v0:Unit=>True->K (dB true) []) (fun q0:Unit=>K (dB false) [])) m_ (s189_0 s Z0 ())):=by kernel_rfl
theorem lvc189_0 (s:ByteArray)  (i0:Int) (v0:Unit) (m:Nat) (K:KX):lvT C189 (L189 s) ann189 f189 0 0 (s189_0 s i0 v0) m K =
 (cond (decide (i0<((bX s).length:Int))) ((0<=i0)/\(i0<((bX s).length:Int))/\cond (!(M.inR (wrap64 (nth (t:=(Ty.int .u8)) (bX s) i0)) (97:Int) (122:Int))) (K .ret (⟨[(2,dB false)],[]⟩:St)) (nxT (LP189_0 s) m K (s189_0 s (wrap64 (i0+Z1)) ()))) (K (.exit 0) (⟨[],[]⟩:St))):=by kernel_rfl
theorem con189_ok:aV P 189 c189:=aY C189 func189 (kC con132_ok kN) fun args hp K h0=>by
 obtain⟨s,rfl,rfl,h_s,hK⟩:=g1e h0
 have h:ok (F.qc s) (fun r=>K (dB r) []):=aB (F.yu s h_s) hK
 refine⟨rfl,ann189,(L189 s),(.dat Ty.bool),(br (i0:=0) (by kernel_rfl) ?_),?_⟩
 ·rintro _ _ K ⟨hc0,i0,v0,rfl,hl0,rfl,hv0,h⟩
  exact cast (lvc189_0 _ _ _ _ _).symm (cj (t:=(Ty.int .u8)) hl0 h (fun ht0 h=>⟨hl0,⟨ht0,(oC h (fun _ h=>h) fun _ h=>(bF (t:=(Ty.int .u8)) (fun _ hm=>⟨hc0,hm⟩) _ rfl hl0 ht0 (bE (Hh h_s)) trivial h))⟩⟩) fun h=>(h trivial))
 ·rw[vc189]
  exact(bN (t:=(Ty.int .u8)) (fun m hm=>⟨trivial,hm⟩) _ rfl trivial (aX h (fun v0 h hv0=>h) (fun q0 h=>h)))
def c131:Con:=⟨[.dat aa],fun args hp K=>g1 (pD aa) (fun v=>(Sm aa v)/\K (dB (M.aP v)) []) args hp,.plain,false⟩
abbrev C131:Ctx:=cx [(132,c132),(189,c189)] 46 [] 0 false
def ann131:=an [[.fixRow 1 aa,kp 2],[kp 18],[kp 50],[kp 4],[kp 1042],[kp 4],[kp 1048594],[kp 4],[.keep [1,36]],[kp 4],[kp 4]] []
theorem vc131 (v:aa.D) (K:KA):vcT C131 aA ann131 f131 [.data aa v] [] (.dat Ty.bool) K =
 (cond (decide (v.1=Z0)) (K (dB (Ty.beq aa v (Z0,(Z0,((⟨#[]⟩:ByteArray),()))))) []) (cond (decide (v.1=Z1)) (cond ((decide (v.2.2.1=(⟨#[]⟩:ByteArray)))==true) (K (dB (M.inR v.2.1 (-9999:Int) (9999:Int))) []) (K (dB false) [])) (cond (decide (v.1=Z2)) (cond ((decide (v.2.1=Z0))==true) (cond ((decide ((v.2.2.1.size:Int)<=Z6))==true) ((Sm Ty.str v.2.2.1)/\K (dB (M.lower (bX v.2.2.1))) []) (K (dB false) [])) (K (dB false) [])) (cond (decide (v.1=Z3)) (cond ((decide (v.2.2.1=(⟨#[]⟩:ByteArray)))==true) (K (dB (M.inR v.2.1 Z0 Z1)) []) (K (dB false) [])) (K (dB false) []))))):=by kernel_rfl
theorem con131_ok:aV P 131 c131:=aY C131 func131 (kC con132_ok (kC con189_ok kN)) fun args hp K h0=>by
 obtain⟨v,rfl,rfl,h_v,hK⟩:=g1e h0
 have h:ok (F.oO v) (fun r=>K (dB r) []):=aB (F.wJ v h_v) hK
 refine⟨rfl,ann131,aA,(.dat Ty.bool),(aI (by kernel_rfl)),?_⟩
 ·rw[vc131]
  exact(oC h (fun _ h=>h) fun _ h=>(oC h (fun _ h=>(oC h (fun _ h=>h) fun _ h=>h)) fun _ h=>(oC h (fun _ h=>(oC h (fun _ h=>(oC h (fun _ h=>⟨h_v.2.2.1,h⟩) fun _ h=>h)) fun _ h=>h)) fun _ h=>(oC h (fun _ h=>(oC h (fun _ h=>h) fun _ h=>h)) fun _ h=>h))))
def c70:Con:=⟨[.dat aa],fun args hp K=>g1 (pD aa) (fun v=>(Sm aa v)/\K (dB (M.aP v)) []) args hp,.plain,false⟩
abbrev C70:Ctx:=cx [(131,c131)] 5 [] 0 false
def ann70:=an [[.fixRow 1 aa,kp 2],[kp 4]] []
theorem vc70 (v:aa.D) (K:KA):vcT C70 aA ann70 f70 [.data aa v] [] (.dat Ty.bool) K =
 ((Sm aa v)/\K (dB (M.aP v)) []):=by kernel_rfl
theorem con70_ok:aV P 70 c70:=aY C70 func70 (kC con131_ok kN) fun args hp K h0=>by
 obtain⟨v,rfl,rfl,h_v,hK⟩:=g1e h0
 have h:ok (F.vu v) (fun r=>K (dB r) []):=aB (F.ym v h_v) hK
 refine⟨rfl,ann70,aA,(.dat Ty.bool),(aI (by kernel_rfl)),?_⟩
 ·rw[vc70]
  exact⟨h_v,h⟩
def c26:Con:=⟨[],fun args hp K=>HB (K (dB true) []) args hp,.plain,false⟩
abbrev C26:Ctx:=cx [(70,c70)] 8 [] 0 false
def ann26:=an [[kp 0],[kp 1]] []
theorem vc26  (K:KA):vcT C26 aA ann26 f26 [] [] (.dat Ty.bool) K =
 ((Sm aa (Z1,(Z3,((⟨#[]⟩:ByteArray),()))))/\cond ((M.aP (Z1,(Z3,((⟨#[]⟩:ByteArray),()))))==true) ((Sm aa ((9:Int),(Z0,((⟨#[]⟩:ByteArray),()))))/\K (dB (!(M.aP ((9:Int),(Z0,((⟨#[]⟩:ByteArray),())))))) []) (K (dB false) [])):=by kernel_rfl
theorem con26_ok:aV P 26 c26:=aY C26 func26 (kC con70_ok kN) fun args hp K h0=>by
 obtain⟨rfl,rfl,h1⟩:=Eg h0
 have hK:=h1
 have h:ok (F.uq) (fun r=>K (dB r) []):=aB (F.AQ) hK
 refine⟨rfl,ann26,aA,(.dat Ty.bool),(aI (by kernel_rfl)),?_⟩
 ·rw[vc26]
  exact⟨(show Sm aa _ from⟨trivial,(show Sm (Ty.pair aD (Ty.pair Ty.str Ty.unit)) _ from⟨trivial,(show Sm (Ty.pair Ty.str Ty.unit) _ from⟨(Nat.le_of_ble_eq_true rfl),trivial⟩)⟩)⟩),(oC h (fun _ h=>⟨(show Sm aa _ from⟨trivial,(show Sm (Ty.pair aD (Ty.pair Ty.str Ty.unit)) _ from⟨trivial,(show Sm (Ty.pair Ty.str Ty.unit) _ from⟨(Nat.le_of_ble_eq_true rfl),trivial⟩)⟩)⟩),h⟩) fun _ h=>h)⟩
def c137:Con:=⟨[.dat ax],fun args hp K=>g1 (pD ax) (fun c=>K (dB (!M.eJ c)) []) args hp,.plain,false⟩
abbrev C137:Ctx:=cx [(132,c132)] 7 [] 0 false
def ann137:=an [[.fixRow 1 ax,kp 2],[kp 4]] []
theorem vc137 (c:ax.D) (K:KA):vcT C137 aA ann137 f137 [.data ax c] [] (.dat Ty.bool) K =
 (K (dB (!(M.inR c.1 Z1 Z3))) []):=by kernel_rfl
theorem con137_ok:aV P 137 c137:=aY C137 func137 (kC con132_ok kN) fun args hp K h0=>by
 obtain⟨c,rfl,rfl,hK⟩:=g1e h0
 have h:ok (F.oT c) (fun r=>K (dB r) []):=aB (F.tj c) hK
 refine⟨rfl,ann137,aA,(.dat Ty.bool),(aI (by kernel_rfl)),?_⟩
 ·rw[vc137]
  exact h
def c193:Con:=⟨[.lent ax,.any],fun args hp K=>args2 (fun a0 a1=>gw ax a0 fun xs=>gO 137 a1 (tn ((Sm TCS xs)/\K (dI (M.idx (t:=ax) (fun e=>!M.eJ e) xs)) []))) args hp,.plain,false⟩
abbrev C193:Ctx:=cx [(137,c137)] 19 [] 0 false
def ann193:=an [[kp 3],[kp 387],[kp 899],[kp 419],[kp 65955],[kp 16],[kp 387],[kp 16]] [[kp 0]]
abbrev s193_0 (xs:LC) (i0:Int) (v0:Unit):St:=⟨[(0,.brw ax xs),(1,.fn 137 []),(7,dI (xs.length:Int)),(8,dI i0)],[]⟩
abbrev LP193_0 (xs:LC) (m:Nat) (st_:St) (K:KX):Prop:=True/\cu (s193_0 xs) Z0 (xs.length:Int) (F.cT xs) (fun v0:Unit=>True) (bA (fun v0:Unit=>True->K (.exit 0) (⟨[],[]⟩:St)) (fun q0:Int=>K .ret (⟨[(4,dI q0)],[]⟩:St))) m st_
def L193 (xs:LC):bC:=lp1 0 (LP193_0 xs)
theorem vc193 (xs:LC) (K:KA):vcT C193 (L193 xs) ann193 f193 [.brw ax xs,.fn 137 []] [] (.dat aD) K =
 (∃m_,True/\cu (s193_0 xs) Z0 (xs.length:Int) (F.cT xs) (fun v0:Unit=>True) (bA (fun v0:Unit=>True->K (dI (-1:Int)) []) (fun q0:Int=>K (dI q0) [])) m_ (s193_0 xs Z0 ())):=by kernel_rfl
theorem lvc193_0 (xs:LC)  (i0:Int) (v0:Unit) (m:Nat) (K:KX):lvT C193 (L193 xs) ann193 f193 0 0 (s193_0 xs i0 v0) m K =
 (cond (decide (i0<(xs.length:Int))) ((0<=i0)/\(i0<(xs.length:Int))/\cond (!M.eJ (nC xs i0)) (K .ret (⟨[(4,dI i0)],[]⟩:St)) (nxT (LP193_0 xs) m K (s193_0 xs (wrap64 (i0+Z1)) ()))) (K (.exit 0) (⟨[],[]⟩:St))):=by kernel_rfl
theorem con193_ok:aV P 193 c193:=aY C193 func193 (kC con137_ok kN) fun args hp K h0=>by
 obtain⟨a0,a1,rfl,rfl,h1⟩:=bB h0
 obtain⟨xs,rfl,h2⟩:=bV h1
 obtain⟨cs1,rfl,h3⟩:=bZ h2
 obtain⟨rfl,h4⟩:=gV h3
 obtain⟨h_xs,hK⟩:=h4
 have h:ok (F.gZ xs) (fun r=>K (dI r) []):=aB (F.lC xs h_xs) hK
 refine⟨rfl,ann193,(L193 xs),(.dat aD),(br (i0:=0) (by kernel_rfl) ?_),?_⟩
 ·rintro _ _ K ⟨hc0,i0,v0,rfl,hl0,rfl,hv0,h⟩
  exact cast (lvc193_0 _ _ _ _ _).symm (bJ h (fun ht0 h=>⟨hl0,⟨ht0,(oC h (fun _ h=>h) fun _ h=>(bu (fun _ hm=>⟨hc0,hm⟩) _ rfl hl0 jk ht0 (bE h_xs) trivial h))⟩⟩) fun h=>(h trivial))
 ·rw[vc193]
  exact(bp (fun m hm=>⟨trivial,hm⟩) Z0 _ rfl (Int.natCast_nonneg 0) trivial (aX h (fun v0 h hv0=>h) (fun q0 h=>h)))
def c136:Con:=⟨[.lent ax,.any],fun args hp K=>args2 (fun a0 a1=>gw ax a0 fun xs=>gO 137 a1 (tn ((Sm TCS xs)/\K (dB (List.any xs (fun e=>!M.eJ e))) []))) args hp,.plain,false⟩
abbrev C136:Ctx:=cx [(137,c137),(193,c193)] 9 [] 0 false
def ann136:=an [[kp 3],[kp 16]] []
theorem vc136 (xs:LC) (K:KA):vcT C136 aA ann136 f136 [.brw ax xs,.fn 137 []] [] (.dat Ty.bool) K =
 ((Sm TCS xs)/\K (dB (decide (Z0<=(M.idx (t:=ax) (fun e=>!M.eJ e) xs)))) []):=by kernel_rfl
theorem con136_ok:aV P 136 c136:=aY C136 func136 (kC con137_ok (kC con193_ok kN)) fun args hp K h0=>by
 obtain⟨a0,a1,rfl,rfl,h1⟩:=bB h0
 obtain⟨xs,rfl,h2⟩:=bV h1
 obtain⟨cs1,rfl,h3⟩:=bZ h2
 obtain⟨rfl,h4⟩:=gV h3
 obtain⟨h_xs,hK⟩:=h4
 have h:ok (F.eg xs) (fun r=>K (dB r) []):=aB (F.jV xs h_xs) hK
 refine⟨rfl,ann136,aA,(.dat Ty.bool),(aI (by kernel_rfl)),?_⟩
 ·rw[vc136]
  exact⟨h_xs,h⟩
def c75:Con:=⟨[.dat TCS],fun args hp K=>g1 (pD TCS) (fun columns=>(Sm TCS columns)/\K (dB (M.bM columns)) []) args hp,.plain,false⟩
abbrev C75:Ctx:=cx [(136,c136)] 11 [] 0 false
def ann75:=an [[kp 1],[kp 4]] []
theorem vc75 (columns:LC) (K:KA):vcT C75 aA ann75 f75 [.data TCS columns] [] (.dat Ty.bool) K =
 (cond ((decide ((columns.length:Int)<=Z4))==true) ((Sm TCS columns)/\K (dB (!(List.any columns (fun e=>!M.eJ e)))) []) (K (dB false) [])):=by kernel_rfl
theorem con75_ok:aV P 75 c75:=aY C75 func75 (kC con136_ok kN) fun args hp K h0=>by
 obtain⟨columns,rfl,rfl,h_columns,hK⟩:=g1e h0
 have h:ok (F.ny columns) (fun r=>K (dB r) []):=aB (F.uT columns h_columns) hK
 refine⟨rfl,ann75,aA,(.dat Ty.bool),(aI (by kernel_rfl)),?_⟩
 ·rw[vc75]
  exact(oC h (fun _ h=>⟨h_columns,h⟩) fun _ h=>h)
def c200:Con:=⟨[.dat aa],fun args hp K=>g1 (pD aa) (fun v=>(Sm aa v)/\K (dB (decide (v.1=0))) []) args hp,.plain,false⟩
abbrev C200:Ctx:=cx [] 6 [] 0 false
def ann200:=an [[.fixRow 1 aa,kp 2],[kp 4]] []
theorem vc200 (v:aa.D) (K:KA):vcT C200 aA ann200 f200 [.data aa v] [] (.dat Ty.bool) K =
 (K (dB (decide (v.1=Z0))) []):=by kernel_rfl
theorem con200_ok:aV P 200 c200:=aY C200 func200 kN fun args hp K h0=>by
 obtain⟨v,rfl,rfl,h_v,hK⟩:=g1e h0
 have h:ok (F.mR v) (fun r=>K (dB r) []):=aB (F.qX v h_v) hK
 refine⟨rfl,ann200,aA,(.dat Ty.bool),(aI (by kernel_rfl)),?_⟩
 ·rw[vc200]
  exact h
def c211:Con:=⟨[.dat aa],fun args hp K=>g1 (pD aa) (fun v=>(Sm aa v)/\K (dB (!M.aP v)) []) args hp,.plain,false⟩
abbrev C211:Ctx:=cx [(131,c131)] 6 [] 0 false
def ann211:=an [[.fixRow 1 aa,kp 2],[kp 4]] []
theorem vc211 (v:aa.D) (K:KA):vcT C211 aA ann211 f211 [.data aa v] [] (.dat Ty.bool) K =
 ((Sm aa v)/\K (dB (!(M.aP v))) []):=by kernel_rfl
theorem con211_ok:aV P 211 c211:=aY C211 func211 (kC con131_ok kN) fun args hp K h0=>by
 obtain⟨v,rfl,rfl,h_v,hK⟩:=g1e h0
 have h:ok (F.vO v) (fun r=>K (dB r) []):=aB (F.xS v h_v) hK
 refine⟨rfl,ann211,aA,(.dat Ty.bool),(aI (by kernel_rfl)),?_⟩
 ·rw[vc211]
  exact⟨h_v,h⟩
def c231:Con:=⟨[.lent aa,.any],fun args hp K=>(args2 (fun a0 a1=>gw aa a0 fun xs=>gO 200 a1 (tn ((Sm TVS xs)/\K (dI (M.idx (t:=aa) (fun e=>decide (e.1=0)) xs)) []))) args hp)\/(args2 (fun a0 a1=>gw aa a0 fun xs=>gO 211 a1 (tn ((Sm TVS xs)/\K (dI (M.idx (t:=aa) (fun e=>!M.aP e) xs)) []))) args hp),.plain,false⟩
abbrev C231:Ctx:=cx [(200,c200),(211,c211)] 19 [] 0 false
def ann231_v0:=an [[kp 3],[kp 387],[kp 899],[kp 419],[kp 65955],[kp 16],[kp 387],[kp 16]] [[kp 0]]
abbrev s231_0_v0 (xs:LV) (i0:Int) (v0:Unit):St:=⟨[(0,.brw aa xs),(1,.fn 200 []),(7,dI (xs.length:Int)),(8,dI i0)],[]⟩
abbrev LP231_0_v0 (xs:LV) (m:Nat) (st_:St) (K:KX):Prop:=True/\cu (s231_0_v0 xs) Z0 (xs.length:Int) (F.cG xs) (fun v0:Unit=>True) (bA (fun v0:Unit=>True->K (.exit 0) (⟨[],[]⟩:St)) (fun q0:Int=>K .ret (⟨[(4,dI q0)],[]⟩:St))) m st_
def L231_v0 (xs:LV):bC:=lp1 0 (LP231_0_v0 xs)
theorem vc231_v0 (xs:LV) (K:KA):vcT C231 (L231_v0 xs) ann231_v0 f231 [.brw aa xs,.fn 200 []] [] (.dat aD) K =
 (∃m_,True/\cu (s231_0_v0 xs) Z0 (xs.length:Int) (F.cG xs) (fun v0:Unit=>True) (bA (fun v0:Unit=>True->K (dI (-1:Int)) []) (fun q0:Int=>K (dI q0) [])) m_ (s231_0_v0 xs Z0 ())):=by kernel_rfl
theorem lvc231_0_v0 (xs:LV)  (i0:Int) (v0:Unit) (m:Nat) (K:KX):lvT C231 (L231_v0 xs) ann231_v0 f231 0 0 (s231_0_v0 xs i0 v0) m K =
 (cond (decide (i0<(xs.length:Int))) ((0<=i0)/\(i0<(xs.length:Int))/\(Sm aa (nV xs i0))/\cond (decide ((nV xs i0).1=0)) (K .ret (⟨[(4,dI i0)],[]⟩:St)) (nxT (LP231_0_v0 xs) m K (s231_0_v0 xs (wrap64 (i0+Z1)) ()))) (K (.exit 0) (⟨[],[]⟩:St))):=by kernel_rfl
def ann231_v1:=an [[kp 3],[kp 387],[kp 899],[kp 419],[kp 65955],[kp 16],[kp 387],[kp 16]] [[kp 0]]
abbrev s231_0_v1 (xs:LV) (i0:Int) (v0:Unit):St:=⟨[(0,.brw aa xs),(1,.fn 211 []),(7,dI (xs.length:Int)),(8,dI i0)],[]⟩
abbrev LP231_0_v1 (xs:LV) (m:Nat) (st_:St) (K:KX):Prop:=True/\cu (s231_0_v1 xs) Z0 (xs.length:Int) (F.dH xs) (fun v0:Unit=>True) (bA (fun v0:Unit=>True->K (.exit 0) (⟨[],[]⟩:St)) (fun q0:Int=>K .ret (⟨[(4,dI q0)],[]⟩:St))) m st_
def L231_v1 (xs:LV):bC:=lp1 0 (LP231_0_v1 xs)
theorem vc231_v1 (xs:LV) (K:KA):vcT C231 (L231_v1 xs) ann231_v1 f231 [.brw aa xs,.fn 211 []] [] (.dat aD) K =
 (∃m_,True/\cu (s231_0_v1 xs) Z0 (xs.length:Int) (F.dH xs) (fun v0:Unit=>True) (bA (fun v0:Unit=>True->K (dI (-1:Int)) []) (fun q0:Int=>K (dI q0) [])) m_ (s231_0_v1 xs Z0 ())):=by kernel_rfl
theorem lvc231_0_v1 (xs:LV)  (i0:Int) (v0:Unit) (m:Nat) (K:KX):lvT C231 (L231_v1 xs) ann231_v1 f231 0 0 (s231_0_v1 xs i0 v0) m K =
 (cond (decide (i0<(xs.length:Int))) ((0<=i0)/\(i0<(xs.length:Int))/\(Sm aa (nV xs i0))/\cond (!M.aP (nV xs i0)) (K .ret (⟨[(4,dI i0)],[]⟩:St)) (nxT (LP231_0_v1 xs) m K (s231_0_v1 xs (wrap64 (i0+Z1)) ()))) (K (.exit 0) (⟨[],[]⟩:St))):=by kernel_rfl
theorem con231_ok:aV P 231 c231:=aY C231 func231 (kC con200_ok (kC con211_ok kN)) fun args hp K h0=>by
 rcases h0 with h0 | h0
 ·obtain⟨a0,a1,rfl,rfl,h1⟩:=bB h0
  obtain⟨xs,rfl,h2⟩:=bV h1
  obtain⟨cs1,rfl,h3⟩:=bZ h2
  obtain⟨rfl,h4⟩:=gV h3
  obtain⟨h_xs,hK⟩:=h4
  have h:ok (F.gB xs) (fun r=>K (dI r) []):=aB (F.kf xs h_xs) hK
  refine⟨rfl,ann231_v0,(L231_v0 xs),(.dat aD),(br (i0:=0) (by kernel_rfl) ?_),?_⟩
  ·rintro _ _ K ⟨hc0,i0,v0,rfl,hl0,rfl,hv0,h⟩
   exact cast (lvc231_0_v0 _ _ _ _ _).symm (bJ h (fun ht0 h=>⟨hl0,⟨ht0,⟨(aH h_xs i0),(oC h (fun _ h=>h) fun _ h=>(bu (fun _ hm=>⟨hc0,hm⟩) _ rfl hl0 jk ht0 (bE h_xs) trivial h))⟩⟩⟩) fun h=>(h trivial))
  ·rw[vc231_v0]
   exact(bp (fun m hm=>⟨trivial,hm⟩) Z0 _ rfl (Int.natCast_nonneg 0) trivial (aX h (fun v0 h hv0=>h) (fun q0 h=>h)))
 ·obtain⟨a0,a1,rfl,rfl,h1⟩:=bB h0
  obtain⟨xs,rfl,h2⟩:=bV h1
  obtain⟨cs1,rfl,h3⟩:=bZ h2
  obtain⟨rfl,h4⟩:=gV h3
  obtain⟨h_xs,hK⟩:=h4
  have h:ok (F.jE xs) (fun r=>K (dI r) []):=aB (F.nB xs h_xs) hK
  refine⟨rfl,ann231_v1,(L231_v1 xs),(.dat aD),(br (i0:=0) (by kernel_rfl) ?_),?_⟩
  ·rintro _ _ K ⟨hc0,i0,v0,rfl,hl0,rfl,hv0,h⟩
   exact cast (lvc231_0_v1 _ _ _ _ _).symm (bJ h (fun ht0 h=>⟨hl0,⟨ht0,⟨(aH h_xs i0),(oC h (fun _ h=>h) fun _ h=>(bu (fun _ hm=>⟨hc0,hm⟩) _ rfl hl0 jk ht0 (bE h_xs) trivial h))⟩⟩⟩) fun h=>(h trivial))
  ·rw[vc231_v1]
   exact(bp (fun m hm=>⟨trivial,hm⟩) Z0 _ rfl (Int.natCast_nonneg 0) trivial (aX h (fun v0 h hv0=>h) (fun q0 h=>h)))
def c199:Con:=⟨[.lent aa,.any],fun args hp K=>(args2 (fun a0 a1=>gw aa a0 fun xs=>gO 200 a1 (tn ((Sm TVS xs)/\K (dB (List.any xs (fun e=>decide (e.1=0)))) []))) args hp)\/(args2 (fun a0 a1=>gw aa a0 fun xs=>gO 211 a1 (tn ((Sm TVS xs)/\K (dB (List.any xs (fun e=>!M.aP e))) []))) args hp),.plain,false⟩
abbrev C199:Ctx:=cx [(200,c200),(211,c211),(231,c231)] 9 [] 0 false
def ann199_v0:=an [[kp 3],[kp 16]] []
theorem vc199_v0 (xs:LV) (K:KA):vcT C199 aA ann199_v0 f199 [.brw aa xs,.fn 200 []] [] (.dat Ty.bool) K =
 (((Sm TVS xs)/\K (dB (decide (Z0<=(M.idx (t:=aa) (fun e=>decide (e.1=0)) xs)))) [])\/False):=by kernel_rfl
def ann199_v1:=an [[kp 3],[kp 16]] []
theorem vc199_v1 (xs:LV) (K:KA):vcT C199 aA ann199_v1 f199 [.brw aa xs,.fn 211 []] [] (.dat Ty.bool) K =
 (False\/((Sm TVS xs)/\K (dB (decide (Z0<=(M.idx (t:=aa) (fun e=>!M.aP e) xs)))) [])):=by kernel_rfl
theorem con199_ok:aV P 199 c199:=aY C199 func199 (kC con200_ok (kC con211_ok (kC con231_ok kN))) fun args hp K h0=>by
 rcases h0 with h0 | h0
 ·obtain⟨a0,a1,rfl,rfl,h1⟩:=bB h0
  obtain⟨xs,rfl,h2⟩:=bV h1
  obtain⟨cs1,rfl,h3⟩:=bZ h2
  obtain⟨rfl,h4⟩:=gV h3
  obtain⟨h_xs,hK⟩:=h4
  have h:ok (F.dG xs) (fun r=>K (dB r) []):=aB (F.jl xs h_xs) hK
  refine⟨rfl,ann199_v0,aA,(.dat Ty.bool),(aI (by kernel_rfl)),?_⟩
  ·rw[vc199_v0]
   exact(Or.inl (⟨h_xs,h⟩))
 ·obtain⟨a0,a1,rfl,rfl,h1⟩:=bB h0
  obtain⟨xs,rfl,h2⟩:=bV h1
  obtain⟨cs1,rfl,h3⟩:=bZ h2
  obtain⟨rfl,h4⟩:=gV h3
  obtain⟨h_xs,hK⟩:=h4
  have h:ok (F.eZ xs) (fun r=>K (dB r) []):=aB (F.lO xs h_xs) hK
  refine⟨rfl,ann199_v1,aA,(.dat Ty.bool),(aI (by kernel_rfl)),?_⟩
  ·rw[vc199_v1]
   exact(Or.inr (⟨h_xs,h⟩))
def c168:Con:=⟨[.dat TVS],fun args hp K=>g1 (pD TVS) (fun row=>(Sm TVS row)/\K (dB (M.pL row)) []) args hp,.plain,false⟩
abbrev C168:Ctx:=cx [(199,c199)] 11 [] 0 false
def ann168:=an [[kp 1],[kp 4]] []
theorem vc168 (row:LV) (K:KA):vcT C168 aA ann168 f168 [.data TVS row] [] (.dat Ty.bool) K =
 (cond ((decide ((row.length:Int)<=Z4))==true) (False\/((Sm TVS row)/\K (dB (!(List.any row (fun e=>!M.aP e)))) [])) (K (dB false) [])):=by kernel_rfl
theorem con168_ok:aV P 168 c168:=aY C168 func168 (kC con199_ok kN) fun args hp K h0=>by
 obtain⟨row,rfl,rfl,h_row,hK⟩:=g1e h0
 have h:ok (F.tY row) (fun r=>K (dB r) []):=aB (F.Be row h_row) hK
 refine⟨rfl,ann168,aA,(.dat Ty.bool),(aI (by kernel_rfl)),?_⟩
 ·rw[vc168]
  exact(oC h (fun _ h=>(Or.inr (⟨h_row,h⟩))) fun _ h=>h)
def c100:Con:=⟨[.dat TCS,.dat TVS],fun args hp K=>g2 (pD TCS) (pD TVS) (fun columns row=>(Sm TCS columns)/\(Sm TVS row)/\K (dB (M.bU columns row)) []) args hp,.plain,false⟩
abbrev C100:Ctx:=cx [(75,c75),(168,c168)] 51 [] 0 false
def ann100:=an [[kp 3],[kp 2097155],[kp 16],[kp 29360129],[kp 62914561],[.fixRow 6 aa,kp 29360225],[kp 562949982781441],[kp 16],[kp 29360129],[kp 16]] [[kp 0]]
abbrev s100_0 (columns:LC) (row:LV) (i0:Int) (v0:Unit):St:=⟨[(0,.data TCS columns),(22,.data TVS row),(23,dI (row.length:Int)),(24,dI i0)],[]⟩
abbrev LP100_0 (columns:LC) (row:LV) (m:Nat) (st_:St) (K:KX):Prop:=True/\cu (s100_0 columns row) Z0 (row.length:Int) (F.iZ columns row) (fun v0:Unit=>True) (bA (fun v0:Unit=>True->K (.exit 0) (⟨[],[]⟩:St)) (fun q0:Unit=>K .ret (⟨[(4,dB false)],[]⟩:St))) m st_
def L100 (columns:LC) (row:LV):bC:=lp1 0 (LP100_0 columns row)
theorem vc100 (columns:LC) (row:LV) (K:KA):vcT C100 (L100 columns row) ann100 f100 [.data TCS columns,.data TVS row] [] (.dat Ty.bool) K =
 ((Sm TCS columns)/\cond ((!(M.bM columns))==false) ((Sm TVS row)/\cond ((!(M.pL row))==false) (cond (!decide ((row.length:Int)=(columns.length:Int))) (K (dB false) []) (∃m_,True/\cu (s100_0 columns row) Z0 (row.length:Int) (F.iZ columns row) (fun v0:Unit=>True) (bA (fun v0:Unit=>True->K (dB true) []) (fun q0:Unit=>K (dB false) [])) m_ (s100_0 columns row Z0 ()))) (K (dB false) [])) (K (dB false) [])):=by kernel_rfl
theorem lvc100_0 (columns:LC) (row:LV)  (i0:Int) (v0:Unit) (m:Nat) (K:KX):lvT C100 (L100 columns row) ann100 f100 0 0 (s100_0 columns row i0 v0) m K =
 (cond (decide (i0<(row.length:Int))) ((0<=i0)/\(i0<(row.length:Int))/\(0<=i0)/\(i0<(columns.length:Int))/\cond ((!decide ((nV row i0).1=(nC columns i0).1))==true) (cond ((!decide ((nV row i0).1=Z0))==false) ((0<=i0)/\(i0<(columns.length:Int))/\cond (!(nC columns i0).2.1) (K .ret (⟨[(4,dB false)],[]⟩:St)) (nxT (LP100_0 columns row) m K (s100_0 columns row (wrap64 (i0+Z1)) ()))) (K .ret (⟨[(4,dB false)],[]⟩:St))) (nxT (LP100_0 columns row) m K (s100_0 columns row (wrap64 (i0+Z1)) ()))) (K (.exit 0) (⟨[],[]⟩:St))):=by kernel_rfl
theorem con100_ok:aV P 100 c100:=aY C100 func100 (kC con75_ok (kC con168_ok kN)) fun args hp K h0=>by
 obtain⟨columns,row,rfl,rfl,h_columns,h_row,hK⟩:=g2e h0
 have h:ok (F.qm columns row) (fun r=>K (dB r) []):=aB (F.yA columns row h_columns h_row) hK
 refine⟨rfl,ann100,(L100 columns row),(.dat Ty.bool),(br (i0:=0) (by kernel_rfl) ?_),?_⟩
 ·rintro _ _ K ⟨hc0,i0,v0,rfl,hl0,rfl,hv0,h⟩
  exact cast (lvc100_0 _ _ _ _ _ _).symm (bJ h (fun ht0 h=>⟨hl0,⟨ht0,⟨hl0,(oG h fun g1 h=>(oC h (fun _ h=>(oC h (fun _ h=>⟨hl0,⟨g1,(oC h (fun _ h=>h) fun _ h=>(bu (fun _ hm=>⟨hc0,hm⟩) _ rfl hl0 jk ht0 (bE h_row) trivial h))⟩⟩) fun _ h=>h)) fun _ h=>(bu (fun _ hm=>⟨hc0,hm⟩) _ rfl hl0 jk ht0 (bE h_row) trivial h)))⟩⟩⟩) fun h=>(h trivial))
 ·rw[vc100]
  exact⟨h_columns,(oC h (fun _ h=>⟨h_row,(oC h (fun _ h=>(oC h (fun _ h=>h) fun _ h=>(bp (fun m hm=>⟨trivial,hm⟩) Z0 _ rfl (Int.natCast_nonneg 0) trivial (aX h (fun v0 h hv0=>h) (fun q0 h=>h))))) fun _ h=>h)⟩) fun _ h=>h)⟩
def c139:Con:=⟨[.dat TVS,.any],fun args hp K=>g2 (pD TVS) (pR TCS) (fun r columns=>(Sm TVS r)/\(Sm TCS columns)/\K (dB (!M.bU columns r)) []) args hp,.plain,false⟩
abbrev C139:Ctx:=cx [(100,c100)] 8 [] 0 false
def ann139:=an [[kp 3],[kp 8]] []
theorem vc139 (r:LV) (columns:LC) (K:KA):vcT C139 aA ann139 f139 [.data TVS r,.ref (.data TCS columns)] [] (.dat Ty.bool) K =
 ((Sm TCS columns)/\(Sm TVS r)/\K (dB (!(M.bU columns r))) []):=by kernel_rfl
theorem con139_ok:aV P 139 c139:=aY C139 func139 (kC con100_ok kN) fun args hp K h0=>by
 obtain⟨r,columns,rfl,rfl,h_r,h_columns,hK⟩:=g2e h0
 have h:ok (F.tr r columns) (fun r=>K (dB r) []):=aB (F.xd r columns h_r h_columns) hK
 refine⟨rfl,ann139,aA,(.dat Ty.bool),(aI (by kernel_rfl)),?_⟩
 ·rw[vc139]
  exact⟨h_columns,⟨h_r,h⟩⟩
def c158:Con:=⟨[.lent aa,.lent aa],fun args hp K=>g2 (pB aa) (pB aa) (fun xs ys=>(Sm TVS xs)/\(Sm TVS ys)/\K (dB (decide (xs=ys))) []) args hp,.plain,false⟩
abbrev C158:Ctx:=cx [] 26 [] 0 false
def ann158:=an [[kp 3],[kp 1027],[kp 16],[kp 12291],[kp 28675],[kp 12323],[kp 16789507],[kp 16],[kp 12291],[kp 16]] [[kp 0]]
abbrev s158_0 (xs:LV) (ys:LV) (i0:Int) (v0:Unit):St:=⟨[(0,.brw aa xs),(1,.brw aa ys),(12,dI (xs.length:Int)),(13,dI i0)],[]⟩
abbrev LP158_0 (xs:LV) (ys:LV) (m:Nat) (st_:St) (K:KX):Prop:=True/\cu (s158_0 xs ys) Z0 (xs.length:Int) (F.jc xs ys) (fun v0:Unit=>True) (bA (fun v0:Unit=>True->K (.exit 0) (⟨[],[]⟩:St)) (fun q0:Unit=>K .ret (⟨[(4,dB false)],[]⟩:St))) m st_
def L158 (xs:LV) (ys:LV):bC:=lp1 0 (LP158_0 xs ys)
theorem vc158 (xs:LV) (ys:LV) (K:KA):vcT C158 (L158 xs ys) ann158 f158 [.brw aa xs,.brw aa ys] [] (.dat Ty.bool) K =
 (cond (!decide ((xs.length:Int)=(ys.length:Int))) (K (dB false) []) (∃m_,True/\cu (s158_0 xs ys) Z0 (xs.length:Int) (F.jc xs ys) (fun v0:Unit=>True) (bA (fun v0:Unit=>True->K (dB true) []) (fun q0:Unit=>K (dB false) [])) m_ (s158_0 xs ys Z0 ()))):=by kernel_rfl
theorem lvc158_0 (xs:LV) (ys:LV)  (i0:Int) (v0:Unit) (m:Nat) (K:KX):lvT C158 (L158 xs ys) ann158 f158 0 0 (s158_0 xs ys i0 v0) m K =
 (cond (decide (i0<(xs.length:Int))) ((0<=i0)/\(i0<(xs.length:Int))/\(0<=i0)/\(i0<(ys.length:Int))/\cond (!(Ty.beq aa (nV xs i0) (nV ys i0))) (K .ret (⟨[(4,dB false)],[]⟩:St)) (nxT (LP158_0 xs ys) m K (s158_0 xs ys (wrap64 (i0+Z1)) ()))) (K (.exit 0) (⟨[],[]⟩:St))):=by kernel_rfl
theorem con158_ok:aV P 158 c158:=aY C158 func158 kN fun args hp K h0=>by
 obtain⟨xs,ys,rfl,rfl,h_xs,h_ys,hK⟩:=g2e h0
 have h:ok (F.uX xs ys) (fun r=>K (dB r) []):=aB (F.yf xs ys h_xs h_ys) hK
 refine⟨rfl,ann158,(L158 xs ys),(.dat Ty.bool),(br (i0:=0) (by kernel_rfl) ?_),?_⟩
 ·rintro _ _ K ⟨hc0,i0,v0,rfl,hl0,rfl,hv0,h⟩
  exact cast (lvc158_0 _ _ _ _ _ _).symm (bJ h (fun ht0 h=>⟨hl0,⟨ht0,⟨hl0,(oG h fun _ h=>(oC h (fun _ h=>h) fun _ h=>(bu (fun _ hm=>⟨hc0,hm⟩) _ rfl hl0 jk ht0 (bE h_xs) trivial h)))⟩⟩⟩) fun h=>(h trivial))
 ·rw[vc158]
  exact(oC h (fun _ h=>h) fun _ h=>(bp (fun m hm=>⟨trivial,hm⟩) Z0 _ rfl (Int.natCast_nonneg 0) trivial (aX h (fun v0 h hv0=>h) (fun q0 h=>h))))
def c191:Con:=⟨[.dat TVS,.any],fun args hp K=>g2 (pD TVS) (pR TVS) (fun r row=>(Sm TVS r)/\(Sm TVS row)/\K (dB (decide (r=row))) []) args hp,.plain,false⟩
abbrev C191:Ctx:=cx [(158,c158)] 7 [] 0 false
def ann191:=an [[kp 3],[kp 8]] []
theorem vc191 (r:LV) (row:LV) (K:KA):vcT C191 aA ann191 f191 [.data TVS r,.ref (.data TVS row)] [] (.dat Ty.bool) K =
 ((Sm TVS r)/\(Sm TVS row)/\K (dB (decide (r=row))) []):=by kernel_rfl
theorem con191_ok:aV P 191 c191:=aY C191 func191 (kC con158_ok kN) fun args hp K h0=>by
 obtain⟨r,row,rfl,rfl,h_r,h_row,hK⟩:=g2e h0
 have h:ok (F.vr r row) (fun r=>K (dB r) []):=aB (F.yy r row h_r h_row) hK
 refine⟨rfl,ann191,aA,(.dat Ty.bool),(aI (by kernel_rfl)),?_⟩
 ·rw[vc191]
  exact⟨h_r,⟨h_row,h⟩⟩
abbrev C192:Ctx:=cx [] 9 [] 400000 true
def T192:Inl:=AB C192 (fun _=>[]) (eY f192) f192.results.toList
theorem inlOk192:AO P 192 T192:=GC C192 func192 kN
def c134:Con:=⟨[.dat TVS],fun args hp K=>g1 (pD TVS) (fun xs=>(Sm TVS xs)/\(LD xs fun r=>K (.clp 0 (r.length:Int)) [(0,.arr .sh aa r)])) args hp,.bor,false⟩
abbrev C134:Ctx:=cx [] 9 [(192,T192)] 0 true
def ann134:=an [[kp 1],[kp 33],[.clip 2,kp 4],[kp 4]] []
theorem vc134 (xs:LV) (K:KA):vcT C134 aA ann134 f134 [.data TVS xs] [] .raw K =
 (cond (decide ((xs.length:Int)=Z0)) (K (.clp 0 (([]:List aa.D).length:Int)) [(0,.arr .sh aa ([]:List aa.D))]) ((xs.length * 32<=lim)/\(0<=Z0)/\(Z0<=(xs.length:Int))/\((xs.length:Int)<=(xs.length:Int))/\((xs.length:Int)=(xs.length:Int))/\(Z0=0)/\K (.clp 0 ((xs.take (xs.length:Int).toNat).length:Int)) [(0,.arr .sh aa (xs.take (xs.length:Int).toNat))])):=by kernel_rfl
theorem con134_ok:aV P 134 c134:=aY C134 func134 (kI inlOk192 kN) fun args hp K h0=>by
 obtain⟨xs,rfl,rfl,h_xs,hK⟩:=g1e h0
 have h:ok (F.uF xs) (fun r=>K (.clp 0 (r.length:Int)) [(0,.arr .sh aa r)]):=aB (F.xQ xs h_xs) (hK _ rfl)
 refine⟨rfl,ann134,aA,.raw,(aI (by kernel_rfl)),?_⟩
 ·rw[vc134]
  exact(oC h (fun _ h=>h) fun _ h=>⟨(GR h_xs rfl),⟨(Int.natCast_nonneg 0),⟨(Int.natCast_nonneg _),⟨(Int.le_refl _),⟨rfl,⟨rfl,h⟩⟩⟩⟩⟩⟩)
def c198:Con:=⟨[.dat TVS,.dat (Ty.sl aD)],fun args hp K=>g2 (pD TVS) (pD (Ty.sl aD)) (fun row list=>(Sm TVS row)/\(Sm (Ty.sl aD) list)/\(M.fm row list)/\(LD (M.taken row list) fun r=>K (.data TVS r) [])) args hp,.plain,false⟩
abbrev C198:Ctx:=cx [(134,c134)] 24 [] 0 false
def ann198:=an [[kp 3],[kp 35],[kp 1825],[kp 3873],[kp 1953],[kp 1825],[kp 1825],[.freeze 23,kp 16]] [[kp 32]]
abbrev s198_0 (row:LV) (list:LI) (i0:Int) (v0:LV):St:=⟨[(0,.data TVS row),(5,.own 5 none),(8,.data (Ty.sl aD) list),(9,dI (list.length:Int)),(10,dI i0)],[(5,.arr .sh aa v0)]⟩
abbrev LP198_0 (row:LV) (list:LI) (m:Nat) (st_:St) (K:KX):Prop:=True/\cN (t:=aD) (s198_0 row list) list (F.kW row list) (fun v0:LV=>True) (bA (fun v0:LV=>True->K (.exit 0) (⟨[(5,.own 5 none)],[(5,.arr .sh aa v0)]⟩:St)) (fun _=>False)) m st_
def L198 (row:LV) (list:LI):bC:=lp1 0 (LP198_0 row list)
theorem vc198 (row:LV) (list:LI) (K:KA):vcT C198 (L198 row list) ann198 f198 [.data TVS row,.data (Ty.sl aD) list] [] (.dat TVS) K =
 (∃m_,True/\cN (t:=aD) (s198_0 row list) list (F.kW row list) (fun v0:LV=>True) (bA (fun v0:LV=>True->(Sm TVS v0)/\(LD v0 fun r1=>K (.data TVS (aC r1 (some (Z0,(r1.length:Int))))) [])) (fun _=>False)) m_ (s198_0 row list Z0 [])):=by kernel_rfl
theorem lvc198_0 (row:LV) (list:LI)  (i0:Int) (v0:LV) (m:Nat) (K:KX):lvT C198 (L198 row list) ann198 f198 0 0 (s198_0 row list i0 v0) m K =
 (cond (decide (i0<(list.length:Int))) ((0<=i0)/\(i0<(list.length:Int))/\(0<=(nI list i0))/\((nI list i0)<(row.length:Int))/\((v0.length+[(nV row (nI list i0))].length) * 32<=lim)/\(nxT (LP198_0 row list) m K (s198_0 row list (wrap64 (i0+Z1)) (v0++[(nV row (nI list i0))])))) (K (.exit 0) (⟨[(5,.own 5 none)],[(5,.arr .sh aa v0)]⟩:St))):=by kernel_rfl
theorem con198_ok:aV P 198 c198:=aY C198 func198 (kC con134_ok kN) fun args hp K h0=>by
 obtain⟨row,list,rfl,rfl,h_row,h_list,p0,hK⟩:=g2e h0
 have h:ok (F.tJ row list) (fun r=>K (.data TVS r) []):=aB (F.AF row list h_row h_list p0) (hK _ rfl)
 refine⟨rfl,ann198,(L198 row list),(.dat TVS),(br (i0:=0) (by kernel_rfl) ?_),?_⟩
 ·rintro _ _ K ⟨hc0,i0,v0,rfl,hl0,rfl,hv0,h⟩
  exact cast (lvc198_0 _ _ _ _ _ _).symm (cj (t:=aD) hl0 h (fun ht0 h=>⟨hl0,⟨ht0,(oG h fun _ h=>(oG h fun _ h=>(oG h fun _ h=>(bF (t:=aD) (fun _ hm=>⟨hc0,hm⟩) _ rfl hl0 ht0 (bE h_list) trivial h))))⟩⟩) fun h=>(h trivial))
 ·rw[vc198]
  exact(bN (t:=aD) (fun m hm=>⟨trivial,hm⟩) _ rfl trivial (aX h (fun v0 h hv0=>(oG h fun _ h=>(oL h fun _ _ h=>h))) (fun _ h=>h.elim)))
def c202:Con:=⟨[.dat TVS,.any,.any],fun args hp K=>g3 (pD TVS) (pR (Ty.sl aD)) (pR TVS) (fun r list key=>(Sm TVS r)/\(Sm (Ty.sl aD) list)/\(Sm TVS key)/\(M.fm r list)/\K (dB (decide (M.taken r list=key))) []) args hp,.plain,false⟩
abbrev C202:Ctx:=cx [(158,c158),(198,c198)] 10 [] 0 false
def ann202:=an [[kp 7],[kp 16]] []
theorem vc202 (r:LV) (list:LI) (key:LV) (K:KA):vcT C202 aA ann202 f202 [.data TVS r,.ref (.data (Ty.sl aD) list),.ref (.data TVS key)] [] (.dat Ty.bool) K =
 ((Sm TVS r)/\(Sm (Ty.sl aD) list)/\(M.fm r list)/\(LD (M.taken r list) fun r1=>(Sm TVS r1)/\(Sm TVS key)/\K (dB (decide (r1=key))) [])):=by kernel_rfl
theorem con202_ok:aV P 202 c202:=aY C202 func202 (kC con158_ok (kC con198_ok kN)) fun args hp K h0=>by
 obtain⟨r,list,key,rfl,rfl,h_r,h_list,h_key,p0,hK⟩:=g3e h0
 have h:ok (F.lA r list key) (fun r=>K (dB r) []):=aB (F.pG r list key h_r h_list h_key p0) hK
 refine⟨rfl,ann202,aA,(.dat Ty.bool),(aI (by kernel_rfl)),?_⟩
 ·rw[vc202]
  exact⟨h_r,⟨h_list,⟨p0,(oL h fun _ er1 h=>⟨(gQ er1 (M.gv h_r h_list)),⟨h_key,h⟩⟩)⟩⟩⟩
def c190:Con:=⟨[.lent TVS,.any],fun args hp K=>(args2 (fun a0 a1=>gw TVS a0 fun xs=>gO 191 a1 (nX (fun b1_0=>lB TVS b1_0 fun k0=>(Sm (Ty.sl TVS) xs)/\(Sm TVS k0)/\K (dI (M.idx (t:=TVS) (fun e=>decide (e=k0)) xs)) []))) args hp)\/(args2 (fun a0 a1=>gw TVS a0 fun xs=>gO 139 a1 (nX (fun b1_0=>lB TCS b1_0 fun k0=>(Sm (Ty.sl TVS) xs)/\(Sm TCS k0)/\K (dI (M.idx (t:=TVS) (fun e=>!M.bU k0 e) xs)) []))) args hp)\/(args2 (fun a0 a1=>gw TVS a0 fun xs=>gO 202 a1 (FU (fun b1_0 b1_1=>lB (Ty.sl aD) b1_0 fun k0=>lB TVS b1_1 fun k1=>(Sm (Ty.sl TVS) xs)/\(Sm (Ty.sl aD) k0)/\(Sm TVS k1)/\(∀e∈xs,M.fm e k0)/\K (dI (M.idx (t:=TVS) (fun e=>decide (M.taken e k0=k1)) xs)) []))) args hp),.plain,false⟩
abbrev C190:Ctx:=cx [(139,c139),(191,c191),(202,c202)] 19 [] 0 false
def ann190_v0:=an [[kp 3],[kp 387],[kp 899],[kp 419],[kp 65955],[kp 16],[kp 387],[kp 16]] [[kp 0]]
abbrev s190_0_v0 (xs:(List LV)) (k0:LV) (i0:Int) (v0:Unit):St:=⟨[(0,.brw TVS xs),(1,.fn 191 [.ref (.data TVS k0)]),(7,dI (xs.length:Int)),(8,dI i0)],[]⟩
abbrev LP190_0_v0 (xs:(List LV)) (k0:LV) (m:Nat) (st_:St) (K:KX):Prop:=True/\cu (s190_0_v0 xs k0) Z0 (xs.length:Int) (F.dJ xs k0) (fun v0:Unit=>True) (bA (fun v0:Unit=>True->K (.exit 0) (⟨[],[]⟩:St)) (fun q0:Int=>K .ret (⟨[(4,dI q0)],[]⟩:St))) m st_
def L190_v0 (xs:(List LV)) (k0:LV):bC:=lp1 0 (LP190_0_v0 xs k0)
theorem vc190_v0 (xs:(List LV)) (k0:LV) (K:KA):vcT C190 (L190_v0 xs k0) ann190_v0 f190 [.brw TVS xs,.fn 191 [.ref (.data TVS k0)]] [] (.dat aD) K =
 (∃m_,True/\cu (s190_0_v0 xs k0) Z0 (xs.length:Int) (F.dJ xs k0) (fun v0:Unit=>True) (bA (fun v0:Unit=>True->K (dI (-1:Int)) []) (fun q0:Int=>K (dI q0) [])) m_ (s190_0_v0 xs k0 Z0 ())):=by kernel_rfl
theorem lvc190_0_v0 (xs:(List LV)) (k0:LV)  (i0:Int) (v0:Unit) (m:Nat) (K:KX):lvT C190 (L190_v0 xs k0) ann190_v0 f190 0 0 (s190_0_v0 xs k0 i0 v0) m K =
 (cond (decide (i0<(xs.length:Int))) ((0<=i0)/\(i0<(xs.length:Int))/\(Sm TVS (nth (t:=TVS) xs i0))/\(Sm TVS k0)/\cond (decide ((nth (t:=TVS) xs i0)=k0)) (K .ret (⟨[(4,dI i0)],[]⟩:St)) (nxT (LP190_0_v0 xs k0) m K (s190_0_v0 xs k0 (wrap64 (i0+Z1)) ()))) (K (.exit 0) (⟨[],[]⟩:St))):=by kernel_rfl
def ann190_v1:=an [[kp 3],[kp 387],[kp 899],[kp 419],[kp 65955],[kp 16],[kp 387],[kp 16]] [[kp 0]]
abbrev s190_0_v1 (xs:(List LV)) (k0:LC) (i0:Int) (v0:Unit):St:=⟨[(0,.brw TVS xs),(1,.fn 139 [.ref (.data TCS k0)]),(7,dI (xs.length:Int)),(8,dI i0)],[]⟩
abbrev LP190_0_v1 (xs:(List LV)) (k0:LC) (m:Nat) (st_:St) (K:KX):Prop:=True/\cu (s190_0_v1 xs k0) Z0 (xs.length:Int) (F.dw xs k0) (fun v0:Unit=>True) (bA (fun v0:Unit=>True->K (.exit 0) (⟨[],[]⟩:St)) (fun q0:Int=>K .ret (⟨[(4,dI q0)],[]⟩:St))) m st_
def L190_v1 (xs:(List LV)) (k0:LC):bC:=lp1 0 (LP190_0_v1 xs k0)
theorem vc190_v1 (xs:(List LV)) (k0:LC) (K:KA):vcT C190 (L190_v1 xs k0) ann190_v1 f190 [.brw TVS xs,.fn 139 [.ref (.data TCS k0)]] [] (.dat aD) K =
 (∃m_,True/\cu (s190_0_v1 xs k0) Z0 (xs.length:Int) (F.dw xs k0) (fun v0:Unit=>True) (bA (fun v0:Unit=>True->K (dI (-1:Int)) []) (fun q0:Int=>K (dI q0) [])) m_ (s190_0_v1 xs k0 Z0 ())):=by kernel_rfl
theorem lvc190_0_v1 (xs:(List LV)) (k0:LC)  (i0:Int) (v0:Unit) (m:Nat) (K:KX):lvT C190 (L190_v1 xs k0) ann190_v1 f190 0 0 (s190_0_v1 xs k0 i0 v0) m K =
 (cond (decide (i0<(xs.length:Int))) ((0<=i0)/\(i0<(xs.length:Int))/\(Sm TVS (nth (t:=TVS) xs i0))/\(Sm TCS k0)/\cond (!M.bU k0 (nth (t:=TVS) xs i0)) (K .ret (⟨[(4,dI i0)],[]⟩:St)) (nxT (LP190_0_v1 xs k0) m K (s190_0_v1 xs k0 (wrap64 (i0+Z1)) ()))) (K (.exit 0) (⟨[],[]⟩:St))):=by kernel_rfl
def ann190_v2:=an [[kp 3],[kp 387],[kp 899],[kp 419],[kp 65955],[kp 16],[kp 387],[kp 16]] [[kp 0]]
abbrev s190_0_v2 (xs:(List LV)) (k0:LI) (k1:LV) (i0:Int) (v0:Unit):St:=⟨[(0,.brw TVS xs),(1,.fn 202 [.ref (.data (Ty.sl aD) k0),.ref (.data TVS k1)]),(7,dI (xs.length:Int)),(8,dI i0)],[]⟩
abbrev LP190_0_v2 (xs:(List LV)) (k0:LI) (k1:LV) (m:Nat) (st_:St) (K:KX):Prop:=True/\cu (s190_0_v2 xs k0 k1) Z0 (xs.length:Int) (F.cA xs k0 k1) (fun v0:Unit=>True) (bA (fun v0:Unit=>True->K (.exit 0) (⟨[],[]⟩:St)) (fun q0:Int=>K .ret (⟨[(4,dI q0)],[]⟩:St))) m st_
def L190_v2 (xs:(List LV)) (k0:LI) (k1:LV):bC:=lp1 0 (LP190_0_v2 xs k0 k1)
theorem vc190_v2 (xs:(List LV)) (k0:LI) (k1:LV) (K:KA):vcT C190 (L190_v2 xs k0 k1) ann190_v2 f190 [.brw TVS xs,.fn 202 [.ref (.data (Ty.sl aD) k0),.ref (.data TVS k1)]] [] (.dat aD) K =
 (∃m_,True/\cu (s190_0_v2 xs k0 k1) Z0 (xs.length:Int) (F.cA xs k0 k1) (fun v0:Unit=>True) (bA (fun v0:Unit=>True->K (dI (-1:Int)) []) (fun q0:Int=>K (dI q0) [])) m_ (s190_0_v2 xs k0 k1 Z0 ())):=by kernel_rfl
theorem lvc190_0_v2 (xs:(List LV)) (k0:LI) (k1:LV)  (i0:Int) (v0:Unit) (m:Nat) (K:KX):lvT C190 (L190_v2 xs k0 k1) ann190_v2 f190 0 0 (s190_0_v2 xs k0 k1 i0 v0) m K =
 (cond (decide (i0<(xs.length:Int))) ((0<=i0)/\(i0<(xs.length:Int))/\(Sm TVS (nth (t:=TVS) xs i0))/\(Sm (Ty.sl aD) k0)/\(Sm TVS k1)/\(M.fm (nth (t:=TVS) xs i0) k0)/\cond (decide (M.taken (nth (t:=TVS) xs i0) k0=k1)) (K .ret (⟨[(4,dI i0)],[]⟩:St)) (nxT (LP190_0_v2 xs k0 k1) m K (s190_0_v2 xs k0 k1 (wrap64 (i0+Z1)) ()))) (K (.exit 0) (⟨[],[]⟩:St))):=by kernel_rfl
theorem con190_ok:aV P 190 c190:=aY C190 func190 (kC con139_ok (kC con191_ok (kC con202_ok kN))) fun args hp K h0=>by
 rcases h0 with h0 | h0 | h0
 ·obtain⟨a0,a1,rfl,rfl,h1⟩:=bB h0
  obtain⟨xs,rfl,h2⟩:=bV h1
  obtain⟨cs1,rfl,h3⟩:=bZ h2
  obtain⟨b1_0,rfl,h4⟩:=eF h3
  obtain⟨k0,rfl,h5⟩:=de h4
  obtain⟨h_xs,h_k0,hK⟩:=h5
  have h:ok (F.jT xs k0) (fun r=>K (dI r) []):=aB (F.nD xs k0 h_xs h_k0) hK
  refine⟨rfl,ann190_v0,(L190_v0 xs k0),(.dat aD),(br (i0:=0) (by kernel_rfl) ?_),?_⟩
  ·rintro _ _ K ⟨hc0,i0,v0,rfl,hl0,rfl,hv0,h⟩
   exact cast (lvc190_0_v0 _ _ _ _ _ _).symm (bJ h (fun ht0 h=>⟨hl0,⟨ht0,⟨(aH h_xs i0),⟨h_k0,(oC h (fun _ h=>h) fun _ h=>(bu (fun _ hm=>⟨hc0,hm⟩) _ rfl hl0 jk ht0 (bE h_xs) trivial h))⟩⟩⟩⟩) fun h=>(h trivial))
  ·rw[vc190_v0]
   exact(bp (fun m hm=>⟨trivial,hm⟩) Z0 _ rfl (Int.natCast_nonneg 0) trivial (aX h (fun v0 h hv0=>h) (fun q0 h=>h)))
 ·obtain⟨a0,a1,rfl,rfl,h1⟩:=bB h0
  obtain⟨xs,rfl,h2⟩:=bV h1
  obtain⟨cs1,rfl,h3⟩:=bZ h2
  obtain⟨b1_0,rfl,h4⟩:=eF h3
  obtain⟨k0,rfl,h5⟩:=de h4
  obtain⟨h_xs,h_k0,hK⟩:=h5
  have h:ok (F.jr xs k0) (fun r=>K (dI r) []):=aB (F.ng xs k0 h_xs h_k0) hK
  refine⟨rfl,ann190_v1,(L190_v1 xs k0),(.dat aD),(br (i0:=0) (by kernel_rfl) ?_),?_⟩
  ·rintro _ _ K ⟨hc0,i0,v0,rfl,hl0,rfl,hv0,h⟩
   exact cast (lvc190_0_v1 _ _ _ _ _ _).symm (bJ h (fun ht0 h=>⟨hl0,⟨ht0,⟨(aH h_xs i0),⟨h_k0,(oC h (fun _ h=>h) fun _ h=>(bu (fun _ hm=>⟨hc0,hm⟩) _ rfl hl0 jk ht0 (bE h_xs) trivial h))⟩⟩⟩⟩) fun h=>(h trivial))
  ·rw[vc190_v1]
   exact(bp (fun m hm=>⟨trivial,hm⟩) Z0 _ rfl (Int.natCast_nonneg 0) trivial (aX h (fun v0 h hv0=>h) (fun q0 h=>h)))
 ·obtain⟨a0,a1,rfl,rfl,h1⟩:=bB h0
  obtain⟨xs,rfl,h2⟩:=bV h1
  obtain⟨cs1,rfl,h3⟩:=bZ h2
  obtain⟨b1_0,b1_1,rfl,h4⟩:=zo h3
  obtain⟨k0,rfl,h5⟩:=de h4
  obtain⟨k1,rfl,h6⟩:=de h5
  obtain⟨h_xs,h_k0,h_k1,p0,hK⟩:=h6
  have h:ok (F.fL xs k0 k1) (fun r=>K (dI r) []):=aB (F.jA xs k0 k1 h_xs h_k0 h_k1 p0) hK
  refine⟨rfl,ann190_v2,(L190_v2 xs k0 k1),(.dat aD),(br (i0:=0) (by kernel_rfl) ?_),?_⟩
  ·rintro _ _ K ⟨hc0,i0,v0,rfl,hl0,rfl,hv0,h⟩
   exact cast (lvc190_0_v2 _ _ _ _ _ _ _).symm (bJ h (fun ht0 h=>⟨hl0,⟨ht0,⟨(aH h_xs i0),⟨h_k0,⟨h_k1,(oG h fun _ h=>(oC h (fun _ h=>h) fun _ h=>(bu (fun _ hm=>⟨hc0,hm⟩) _ rfl hl0 jk ht0 (bE h_xs) trivial h)))⟩⟩⟩⟩⟩) fun h=>(h trivial))
  ·rw[vc190_v2]
   exact(bp (fun m hm=>⟨trivial,hm⟩) Z0 _ rfl (Int.natCast_nonneg 0) trivial (aX h (fun v0 h hv0=>h) (fun q0 h=>h)))
def c138:Con:=⟨[.lent TVS,.any],fun args hp K=>(args2 (fun a0 a1=>gw TVS a0 fun xs=>gO 139 a1 (nX (fun b1_0=>lB TCS b1_0 fun k0=>(Sm (Ty.sl TVS) xs)/\(Sm TCS k0)/\K (dB (List.any xs (fun e=>!M.bU k0 e))) []))) args hp)\/(args2 (fun a0 a1=>gw TVS a0 fun xs=>gO 202 a1 (FU (fun b1_0 b1_1=>lB (Ty.sl aD) b1_0 fun k0=>lB TVS b1_1 fun k1=>(Sm (Ty.sl TVS) xs)/\(Sm (Ty.sl aD) k0)/\(Sm TVS k1)/\(∀e∈xs,M.fm e k0)/\K (dB (List.any xs (fun e=>decide (M.taken e k0=k1)))) []))) args hp),.plain,false⟩
abbrev C138:Ctx:=cx [(139,c139),(190,c190),(202,c202)] 9 [] 0 false
def ann138_v0:=an [[kp 3],[kp 16]] []
theorem vc138_v0 (xs:(List LV)) (k0:LC) (K:KA):vcT C138 aA ann138_v0 f138 [.brw TVS xs,.fn 139 [.ref (.data TCS k0)]] [] (.dat Ty.bool) K =
 (False\/((Sm (Ty.sl TVS) xs)/\(Sm TCS k0)/\K (dB (decide (Z0<=(M.idx (t:=TVS) (fun e=>!M.bU k0 e) xs)))) [])\/False):=by kernel_rfl
def ann138_v1:=an [[kp 3],[kp 16]] []
theorem vc138_v1 (xs:(List LV)) (k0:LI) (k1:LV) (K:KA):vcT C138 aA ann138_v1 f138 [.brw TVS xs,.fn 202 [.ref (.data (Ty.sl aD) k0),.ref (.data TVS k1)]] [] (.dat Ty.bool) K =
 (False\/False\/((Sm (Ty.sl TVS) xs)/\(Sm (Ty.sl aD) k0)/\(Sm TVS k1)/\(∀e∈xs,M.fm e k0)/\K (dB (decide (Z0<=(M.idx (t:=TVS) (fun e=>decide (M.taken e k0=k1)) xs)))) [])):=by kernel_rfl
theorem con138_ok:aV P 138 c138:=aY C138 func138 (kC con139_ok (kC con190_ok (kC con202_ok kN))) fun args hp K h0=>by
 rcases h0 with h0 | h0
 ·obtain⟨a0,a1,rfl,rfl,h1⟩:=bB h0
  obtain⟨xs,rfl,h2⟩:=bV h1
  obtain⟨cs1,rfl,h3⟩:=bZ h2
  obtain⟨b1_0,rfl,h4⟩:=eF h3
  obtain⟨k0,rfl,h5⟩:=de h4
  obtain⟨h_xs,h_k0,hK⟩:=h5
  have h:ok (F.eU xs k0) (fun r=>K (dB r) []):=aB (F.lq xs k0 h_xs h_k0) hK
  refine⟨rfl,ann138_v0,aA,(.dat Ty.bool),(aI (by kernel_rfl)),?_⟩
  ·rw[vc138_v0]
   exact(Or.inr (Or.inl (⟨h_xs,⟨h_k0,h⟩⟩)))
 ·obtain⟨a0,a1,rfl,rfl,h1⟩:=bB h0
  obtain⟨xs,rfl,h2⟩:=bV h1
  obtain⟨cs1,rfl,h3⟩:=bZ h2
  obtain⟨b1_0,b1_1,rfl,h4⟩:=zo h3
  obtain⟨k0,rfl,h5⟩:=de h4
  obtain⟨k1,rfl,h6⟩:=de h5
  obtain⟨h_xs,h_k0,h_k1,p0,hK⟩:=h6
  have h:ok (F.dn xs k0 k1) (fun r=>K (dB r) []):=aB (F.iJ xs k0 k1 h_xs h_k0 h_k1 p0) hK
  refine⟨rfl,ann138_v1,aA,(.dat Ty.bool),(aI (by kernel_rfl)),?_⟩
  ·rw[vc138_v1]
   exact(Or.inr (Or.inr (⟨h_xs,⟨h_k0,⟨h_k1,⟨p0,h⟩⟩⟩⟩)))
def c76:Con:=⟨[.dat TCS,.dat (Ty.sl TVS)],fun args hp K=>g2 (pD TCS) (pD (Ty.sl TVS)) (fun columns rows=>(Sm TCS columns)/\(Sm (Ty.sl TVS) rows)/\K (dB (M.gF columns rows)) []) args hp,.plain,false⟩
abbrev C76:Ctx:=cx [(75,c75),(138,c138),(139,c139)] 13 [] 0 false
def ann76:=an [[.fixBox 2,kp 6],[kp 16]] []
theorem vc76 (columns:LC) (rows:(List LV)) (K:KA):vcT C76 aA ann76 f76 [.data TCS columns,.data (Ty.sl TVS) rows] [] (.dat Ty.bool) K =
 ((Sm TCS columns)/\cond ((M.bM columns)==true) (((Sm (Ty.sl TVS) rows)/\(Sm TCS columns)/\K (dB (!(List.any rows (fun e=>!M.bU columns e)))) [])\/False) (K (dB false) [])):=by kernel_rfl
theorem con76_ok:aV P 76 c76:=aY C76 func76 (kC con75_ok (kC con138_ok (kC con139_ok kN))) fun args hp K h0=>by
 obtain⟨columns,rows,rfl,rfl,h_columns,h_rows,hK⟩:=g2e h0
 have h:ok (F.sg columns rows) (fun r=>K (dB r) []):=aB (F.zR columns rows h_columns h_rows) hK
 refine⟨rfl,ann76,aA,(.dat Ty.bool),(aI (by kernel_rfl)),?_⟩
 ·rw[vc76]
  exact⟨h_columns,(oC h (fun _ h=>(Or.inl (⟨h_rows,⟨h_columns,h⟩⟩))) fun _ h=>h)⟩
def c74:Con:=⟨[.dat ag],fun args hp K=>g1 (pD ag) (fun t=>(Sm ag t)/\K (dB (!M.dm t)) []) args hp,.plain,false⟩
abbrev C74:Ctx:=cx [(75,c75),(76,c76)] 21 [] 0 false
def ann74:=an [[.fixRow 1 ag,kp 2],[kp 4]] []
theorem vc74 (t:ag.D) (K:KA):vcT C74 aA ann74 f74 [.data ag t] [] (.dat Ty.bool) K =
 ((Sm TCS t.1)/\cond ((!(M.bM t.1))==false) (cond ((decide (Z6<(t.2.1.length:Int)))==false) ((Sm TCS t.1)/\(Sm (Ty.sl TVS) t.2.1)/\K (dB (!(M.gF t.1 t.2.1))) []) (K (dB true) [])) (K (dB true) [])):=by kernel_rfl
theorem con74_ok:aV P 74 c74:=aY C74 func74 (kC con75_ok (kC con76_ok kN)) fun args hp K h0=>by
 obtain⟨t,rfl,rfl,h_t,hK⟩:=g1e h0
 have h:ok (F.lH t) (fun r=>K (dB r) []):=aB (F.tE t h_t) hK
 refine⟨rfl,ann74,aA,(.dat Ty.bool),(aI (by kernel_rfl)),?_⟩
 ·rw[vc74]
  exact⟨h_t.1,(oC h (fun _ h=>(oC h (fun _ h=>⟨h_t.1,⟨h_t.2.1,h⟩⟩) fun _ h=>h)) fun _ h=>h)⟩
def c135:Con:=⟨[.lent ag,.any],fun args hp K=>args2 (fun a0 a1=>gw ag a0 fun xs=>gO 74 a1 (tn ((Sm TTb xs)/\K (dI (M.idx (t:=ag) (fun e=>!M.dm e) xs)) []))) args hp,.plain,false⟩
abbrev C135:Ctx:=cx [(74,c74)] 19 [] 0 false
def ann135:=an [[kp 3],[kp 387],[kp 899],[kp 419],[kp 65955],[kp 16],[kp 387],[kp 16]] [[kp 0]]
abbrev s135_0 (xs:LTb) (i0:Int) (v0:Unit):St:=⟨[(0,.brw ag xs),(1,.fn 74 []),(7,dI (xs.length:Int)),(8,dI i0)],[]⟩
abbrev LP135_0 (xs:LTb) (m:Nat) (st_:St) (K:KX):Prop:=True/\cu (s135_0 xs) Z0 (xs.length:Int) (F.cY xs) (fun v0:Unit=>True) (bA (fun v0:Unit=>True->K (.exit 0) (⟨[],[]⟩:St)) (fun q0:Int=>K .ret (⟨[(4,dI q0)],[]⟩:St))) m st_
def L135 (xs:LTb):bC:=lp1 0 (LP135_0 xs)
theorem vc135 (xs:LTb) (K:KA):vcT C135 (L135 xs) ann135 f135 [.brw ag xs,.fn 74 []] [] (.dat aD) K =
 (∃m_,True/\cu (s135_0 xs) Z0 (xs.length:Int) (F.cY xs) (fun v0:Unit=>True) (bA (fun v0:Unit=>True->K (dI (-1:Int)) []) (fun q0:Int=>K (dI q0) [])) m_ (s135_0 xs Z0 ())):=by kernel_rfl
theorem lvc135_0 (xs:LTb)  (i0:Int) (v0:Unit) (m:Nat) (K:KX):lvT C135 (L135 xs) ann135 f135 0 0 (s135_0 xs i0 v0) m K =
 (cond (decide (i0<(xs.length:Int))) ((0<=i0)/\(i0<(xs.length:Int))/\(Sm ag (nT xs i0))/\cond (!M.dm (nT xs i0)) (K .ret (⟨[(4,dI i0)],[]⟩:St)) (nxT (LP135_0 xs) m K (s135_0 xs (wrap64 (i0+Z1)) ()))) (K (.exit 0) (⟨[],[]⟩:St))):=by kernel_rfl
theorem con135_ok:aV P 135 c135:=aY C135 func135 (kC con74_ok kN) fun args hp K h0=>by
 obtain⟨a0,a1,rfl,rfl,h1⟩:=bB h0
 obtain⟨xs,rfl,h2⟩:=bV h1
 obtain⟨cs1,rfl,h3⟩:=bZ h2
 obtain⟨rfl,h4⟩:=gV h3
 obtain⟨h_xs,hK⟩:=h4
 have h:ok (F.iF xs) (fun r=>K (dI r) []):=aB (F.lU xs h_xs) hK
 refine⟨rfl,ann135,(L135 xs),(.dat aD),(br (i0:=0) (by kernel_rfl) ?_),?_⟩
 ·rintro _ _ K ⟨hc0,i0,v0,rfl,hl0,rfl,hv0,h⟩
  exact cast (lvc135_0 _ _ _ _ _).symm (bJ h (fun ht0 h=>⟨hl0,⟨ht0,⟨(aH h_xs i0),(oC h (fun _ h=>h) fun _ h=>(bu (fun _ hm=>⟨hc0,hm⟩) _ rfl hl0 jk ht0 (bE h_xs) trivial h))⟩⟩⟩) fun h=>(h trivial))
 ·rw[vc135]
  exact(bp (fun m hm=>⟨trivial,hm⟩) Z0 _ rfl (Int.natCast_nonneg 0) trivial (aX h (fun v0 h hv0=>h) (fun q0 h=>h)))
def c73:Con:=⟨[.lent ag,.any],fun args hp K=>args2 (fun a0 a1=>gw ag a0 fun xs=>gO 74 a1 (tn ((Sm TTb xs)/\K (dB (List.any xs (fun e=>!M.dm e))) []))) args hp,.plain,false⟩
abbrev C73:Ctx:=cx [(74,c74),(135,c135)] 9 [] 0 false
def ann73:=an [[kp 3],[kp 16]] []
theorem vc73 (xs:LTb) (K:KA):vcT C73 aA ann73 f73 [.brw ag xs,.fn 74 []] [] (.dat Ty.bool) K =
 ((Sm TTb xs)/\K (dB (decide (Z0<=(M.idx (t:=ag) (fun e=>!M.dm e) xs)))) []):=by kernel_rfl
theorem con73_ok:aV P 73 c73:=aY C73 func73 (kC con74_ok (kC con135_ok kN)) fun args hp K h0=>by
 obtain⟨a0,a1,rfl,rfl,h1⟩:=bB h0
 obtain⟨xs,rfl,h2⟩:=bV h1
 obtain⟨cs1,rfl,h3⟩:=bZ h2
 obtain⟨rfl,h4⟩:=gV h3
 obtain⟨h_xs,hK⟩:=h4
 have h:ok (F.eG xs) (fun r=>K (dB r) []):=aB (F.jZ xs h_xs) hK
 refine⟨rfl,ann73,aA,(.dat Ty.bool),(aI (by kernel_rfl)),?_⟩
 ·rw[vc73]
  exact⟨h_xs,h⟩
def c28:Con:=⟨[.dat TTb],fun args hp K=>g1 (pD TTb) (fun tables=>(Sm TTb tables)/\K (dB (M.aF tables)) []) args hp,.plain,false⟩
abbrev C28:Ctx:=cx [(73,c73)] 11 [] 0 false
def ann28:=an [[kp 1],[kp 4]] []
theorem vc28 (tables:LTb) (K:KA):vcT C28 aA ann28 f28 [.data TTb tables] [] (.dat Ty.bool) K =
 (cond ((decide ((tables.length:Int)<=Z3))==true) ((Sm TTb tables)/\K (dB (!(List.any tables (fun e=>!M.dm e)))) []) (K (dB false) [])):=by kernel_rfl
theorem con28_ok:aV P 28 c28:=aY C28 func28 (kC con73_ok kN) fun args hp K h0=>by
 obtain⟨tables,rfl,rfl,h_tables,hK⟩:=g1e h0
 have h:ok (F.oD tables) (fun r=>K (dB r) []):=aB (F.wT tables h_tables) hK
 refine⟨rfl,ann28,aA,(.dat Ty.bool),(aI (by kernel_rfl)),?_⟩
 ·rw[vc28]
  exact(oC h (fun _ h=>⟨h_tables,h⟩) fun _ h=>h)
def c133:Con:=⟨[.dat (Ty.sl TVS),.dat TVS],fun args hp K=>g2 (pD (Ty.sl TVS)) (pD TVS) (fun rows row=>(Sm (Ty.sl TVS) rows)/\(Sm TVS row)/\K (dI (M.rowAt rows row)) []) args hp,.bor,false⟩
abbrev C133:Ctx:=cx [(190,c190),(191,c191)] 8 [] 0 false
def ann133:=an [[.fixBox 3,kp 9],[kp 16]] []
theorem vc133 (rows:(List LV)) (row:LV) (K:KA):vcT C133 aA ann133 f133 [.data (Ty.sl TVS) rows,.data TVS row] [] (.dat aD) K =
 (((Sm (Ty.sl TVS) rows)/\(Sm TVS row)/\K (dI (M.idx (t:=TVS) (fun e=>decide (e=row)) rows)) [])\/False\/False):=by kernel_rfl
theorem con133_ok:aV P 133 c133:=aY C133 func133 (kC con190_ok (kC con191_ok kN)) fun args hp K h0=>by
 obtain⟨rows,row,rfl,rfl,h_rows,h_row,hK⟩:=g2e h0
 have h:ok (F.An rows row) (fun r=>K (dI r) []):=aB (F.AR rows row h_rows h_row) hK
 refine⟨rfl,ann133,aA,(.dat aD),(aI (by kernel_rfl)),?_⟩
 ·rw[vc133]
  exact(Or.inl (⟨h_rows,⟨h_row,h⟩⟩))
def c71:Con:=⟨[.dat TTb,.dat ay],fun args hp K=>g2 (pD TTb) (pD ay) (fun tables c=>(Sm TTb tables)/\(Sm ay c)/\K (dB (M.aR tables c)) []) args hp,.bor,false⟩
abbrev C71:Ctx:=cx [(28,c28),(100,c100),(132,c132),(133,c133)] 51 [] 0 false
def ann71:=an [[.fixRow 3 ay,kp 9],[kp 131081],[kp 16],[.fixRow 5 ag,kp 40],[kp 16]] []
abbrev S71_0 (tables:LTb) (c:ay.D) (K:KA):Prop:=cond ((!c.2.2.1)==true) ((Sm (Ty.sl TVS) (nT tables c.1).2.1)/\(Sm TVS c.2.1)/\K (dB (decide (Z0<=(M.rowAt (nT tables c.1).2.1 c.2.1)))) []) (K (dB false) [])
theorem vc71 (tables:LTb) (c:ay.D) (K:KA):vcT C71 aA ann71 f71 [.data TTb tables,.data ay c] [] (.dat Ty.bool) K =
 ((Sm TTb tables)/\cond ((!(M.aF tables))==false) (cond (!(M.inR c.1 Z0 (wrap64 ((tables.length:Int)-Z1)))) (K (dB false) []) ((0<=c.1)/\(c.1<(tables.length:Int))/\(Sm TCS (nT tables c.1).1)/\(Sm TVS c.2.1)/\cond ((M.bU (nT tables c.1).1 c.2.1)==true) (cond (c.2.2.1==true) (cond ((decide (((nT tables c.1).2.1.length:Int)<Z6))==false) (S71_0 tables c K) (K (dB true) [])) (S71_0 tables c K)) (K (dB false) []))) (K (dB false) [])):=by kernel_rfl
theorem con71_ok:aV P 71 c71:=aY C71 func71 (kC con28_ok (kC con100_ok (kC con132_ok (kC con133_ok kN)))) fun args hp K h0=>by
 obtain⟨tables,c,rfl,rfl,h_tables,h_c,hK⟩:=g2e h0
 have h:ok (F.oF tables c) (fun r=>K (dB r) []):=aB (F.wR tables c h_tables h_c) hK
 refine⟨rfl,ann71,aA,(.dat Ty.bool),(aI (by kernel_rfl)),?_⟩
 ·rw[vc71]
  exact⟨h_tables,(oC h (fun _ h=>(oC h (fun _ h=>h) fun b_2 h=>⟨(kE (bnf b_2)),⟨(oh (bnf b_2)),⟨(aH h_tables c.1).1,⟨h_c.2.1,(oC h (fun _ h=>(oC h (fun b_4 h=>(oC h (fun _ h=>(gj (uef (unf (bet b_4))) h)) fun _ h=>h)) fun b_4 h=>(fP (uet (unt (bef b_4))) ⟨(aH h_tables c.1).2.1,⟨h_c.2.1,h⟩⟩))) fun _ h=>h)⟩⟩⟩⟩)) fun _ h=>h)⟩
abbrev C156:Ctx:=cx [] 9 [] 400000 true
def T156:Inl:=AB C156 (fun _=>[]) (eY f156) f156.results.toList
theorem inlOk156:AO P 156 T156:=GC C156 func156 kN
def c87:Con:=⟨[.dat (Ty.sl TVS)],fun args hp K=>g1 (pD (Ty.sl TVS)) (fun rows=>(Sm (Ty.sl TVS) rows)/\(LD rows fun r=>K (.clp 0 (r.length:Int)) [(0,.arr .dp TVS r)])) args hp,.bor,false⟩
abbrev C87:Ctx:=cx [(134,c134)] 20 [(156,T156)] 0 true
def ann87:=an [[kp 1],[kp 9],[kp 456],[kp 968],[kp 488],[kp 456],[kp 456],[kp 4]] [[kp 8]]
abbrev s87_0 (rows:(List LV)) (i0:Int) (v0:(List LV)):St:=⟨[(3,.own 3 none),(6,.data (Ty.sl TVS) rows),(7,dI (rows.length:Int)),(8,dI i0)],[(3,.arr .dp TVS v0)]⟩
abbrev LP87_0 (rows:(List LV)) (m:Nat) (st_:St) (K:KX):Prop:=True/\cN (t:=TVS) (s87_0 rows) rows (F.iz rows) (fun v0:(List LV)=>True) (bA (fun v0:(List LV)=>True->K (.exit 0) (⟨[(3,.own 3 none)],[(3,.arr .dp TVS v0)]⟩:St)) (fun _=>False)) m st_
def L87 (rows:(List LV)):bC:=lp1 0 (LP87_0 rows)
theorem vc87 (rows:(List LV)) (K:KA):vcT C87 (L87 rows) ann87 f87 [.data (Ty.sl TVS) rows] [] .raw K =
 (∃m_,True/\cN (t:=TVS) (s87_0 rows) rows (F.iz rows) (fun v0:(List LV)=>True) (bA (fun v0:(List LV)=>True->(0<=Z0)/\(Z0<=(v0.length:Int))/\((v0.length:Int)<=(v0.length:Int))/\((v0.length:Int)=(v0.length:Int))/\(Z0=0)/\K (.clp 0 ((v0.take (v0.length:Int).toNat).length:Int)) [(0,.arr .dp TVS (v0.take (v0.length:Int).toNat))]) (fun _=>False)) m_ (s87_0 rows Z0 [])):=by kernel_rfl
theorem lvc87_0 (rows:(List LV))  (i0:Int) (v0:(List LV)) (m:Nat) (K:KX):lvT C87 (L87 rows) ann87 f87 0 0 (s87_0 rows i0 v0) m K =
 (cond (decide (i0<(rows.length:Int))) ((0<=i0)/\(i0<(rows.length:Int))/\(Sm TVS (nth (t:=TVS) rows i0))/\(LD (nth (t:=TVS) rows i0) fun r1=>((v0.length+[(aC r1 (some (Z0,(r1.length:Int))))].length) * 24<=lim)/\(nxT (LP87_0 rows) m K (s87_0 rows (wrap64 (i0+Z1)) (v0++[(aC r1 (some (Z0,(r1.length:Int))))]))))) (K (.exit 0) (⟨[(3,.own 3 none)],[(3,.arr .dp TVS v0)]⟩:St))):=by kernel_rfl
theorem con87_ok:aV P 87 c87:=aY C87 func87 (kC con134_ok (kI inlOk156 kN)) fun args hp K h0=>by
 obtain⟨rows,rfl,rfl,h_rows,hK⟩:=g1e h0
 have h:ok (F.oR rows) (fun r=>K (.clp 0 (r.length:Int)) [(0,.arr .dp TVS r)]):=aB (F.wk rows h_rows) (hK _ rfl)
 refine⟨rfl,ann87,(L87 rows),.raw,(br (i0:=0) (by kernel_rfl) ?_),?_⟩
 ·rintro _ _ K ⟨hc0,i0,v0,rfl,hl0,rfl,hv0,h⟩
  exact cast (lvc87_0 _ _ _ _ _).symm (cj (t:=TVS) hl0 h (fun ht0 h=>⟨hl0,⟨ht0,⟨(aH h_rows i0),(oL h fun _ _ h=>(oG h fun _ h=>(bF (t:=TVS) (fun _ hm=>⟨hc0,hm⟩) _ rfl hl0 ht0 (bE h_rows) trivial h)))⟩⟩⟩) fun h=>(h trivial))
 ·rw[vc87]
  exact(bN (t:=TVS) (fun m hm=>⟨trivial,hm⟩) _ rfl trivial (aX h (fun v0 h hv0=>⟨(Int.natCast_nonneg 0),⟨(Int.natCast_nonneg _),⟨(Int.le_refl _),⟨rfl,⟨rfl,h⟩⟩⟩⟩⟩) (fun _ h=>h.elim)))
abbrev C221:Ctx:=cx [] 9 [] 400000 true
def T221:Inl:=AB C221 (fun _=>[]) (eY f221) f221.results.toList
theorem inlOk221:AO P 221 T221:=GC C221 func221 kN
def c181:Con:=⟨[.dat TCS],fun args hp K=>g1 (pD TCS) (fun xs=>(Sm TCS xs)/\(LD xs fun r=>K (.clp 0 (r.length:Int)) [(0,.arr .sh ax r)])) args hp,.bor,false⟩
abbrev C181:Ctx:=cx [] 9 [(221,T221)] 0 true
def ann181:=an [[kp 1],[kp 33],[.clip 2,kp 4],[kp 4]] []
theorem vc181 (xs:LC) (K:KA):vcT C181 aA ann181 f181 [.data TCS xs] [] .raw K =
 (cond (decide ((xs.length:Int)=Z0)) (K (.clp 0 (([]:List ax.D).length:Int)) [(0,.arr .sh ax ([]:List ax.D))]) ((xs.length * 16<=lim)/\(0<=Z0)/\(Z0<=(xs.length:Int))/\((xs.length:Int)<=(xs.length:Int))/\((xs.length:Int)=(xs.length:Int))/\(Z0=0)/\K (.clp 0 ((xs.take (xs.length:Int).toNat).length:Int)) [(0,.arr .sh ax (xs.take (xs.length:Int).toNat))])):=by kernel_rfl
theorem con181_ok:aV P 181 c181:=aY C181 func181 (kI inlOk221 kN) fun args hp K h0=>by
 obtain⟨xs,rfl,rfl,h_xs,hK⟩:=g1e h0
 have h:ok (F.tB xs) (fun r=>K (.clp 0 (r.length:Int)) [(0,.arr .sh ax r)]):=aB (F.xj xs h_xs) (hK _ rfl)
 refine⟨rfl,ann181,aA,.raw,(aI (by kernel_rfl)),?_⟩
 ·rw[vc181]
  exact(oC h (fun _ h=>h) fun _ h=>⟨(GR h_xs rfl),⟨(Int.natCast_nonneg 0),⟨(Int.natCast_nonneg _),⟨(Int.le_refl _),⟨rfl,⟨rfl,h⟩⟩⟩⟩⟩⟩)
abbrev C116:Ctx:=cx [(87,c87),(181,c181)] 10 [] 200000 true
def T116:Inl:=AB C116 (fun _=>[]) (eY f116) f116.results.toList
theorem inlOk116:AO P 116 T116:=GC C116 func116 (kC con87_ok (kC con181_ok kN))
abbrev C117:Ctx:=cx [] 9 [] 400000 true
def T117:Inl:=AB C117 (fun _=>[]) (eY f117) f117.results.toList
theorem inlOk117:AO P 117 T117:=GC C117 func117 kN
def c54:Con:=⟨[.dat TTb],fun args hp K=>g1 (pD TTb) (fun tables=>(Sm TTb tables)/\(LD tables fun r=>K (.own 0 none) [(0,.arr .dp ag r)])) args hp,.bor,false⟩
abbrev C54:Ctx:=cx [] 20 [(116,T116),(117,T117)] 0 true
def ann54:=an [[kp 1],[kp 9],[kp 456],[kp 968],[.fixRow 5 ag,kp 488],[kp 456],[kp 456],[kp 4]] [[kp 8]]
abbrev s54_0 (tables:LTb) (i0:Int) (v0:LTb):St:=⟨[(3,.own 3 none),(6,.data TTb tables),(7,dI (tables.length:Int)),(8,dI i0)],[(3,.arr .dp ag v0)]⟩
abbrev LP54_0 (tables:LTb) (m:Nat) (st_:St) (K:KX):Prop:=True/\cN (t:=ag) (s54_0 tables) tables (F.gm tables) (fun v0:LTb=>True) (bA (fun v0:LTb=>True->K (.exit 0) (⟨[(3,.own 3 none)],[(3,.arr .dp ag v0)]⟩:St)) (fun _=>False)) m st_
def L54 (tables:LTb):bC:=lp1 0 (LP54_0 tables)
theorem vc54 (tables:LTb) (K:KA):vcT C54 (L54 tables) ann54 f54 [.data TTb tables] [] .own K =
 (∃m_,True/\cN (t:=ag) (s54_0 tables) tables (F.gm tables) (fun v0:LTb=>True) (bA (fun v0:LTb=>True->(0<=Z0)/\(Z0<=(v0.length:Int))/\((v0.length:Int)<=(v0.length:Int))/\((v0.length:Int)=(v0.length:Int))/\(Z0=0)/\(((v0.take (v0.length:Int).toNat).length:Int)=((v0.take (v0.length:Int).toNat).length:Int))/\K (.own 0 none) [(0,.arr .dp ag (v0.take (v0.length:Int).toNat))]) (fun _=>False)) m_ (s54_0 tables Z0 [])):=by kernel_rfl
theorem lvc54_0 (tables:LTb)  (i0:Int) (v0:LTb) (m:Nat) (K:KX):lvT C54 (L54 tables) ann54 f54 0 0 (s54_0 tables i0 v0) m K =
 (cond (decide (i0<(tables.length:Int))) ((0<=i0)/\(i0<(tables.length:Int))/\(Sm TCS (nT tables i0).1)/\(LD (nT tables i0).1 fun r1=>(Sm (Ty.sl TVS) (nT tables i0).2.1)/\(LD (nT tables i0).2.1 fun r2=>((v0.length+[((aC r1 (some (Z0,(r1.length:Int)))),((aC r2 (some (Z0,(r2.length:Int)))),()))].length) * 48<=lim)/\(nxT (LP54_0 tables) m K (s54_0 tables (wrap64 (i0+Z1)) (v0++[((aC r1 (some (Z0,(r1.length:Int)))),((aC r2 (some (Z0,(r2.length:Int)))),()))])))))) (K (.exit 0) (⟨[(3,.own 3 none)],[(3,.arr .dp ag v0)]⟩:St))):=by kernel_rfl
theorem con54_ok:aV P 54 c54:=aY C54 func54 (kI inlOk116 (kI inlOk117 kN)) fun args hp K h0=>by
 obtain⟨tables,rfl,rfl,h_tables,hK⟩:=g1e h0
 have h:ok (F.lY tables) (fun r=>K (.own 0 none) [(0,.arr .dp ag r)]):=aB (F.tH tables h_tables) (hK _ rfl)
 refine⟨rfl,ann54,(L54 tables),.own,(br (i0:=0) (by kernel_rfl) ?_),?_⟩
 ·rintro _ _ K ⟨hc0,i0,v0,rfl,hl0,rfl,hv0,h⟩
  exact cast (lvc54_0 _ _ _ _ _).symm (cj (t:=ag) hl0 h (fun ht0 h=>⟨hl0,⟨ht0,⟨(aH h_tables i0).1,(oL h fun _ _ h=>⟨(aH h_tables i0).2.1,(oL h fun _ _ h=>(oG h fun _ h=>(bF (t:=ag) (fun _ hm=>⟨hc0,hm⟩) _ rfl hl0 ht0 (bE h_tables) trivial h)))⟩)⟩⟩⟩) fun h=>(h trivial))
 ·rw[vc54]
  exact(bN (t:=ag) (fun m hm=>⟨trivial,hm⟩) _ rfl trivial (aX h (fun v0 h hv0=>⟨(Int.natCast_nonneg 0),⟨(Int.natCast_nonneg _),⟨(Int.le_refl _),⟨rfl,⟨rfl,⟨rfl,h⟩⟩⟩⟩⟩⟩) (fun _ h=>h.elim)))
def T88:Inl:=JF
theorem inlOk88:AO P 88 T88:=⟨Go.Proofs.enters_of func88 (by kernel_rfl) rfl,JO Go.Proofs.ER⟩
def c72:Con:=⟨[.dat TTb,.dat ay],fun args hp K=>g2 (pD TTb) (pD ay) (fun tables c=>(Sm TTb tables)/\(Sm ay c)/\(M.aR tables c)/\(LD (M.aQ tables c) fun r=>K (.own 0 none) [(0,.arr .dp ag r)])) args hp,.bor,false⟩
abbrev C72:Ctx:=cx [(54,c54),(87,c87),(133,c133),(134,c134)] 55 [(88,T88)] 0 true
def ann72:=an [[.fixRow 3 ay,kp 9],[kp 40],[kp 104],[kp 32872],[kp 96],[kp 224],[kp 96],[kp 32],[kp 16]] []
theorem vc72 (tables:LTb) (c:ay.D) (K:KA):vcT C72 aA ann72 f72 [.data TTb tables,.data ay c] [] .raw K =
 ((Sm TTb tables)/\(LD tables fun r1=>(0<=c.1)/\(c.1<(r1.length:Int))/\cond c.2.2.1 ((Sm TVS c.2.1)/\(LD c.2.1 fun r2=>(((nT r1 c.1).2.1.length+[(aC r2 (some (Z0,(r2.length:Int))))].length) * 24<=lim)/\(c.1=c.1)/\(let y1:LTb:=((r1.set c.1.toNat ((nT r1 c.1).1,([],()))).set c.1.toNat ((nT (r1.set c.1.toNat ((nT r1 c.1).1,([],()))) c.1).1,(((nT r1 c.1).2.1++[(aC r2 (some (Z0,(r2.length:Int))))]),())));(Sm (Ty.sl TVS) (nT y1 c.1).2.1)/\(LD (nT y1 c.1).2.1 fun r3=>(let y2:LTb:=(y1.set c.1.toNat ((nT y1 c.1).1,((aC r3 (some (Z0,(r3.length:Int)))),())));K (.own 0 none) [(0,.arr .dp ag y2)]))))) ((Sm (Ty.sl TVS) (nT r1 c.1).2.1)/\(Sm TVS c.2.1)/\(0<=(M.rowAt (nT r1 c.1).2.1 c.2.1))/\((M.rowAt (nT r1 c.1).2.1 c.2.1)<=wrap64 ((M.rowAt (nT r1 c.1).2.1 c.2.1)+Z1))/\(wrap64 ((M.rowAt (nT r1 c.1).2.1 c.2.1)+Z1)<=((nT r1 c.1).2.1.length:Int))/\(c.1=c.1)/\(let y3:LTb:=((r1.set c.1.toNat ((nT r1 c.1).1,([],()))).set c.1.toNat ((nT (r1.set c.1.toNat ((nT r1 c.1).1,([],()))) c.1).1,(((nT r1 c.1).2.1.take (M.rowAt (nT r1 c.1).2.1 c.2.1).toNat++(nT r1 c.1).2.1.drop (wrap64 ((M.rowAt (nT r1 c.1).2.1 c.2.1)+Z1)).toNat),())));(Sm (Ty.sl TVS) (nT y3 c.1).2.1)/\(LD (nT y3 c.1).2.1 fun r3=>(let y2:LTb:=(y3.set c.1.toNat ((nT y3 c.1).1,((aC r3 (some (Z0,(r3.length:Int)))),())));K (.own 0 none) [(0,.arr .dp ag y2)])))))):=by kernel_rfl
theorem con72_ok:aV P 72 c72:=aY C72 func72 (kC con54_ok (kC con87_ok (kC con133_ok (kC con134_ok (kI inlOk88 kN))))) fun args hp K h0=>by
 obtain⟨tables,c,rfl,rfl,h_tables,h_c,p0,hK⟩:=g2e h0
 have h:ok (F.kG tables c) (fun r=>K (.own 0 none) [(0,.arr .dp ag r)]):=aB (F.tc tables c h_tables h_c p0) (hK _ rfl)
 refine⟨rfl,ann72,aA,.raw,(aI (by kernel_rfl)),?_⟩
 ·rw[vc72]
  exact⟨h_tables,(oL h fun _ _ h=>(oG h fun _ h=>(oG h fun _ h=>(oC h (fun _ h=>⟨h_c.2.1,(oL h fun _ _ h=>(oG h fun _ h=>⟨rfl,(have h:=cX h _ rfl;(oG h fun _ h=>(oL h fun _ _ h=>(have h:=cX h _ rfl;h))))⟩))⟩) fun _ h=>(oG h fun _ h=>⟨h_c.2.1,(oG h fun _ h=>(oG h fun _ h=>(oG h fun _ h=>⟨rfl,(have h:=cX h _ rfl;(oG h fun _ h=>(oL h fun _ _ h=>(have h:=cX h _ rfl;h))))⟩)))⟩)))))⟩
def c27:Con:=⟨[.dat TTb,.dat ay],fun args hp K=>g2 (pD TTb) (pD ay) (fun tables c=>(Sm TTb tables)/\(Sm ay c)/\(LD (cond (M.aR tables c) (M.aQ tables c) [],M.aR tables c) fun r=>K (.tup [.own 0 none,dB r.2]) [(0,.arr .dp ag r.1)])) args hp,.bor,false⟩
abbrev C27:Ctx:=cx [(71,c71),(72,c72)] 13 [] 0 true
def ann27:=an [[.fixRow 3 ay,kp 9],[kp 521],[kp 48],[kp 48]] []
theorem vc27 (tables:LTb) (c:ay.D) (K:KA):vcT C27 aA ann27 f27 [.data TTb tables,.data ay c] [] .raw K =
 ((Sm TTb tables)/\(Sm ay c)/\cond (!(M.aR tables c)) (K (.tup [.own 0 none,dB false]) [(0,.arr .dp ag [])]) ((Sm TTb tables)/\(Sm ay c)/\(M.aR tables c)/\(LD (M.aQ tables c) fun r1=>K (.tup [.own 0 none,dB true]) [(0,.arr .dp ag r1)]))):=by kernel_rfl
theorem con27_ok:aV P 27 c27:=aY C27 func27 (kC con71_ok (kC con72_ok kN)) fun args hp K h0=>by
 obtain⟨tables,c,rfl,rfl,h_tables,h_c,hK⟩:=g2e h0
 have h:ok (F.kq tables c) (fun r=>K (.tup [.own 0 none,dB r.2]) [(0,.arr .dp ag r.1)]):=aB (F.tf tables c h_tables h_c) (hK _ rfl)
 refine⟨rfl,ann27,aA,.raw,(aI (by kernel_rfl)),?_⟩
 ·rw[vc27]
  exact⟨h_tables,⟨h_c,(oC h (fun _ h=>h) fun _ h=>⟨h_tables,⟨h_c,(oG h fun _ h=>(oL h fun _ _ h=>h))⟩⟩)⟩⟩
def c165:Con:=⟨[.dat aE],fun args hp K=>g1 (pD aE) (fun p=>(Sm aE p)/\K (dI (M.takes p)) []) args hp,.plain,false⟩
abbrev C165:Ctx:=cx [] 13 [] 0 false
def ann165:=an [[.fixRow 1 aE,kp 2],[kp 16],[kp 48],[kp 48],[kp 48],[kp 48],[kp 4],[kp 1040],[kp 1024],[kp 4],[kp 4]] []
abbrev S165_0 (p:aE.D) (K:KA):Prop:=cond (decide (p.1=(7:Int))) (cond (decide (p.1=(7:Int))) (K (dI Z1) []) (K (dI Z0) [])) (cond (decide (p.1=(8:Int))) (K (dI Z1) []) (K (dI Z0) []))
theorem vc165 (p:aE.D) (K:KA):vcT C165 aA ann165 f165 [.data aE p] [] (.dat aD) K =
 (cond (decide (p.1=Z3)) (cond (decide (p.1=Z3)) (K (dI Z2) []) (S165_0 p K)) (cond (decide (p.1=Z4)) (cond (decide (p.1=Z4)) (K (dI Z2) []) (S165_0 p K)) (cond (decide (p.1=Z5)) (cond (decide (p.1=Z5)) (K (dI Z2) []) (S165_0 p K)) (cond (decide (p.1=Z6)) (K (dI Z2) []) (S165_0 p K))))):=by kernel_rfl
theorem con165_ok:aV P 165 c165:=aY C165 func165 kN fun args hp K h0=>by
 obtain⟨p,rfl,rfl,h_p,hK⟩:=g1e h0
 have h:ok (F.lZ p) (fun r=>K (dI r) []):=aB (F.uo p h_p) hK
 refine⟨rfl,ann165,aA,(.dat aD),(aI (by kernel_rfl)),?_⟩
 ·rw[vc165]
  exact(oC h (fun b_1 h=>(fP b_1 h)) fun _ h=>(oC h (fun b_6 h=>(fP b_6 h)) fun _ h=>(oC h (fun b_8 h=>(fP b_8 h)) fun _ h=>(oC h (fun _ h=>h) fun _ h=>(oC h (fun b_11 h=>(fP b_11 h)) fun _ h=>(oC h (fun _ h=>h) fun _ h=>h))))))
def c170:Con:=⟨[.dat aD],fun args hp K=>g1 (pD aD) (fun truth=>(LD (M.valueOf truth) fun r=>K (.data aa r) [])) args hp,.plain,false⟩
abbrev C170:Ctx:=cx [(132,c132)] 9 [] 0 false
def ann170:=an [[kp 5],[kp 37],[kp 4],[kp 4]] []
theorem vc170 (truth:Int) (K:KA):vcT C170 aA ann170 f170 [dI truth] [] (.dat aa) K =
 (cond (!(M.inR truth Z0 Z1)) (K (.data aa (Z0,(Z0,((⟨#[]⟩:ByteArray),())))) []) (K (.data aa (Z3,(truth,((⟨#[]⟩:ByteArray),())))) [])):=by kernel_rfl
theorem con170_ok:aV P 170 c170:=aY C170 func170 (kC con132_ok kN) fun args hp K h0=>by
 obtain⟨truth,rfl,rfl,hK⟩:=g1e h0
 have h:ok (F.pT truth) (fun r=>K (.data aa r) []):=aB (F.yb truth) (hK _ rfl)
 refine⟨rfl,ann170,aA,(.dat aa),(aI (by kernel_rfl)),?_⟩
 ·rw[vc170]
  exact(oC h (fun _ h=>h) fun _ h=>h)
def c216:Con:=⟨[.dat (Ty.sl aD)],fun args hp K=>g1 (pD (Ty.sl aD)) (fun vals=>(Sm (Ty.sl aD) vals)/\K (dI (M.orI vals)) []) args hp,.plain,false⟩
abbrev C216:Ctx:=cx [] 18 [] 0 false
def ann216:=an [[kp 1],[kp 9],[kp 456],[kp 968],[kp 488],[kp 16872],[kp 4],[kp 456],[kp 4]] [[kp 8]]
abbrev s216_0 (vals:LI) (i0:Int) (v0:Unit):St:=⟨[(3,dI Z0),(6,.data (Ty.sl aD) vals),(7,dI (vals.length:Int)),(8,dI i0)],[]⟩
abbrev LP216_0 (vals:LI) (m:Nat) (st_:St) (K:KX):Prop:=True/\cN (t:=aD) (s216_0 vals) vals (F.iU vals) (fun v0:Unit=>True) (bA (fun v0:Unit=>True->K (.exit 0) (⟨[(3,dI Z0)],[]⟩:St)) (fun q0:Int=>K .ret (⟨[(2,dI q0)],[]⟩:St))) m st_
def L216 (vals:LI):bC:=lp1 0 (LP216_0 vals)
theorem vc216 (vals:LI) (K:KA):vcT C216 (L216 vals) ann216 f216 [.data (Ty.sl aD) vals] [] (.dat aD) K =
 (∃m_,True/\cN (t:=aD) (s216_0 vals) vals (F.iU vals) (fun v0:Unit=>True) (bA (fun v0:Unit=>True->K (dI Z0) []) (fun q0:Int=>K (dI q0) [])) m_ (s216_0 vals Z0 ())):=by kernel_rfl
theorem lvc216_0 (vals:LI)  (i0:Int) (v0:Unit) (m:Nat) (K:KX):lvT C216 (L216 vals) ann216 f216 0 0 (s216_0 vals i0 v0) m K =
 (cond (decide (i0<(vals.length:Int))) ((0<=i0)/\(i0<(vals.length:Int))/\cond (!decide ((nI vals i0)=Z0)) (K .ret (⟨[(2,dI (nI vals i0))],[]⟩:St)) (nxT (LP216_0 vals) m K (s216_0 vals (wrap64 (i0+Z1)) ()))) (K (.exit 0) (⟨[(3,dI Z0)],[]⟩:St))):=by kernel_rfl
theorem con216_ok:aV P 216 c216:=aY C216 func216 kN fun args hp K h0=>by
 obtain⟨vals,rfl,rfl,h_vals,hK⟩:=g1e h0
 have h:ok (F.tM vals) (fun r=>K (dI r) []):=aB (F.Bd vals h_vals) hK
 refine⟨rfl,ann216,(L216 vals),(.dat aD),(br (i0:=0) (by kernel_rfl) ?_),?_⟩
 ·rintro _ _ K ⟨hc0,i0,v0,rfl,hl0,rfl,hv0,h⟩
  exact cast (lvc216_0 _ _ _ _ _).symm (cj (t:=aD) hl0 h (fun ht0 h=>⟨hl0,⟨ht0,(oC h (fun _ h=>h) fun _ h=>(bF (t:=aD) (fun _ hm=>⟨hc0,hm⟩) _ rfl hl0 ht0 (bE h_vals) trivial h))⟩⟩) fun h=>(h trivial))
 ·rw[vc216]
  exact(bN (t:=aD) (fun m hm=>⟨trivial,hm⟩) _ rfl trivial (aX h (fun v0 h hv0=>h) (fun q0 h=>h)))
def c247:Con:=⟨[.dat aD],fun args hp K=>g1 (pD aD) (fun x=>K (dB false) []) args hp,.plain,false⟩
abbrev C247:Ctx:=cx [] 6 [] 0 false
def ann247:=an [[kp 1],[kp 4]] []
theorem vc247 (x:Int) (K:KA):vcT C247 aA ann247 f247 [dI x] [] (.dat Ty.bool) K =
 (K (dB (!decide (x=x))) []):=by kernel_rfl
theorem con247_ok:aV P 247 c247:=aY C247 func247 kN fun args hp K h0=>by
 obtain⟨x,rfl,rfl,hK⟩:=g1e h0
 have h:ok (F.cmp_isNaN_int x) (fun r=>K (dB r) []):=aB (F.wW x) hK
 refine⟨rfl,ann247,aA,(.dat Ty.bool),(aI (by kernel_rfl)),?_⟩
 ·rw[vc247]
  exact h
def c219:Con:=⟨[.dat aD,.dat aD],fun args hp K=>g2 (pD aD) (pD aD) (fun x y=>K (dI (M.uM x y)) []) args hp,.plain,false⟩
abbrev C219:Ctx:=cx [(247,c247)] 20 [] 0 false
def ann219:=an [[kp 3],[kp 35],[kp 99],[kp 2115],[kp 4096],[kp 16],[kp 16],[kp 8195],[kp 16],[kp 65539],[kp 16],[kp 524288],[kp 16],[kp 16]] []
theorem vc219 (x:Int) (y:Int) (K:KA):vcT C219 aA ann219 f219 [dI x,dI y] [] (.dat aD) K =
 (cond false (cond false (K (dI Z0) []) (K (dI (-1:Int)) [])) (cond false (K (dI Z1) []) (cond (decide (x<y)) (K (dI (-1:Int)) []) (cond (decide (y<x)) (K (dI Z1) []) (K (dI Z0) []))))):=by kernel_rfl
theorem con219_ok:aV P 219 c219:=aY C219 func219 (kC con247_ok kN) fun args hp K h0=>by
 obtain⟨x,y,rfl,rfl,hK⟩:=g2e h0
 have h:ok (F.lW x y) (fun r=>K (dI r) []):=aB (F.uw x y) hK
 refine⟨rfl,ann219,aA,(.dat aD),(aI (by kernel_rfl)),?_⟩
 ·rw[vc219]
  exact(oC h (fun b_1 h=>(fP b_1 h)) fun b_1 h=>(gj b_1 (oC h (fun _ h=>h) fun _ h=>(oC h (fun _ h=>h) fun _ h=>h))))
def c256:Con:=⟨[.dat Ty.str],fun args hp K=>g1 (pD Ty.str) (fun x=>(Sm Ty.str x)/\K (dB false) []) args hp,.plain,false⟩
abbrev C256:Ctx:=cx [] 6 [] 0 false
def ann256:=an [[kp 1],[kp 4]] []
theorem vc256 (x:ByteArray) (K:KA):vcT C256 aA ann256 f256 [.data Ty.str x] [] (.dat Ty.bool) K =
 (K (dB (!decide (x=x))) []):=by kernel_rfl
theorem con256_ok:aV P 256 c256:=aY C256 func256 kN fun args hp K h0=>by
 obtain⟨x,rfl,rfl,h_x,hK⟩:=g1e h0
 have h:ok (F.cmp_isNaN_string x) (fun r=>K (dB r) []):=aB (F.th x h_x) hK
 refine⟨rfl,ann256,aA,(.dat Ty.bool),(aI (by kernel_rfl)),?_⟩
 ·rw[vc256]
  exact h
def c246:Con:=⟨[.dat Ty.str,.dat Ty.str],fun args hp K=>g2 (pD Ty.str) (pD Ty.str) (fun x y=>(Sm Ty.str x)/\(Sm Ty.str y)/\K (dI (M.vN x y)) []) args hp,.plain,false⟩
abbrev C246:Ctx:=cx [(256,c256)] 20 [] 0 false
def ann246:=an [[kp 3],[kp 35],[kp 99],[kp 2115],[kp 4096],[kp 16],[kp 16],[kp 8195],[kp 16],[kp 65539],[kp 16],[kp 524288],[kp 16],[kp 16]] []
theorem vc246 (x:ByteArray) (y:ByteArray) (K:KA):vcT C246 aA ann246 f246 [.data Ty.str x,.data Ty.str y] [] (.dat aD) K =
 ((Sm Ty.str x)/\(Sm Ty.str y)/\cond false (cond false (K (dI Z0) []) (K (dI (-1:Int)) [])) (cond false (K (dI Z1) []) (cond (Op.bytesLess x.toList y.toList) (K (dI (-1:Int)) []) (cond (!(Op.bytesLess x.toList y.toList||decide (x=y))) (K (dI Z1) []) (K (dI Z0) []))))):=by kernel_rfl
theorem con246_ok:aV P 246 c246:=aY C246 func246 (kC con256_ok kN) fun args hp K h0=>by
 obtain⟨x,y,rfl,rfl,h_x,h_y,hK⟩:=g2e h0
 have h:ok (F.jm x y) (fun r=>K (dI r) []):=aB (F.qU x y h_x h_y) hK
 refine⟨rfl,ann246,aA,(.dat aD),(aI (by kernel_rfl)),?_⟩
 ·rw[vc246]
  exact⟨h_x,⟨h_y,(oC h (fun b_1 h=>(fP b_1 h)) fun b_1 h=>(gj b_1 (oC h (fun _ h=>h) fun _ h=>(oC h (fun _ h=>h) fun _ h=>h))))⟩⟩
def c218:Con:=⟨[.dat aa,.dat aa],fun args hp K=>g2 (pD aa) (pD aa) (fun v w=>(Sm aa v)/\(Sm aa w)/\K (dI (M.order v w)) []) args hp,.plain,false⟩
abbrev C218:Ctx:=cx [(216,c216),(219,c219),(246,c246)] 22 [] 0 false
def ann218:=an [[.fixRow 2 aa,.fixRow 3 aa,kp 12],[kp 16]] []
theorem vc218 (v:aa.D) (w:aa.D) (K:KA):vcT C218 aA ann218 f218 [.data aa v,.data aa w] [] (.dat aD) K =
 ((Sm Ty.str v.2.2.1)/\(Sm Ty.str w.2.2.1)/\(Sm (Ty.sl aD) [(M.uM v.1 w.1),(M.uM v.2.1 w.2.1),(M.vN v.2.2.1 w.2.2.1)])/\K (dI (M.orI [(M.uM v.1 w.1),(M.uM v.2.1 w.2.1),(M.vN v.2.2.1 w.2.2.1)])) []):=by kernel_rfl
theorem con218_ok:aV P 218 c218:=aY C218 func218 (kC con216_ok (kC con219_ok (kC con246_ok kN))) fun args hp K h0=>by
 obtain⟨v,w,rfl,rfl,h_v,h_w,hK⟩:=g2e h0
 have h:ok (F.kD v w) (fun r=>K (dI r) []):=aB (F.sZ v w h_v h_w) hK
 refine⟨rfl,ann218,aA,(.dat aD),(aI (by kernel_rfl)),?_⟩
 ·rw[vc218]
  exact⟨h_v.2.2.1,⟨h_w.2.2.1,(oG h fun _ h=>h)⟩⟩
def c243:Con:=⟨[.dat Ty.bool],fun args hp K=>g1 (pD Ty.bool) (fun b=>K (dI (M.bool b)) []) args hp,.plain,false⟩
abbrev C243:Ctx:=cx [] 4 [] 0 false
def ann243:=an [[kp 1],[kp 8],[kp 4],[kp 4]] []
theorem vc243 (b:Bool) (K:KA):vcT C243 aA ann243 f243 [dB b] [] (.dat aD) K =
 (cond b (K (dI Z1) []) (K (dI Z0) [])):=by kernel_rfl
theorem con243_ok:aV P 243 c243:=aY C243 func243 kN fun args hp K h0=>by
 obtain⟨b,rfl,rfl,hK⟩:=g1e h0
 have h:ok (F.qw b) (fun r=>K (dI r) []):=aB (F.yc b) hK
 refine⟨rfl,ann243,aA,(.dat aD),(aI (by kernel_rfl)),?_⟩
 ·rw[vc243]
  exact(oC h (fun _ h=>h) fun _ h=>h)
def c238:Con:=⟨[.dat aD,.dat aa,.dat aa],fun args hp K=>g3 (pD aD) (pD aa) (pD aa) (fun kind a b=>(Sm aa a)/\(Sm aa b)/\K (dI (M.compare kind a b)) []) args hp,.plain,false⟩
abbrev C238:Ctx:=cx [(131,c131),(132,c132),(218,c218),(243,c243)] 71 [] 0 false
def ann238:=an [[.fixRow 4 aa,.fixRow 5 aa,kp 49],[kp 305],[kp 64],[kp 4194353],[kp 64],[kp 2147483697],[kp 64],[kp 129],[kp 64]] []
abbrev S238_0 (kind:Int) (a:aa.D) (b:aa.D) (K:KA):Prop:=cond ((decide (kind=Z4))==true) (K (dI (M.bool (decide ((M.order a b)<=Z0)))) []) (K (dI (M.bool false)) [])
abbrev S238_1 (kind:Int) (a:aa.D) (b:aa.D) (K:KA):Prop:=cond ((decide (kind=Z3))==true) (cond ((decide ((M.order a b)<Z0))==false) (S238_0 kind a b K) (K (dI (M.bool true)) [])) (S238_0 kind a b K)
abbrev S238_2 (kind:Int) (a:aa.D) (b:aa.D) (K:KA):Prop:=cond ((decide (kind=Z2))==true) (cond ((!decide ((M.order a b)=Z0))==false) (S238_1 kind a b K) (K (dI (M.bool true)) [])) (S238_1 kind a b K)
theorem vc238 (kind:Int) (a:aa.D) (b:aa.D) (K:KA):vcT C238 aA ann238 f238 [dI kind,.data aa a,.data aa b] [] (.dat aD) K =
 (cond ((!(M.inR kind Z1 Z4))==false) ((Sm aa a)/\cond ((!(M.aP a))==false) ((Sm aa b)/\cond (!(M.aP b)) (K (dI (-1:Int)) []) (cond ((decide (a.1=Z0))==false) (cond (decide (b.1=Z0)) (K (dI Z2) []) (cond (!decide (a.1=b.1)) (K (dI (-1:Int)) []) ((Sm aa a)/\(Sm aa b)/\cond ((decide (kind=Z1))==true) (cond ((decide ((M.order a b)=Z0))==false) (S238_2 kind a b K) (K (dI (M.bool true)) [])) (S238_2 kind a b K)))) (K (dI Z2) []))) (K (dI (-1:Int)) [])) (K (dI (-1:Int)) [])):=by kernel_rfl
theorem con238_ok:aV P 238 c238:=aY C238 func238 (kC con131_ok (kC con132_ok (kC con218_ok (kC con243_ok kN)))) fun args hp K h0=>by
 obtain⟨kind,a,b,rfl,rfl,h_a,h_b,hK⟩:=g3e h0
 have h:ok (F.qn kind a b) (fun r=>K (dI r) []):=aB (F.ye kind a b h_a h_b) hK
 refine⟨rfl,ann238,aA,(.dat aD),(aI (by kernel_rfl)),?_⟩
 ·rw[vc238]
  exact(oC h (fun _ h=>⟨h_a,(oC h (fun _ h=>⟨h_b,(oC h (fun _ h=>h) fun _ h=>(oC h (fun _ h=>(oC h (fun _ h=>h) fun _ h=>(oC h (fun _ h=>h) fun _ h=>⟨h_a,⟨h_b,(oC h (fun b_7 h=>(oC h (fun _ h=>(gj (uef (mO (bet b_7) (by decide))) (gj (uef (mO (bet b_7) (by decide))) (gj (uef (mO (bet b_7) (by decide))) h)))) fun _ h=>h)) fun _ h=>(oC h (fun b_19 h=>(oC h (fun _ h=>(gj (uef (mO (bet b_19) (by decide))) (gj (uef (mO (bet b_19) (by decide))) h))) fun _ h=>h)) fun _ h=>(oC h (fun b_25 h=>(oC h (fun _ h=>(gj (uef (mO (bet b_25) (by decide))) h)) fun _ h=>h)) fun _ h=>(oC h (fun _ h=>h) fun _ h=>h))))⟩⟩))) fun _ h=>h))⟩) fun _ h=>h)⟩) fun _ h=>h)
def c260:Con:=⟨[.dat aD],fun args hp K=>g1 (pD aD) (fun n=>K (dB (M.inR n 0 2)) []) args hp,.plain,false⟩
abbrev C260:Ctx:=cx [(132,c132)] 5 [] 0 false
def ann260:=an [[kp 1],[kp 4]] []
theorem vc260 (n:Int) (K:KA):vcT C260 aA ann260 f260 [dI n] [] (.dat Ty.bool) K =
 (K (dB (M.inR n Z0 Z2)) []):=by kernel_rfl
theorem con260_ok:aV P 260 c260:=aY C260 func260 (kC con132_ok kN) fun args hp K h0=>by
 obtain⟨n,rfl,rfl,hK⟩:=g1e h0
 have h:ok (F.uI n) (fun r=>K (dB r) []):=aB (F.yG n) hK
 refine⟨rfl,ann260,aA,(.dat Ty.bool),(aI (by kernel_rfl)),?_⟩
 ·rw[vc260]
  exact h
def c254:Con:=⟨[.dat aD,.dat aD,.dat aD],fun args hp K=>g3 (pD aD) (pD aD) (pD aD) (fun a b alone=>(0<=alone/\alone<=1)/\K (dI (M.fold a b alone)) []) args hp,.plain,false⟩
abbrev C254:Ctx:=cx [(260,c260)] 35 [] 0 false
def ann254:=an [[kp 7],[kp 135],[kp 64],[kp 65543],[kp 64],[kp 67108868],[kp 64],[kp 64]] []
theorem vc254 (a:Int) (b:Int) (alone:Int) (K:KA):vcT C254 aA ann254 f254 [dI a,dI b,dI alone] [] (.dat aD) K =
 (cond ((!(M.inR a 0 2))==false) (cond (!(M.inR b 0 2)) (K (dI (-1:Int)) []) (cond ((decide (a=alone))==false) (cond (decide (b=alone)) (K (dI alone) []) (cond ((decide (a=Z2))==false) (cond (decide (b=Z2)) (K (dI Z2) []) (K (dI (wrap64 (Z1-alone))) [])) (K (dI Z2) []))) (K (dI alone) []))) (K (dI (-1:Int)) [])):=by kernel_rfl
theorem con254_ok:aV P 254 c254:=aY C254 func254 (kC con260_ok kN) fun args hp K h0=>by
 obtain⟨a,b,alone,rfl,rfl,p0,hK⟩:=g3e h0
 have h:ok (F.wo a b alone) (fun r=>K (dI r) []):=aB (F.Cj a b alone p0) hK
 refine⟨rfl,ann254,aA,(.dat aD),(aI (by kernel_rfl)),?_⟩
 ·rw[vc254]
  exact(oC h (fun _ h=>(oC h (fun _ h=>h) fun _ h=>(oC h (fun _ h=>(oC h (fun _ h=>h) fun _ h=>(oC h (fun _ h=>(oC h (fun _ h=>h) fun _ h=>h)) fun _ h=>h))) fun _ h=>h))) fun _ h=>h)
def c239:Con:=⟨[.dat aD,.dat aD],fun args hp K=>g2 (pD aD) (pD aD) (fun a b=>K (dI (M.rV a b)) []) args hp,.plain,false⟩
abbrev C239:Ctx:=cx [(254,c254)] 8 [] 0 false
def ann239:=an [[kp 3],[kp 16]] []
theorem vc239 (a:Int) (b:Int) (K:KA):vcT C239 aA ann239 f239 [dI a,dI b] [] (.dat aD) K =
 ((0<=Z0/\Z0<=1)/\K (dI (M.fold a b Z0)) []):=by kernel_rfl
theorem con239_ok:aV P 239 c239:=aY C239 func239 (kC con254_ok kN) fun args hp K h0=>by
 obtain⟨a,b,rfl,rfl,hK⟩:=g2e h0
 have h:ok (F.uz a b) (fun r=>K (dI r) []):=aB (F.AN a b) hK
 refine⟨rfl,ann239,aA,(.dat aD),(aI (by kernel_rfl)),?_⟩
 ·rw[vc239]
  exact(oG h fun _ h=>h)
def c240:Con:=⟨[.dat aa],fun args hp K=>g1 (pD aa) (fun v=>(Sm aa v)/\K (dI (M.cv v)) []) args hp,.plain,false⟩
abbrev C240:Ctx:=cx [(131,c131)] 17 [] 0 false
def ann240:=an [[.fixRow 1 aa,kp 2],[kp 10],[kp 4],[kp 130],[kp 4],[kp 2050],[kp 4],[kp 4]] []
theorem vc240 (v:aa.D) (K:KA):vcT C240 aA ann240 f240 [.data aa v] [] (.dat aD) K =
 ((Sm aa v)/\cond (!(M.aP v)) (K (dI (-1:Int)) []) (cond (decide (v.1=Z0)) (K (dI Z2) []) (cond (decide (v.1=Z3)) (K (dI v.2.1) []) (K (dI (-1:Int)) [])))):=by kernel_rfl
theorem con240_ok:aV P 240 c240:=aY C240 func240 (kC con131_ok kN) fun args hp K h0=>by
 obtain⟨v,rfl,rfl,h_v,hK⟩:=g1e h0
 have h:ok (F.qz v) (fun r=>K (dI r) []):=aB (F.xY v h_v) hK
 refine⟨rfl,ann240,aA,(.dat aD),(aI (by kernel_rfl)),?_⟩
 ·rw[vc240]
  exact⟨h_v,(oC h (fun _ h=>h) fun _ h=>(oC h (fun _ h=>h) fun _ h=>(oC h (fun _ h=>h) fun _ h=>h)))⟩
def c241:Con:=⟨[.dat aD,.dat aD],fun args hp K=>g2 (pD aD) (pD aD) (fun a b=>K (dI (M.zU a b)) []) args hp,.plain,false⟩
abbrev C241:Ctx:=cx [(254,c254)] 8 [] 0 false
def ann241:=an [[kp 3],[kp 16]] []
theorem vc241 (a:Int) (b:Int) (K:KA):vcT C241 aA ann241 f241 [dI a,dI b] [] (.dat aD) K =
 ((0<=Z1/\Z1<=1)/\K (dI (M.fold a b Z1)) []):=by kernel_rfl
theorem con241_ok:aV P 241 c241:=aY C241 func241 (kC con254_ok kN) fun args hp K h0=>by
 obtain⟨a,b,rfl,rfl,hK⟩:=g2e h0
 have h:ok (F.wC a b) (fun r=>K (dI r) []):=aB (F.Ck a b) hK
 refine⟨rfl,ann241,aA,(.dat aD),(aI (by kernel_rfl)),?_⟩
 ·rw[vc241]
  exact(oG h fun _ h=>h)
def c242:Con:=⟨[.dat aD],fun args hp K=>g1 (pD aD) (fun a=>K (dI (M.rR a)) []) args hp,.plain,false⟩
abbrev C242:Ctx:=cx [] 10 [] 0 false
def ann242:=an [[kp 1],[kp 8],[kp 24],[kp 4],[kp 72],[kp 4],[kp 256],[kp 4],[kp 4]] []
theorem vc242 (a:Int) (K:KA):vcT C242 aA ann242 f242 [dI a] [] (.dat aD) K =
 (cond (decide (a=Z0)) (K (dI Z1) []) (cond (decide (a=Z1)) (K (dI Z0) []) (cond (decide (a=Z2)) (K (dI Z2) []) (K (dI (-1:Int)) [])))):=by kernel_rfl
theorem con242_ok:aV P 242 c242:=aY C242 func242 kN fun args hp K h0=>by
 obtain⟨a,rfl,rfl,hK⟩:=g1e h0
 have h:ok (F.tP a) (fun r=>K (dI r) []):=aB (F.AM a) hK
 refine⟨rfl,ann242,aA,(.dat aD),(aI (by kernel_rfl)),?_⟩
 ·rw[vc242]
  exact(oC h (fun _ h=>h) fun _ h=>(oC h (fun _ h=>h) fun _ h=>(oC h (fun _ h=>h) fun _ h=>h)))
def c212:Con:=⟨[.dat aE,.dat TVS,.lent aa],fun args hp K=>g3 (pD aE) (pD TVS) (pB aa) (fun p row inp=>(Sm aE p)/\(Sm TVS row)/\(Sm TVS inp)/\((inp.length:Int)=M.takes p)/\(M.nR p row.length)/\(1<=p.1/\p.1<=8)/\(LD (M.iy p row inp) fun r=>K (.data aa r) [])) args hp,.plain,false⟩
abbrev C212:Ctx:=cx [(131,c131),(170,c170),(238,c238),(239,c239),(240,c240),(241,c241),(242,c242),(243,c243)] 103 [] 0 false
def ann212:=an [[.fixRow 3 aE,kp 78],[kp 590],[kp 1614],[kp 64],[kp 16974],[kp 64],[kp 2097740],[.fixRow 7 aa,kp 196],[.keep [6,7,49]],[kp 64],[kp 64],[kp 4503599627371084],[kp 64],[.keep [2,6,9,64]],[kp 64],[.keep [2,6,9,76]],[kp 64],[.keep [2,6,88]],[kp 64],[kp 64]] []
theorem vc212 (p:aE.D) (row:LV) (inp:LV) (K:KA):vcT C212 aA ann212 f212 [.data aE p,.data TVS row,.brw aa inp] [] (.dat aa) K =
 (cond (decide (p.1=Z1)) (K (.data aa p.2.2.1) []) (cond (decide (p.1=Z2)) ((0<=p.2.1)/\(p.2.1<(row.length:Int))/\K (.data aa (nV row p.2.1)) []) (cond (decide (p.1=Z3)) ((0<=Z0)/\(Z0<(inp.length:Int))/\(0<=Z1)/\(Z1<(inp.length:Int))/\(0<=Z0)/\(Z0<(inp.length:Int))/\cond ((decide ((nV inp Z0).1=Z0))==false) ((0<=Z1)/\(Z1<(inp.length:Int))/\cond ((decide ((nV inp Z1).1=Z0))==false) ((Sm aa (Z1,(wrap64 ((nV inp Z0).2.1+(nV inp Z1).2.1),((⟨#[]⟩:ByteArray),()))))/\cond (!(M.aP (Z1,(wrap64 ((nV inp Z0).2.1+(nV inp Z1).2.1),((⟨#[]⟩:ByteArray),()))))) (K (.data aa (Z0,(Z0,((⟨#[]⟩:ByteArray),())))) []) (K (.data aa (Z1,(wrap64 ((nV inp Z0).2.1+(nV inp Z1).2.1),((⟨#[]⟩:ByteArray),())))) [])) (K (.data aa (Z0,(Z0,((⟨#[]⟩:ByteArray),())))) [])) (K (.data aa (Z0,(Z0,((⟨#[]⟩:ByteArray),())))) [])) (cond (decide (p.1=Z4)) ((0<=Z0)/\(Z0<(inp.length:Int))/\(0<=Z1)/\(Z1<(inp.length:Int))/\(Sm aa (nV inp Z0))/\(Sm aa (nV inp Z1))/\(LD (M.valueOf (M.compare p.2.1 (nV inp Z0) (nV inp Z1))) fun r1=>K (.data aa r1) [])) (cond (decide (p.1=Z5)) ((0<=Z0)/\(Z0<(inp.length:Int))/\(0<=Z1)/\(Z1<(inp.length:Int))/\(Sm aa (nV inp Z0))/\(Sm aa (nV inp Z1))/\(LD (M.valueOf (M.rV (M.cv (nV inp Z0)) (M.cv (nV inp Z1)))) fun r2=>K (.data aa r2) [])) (cond (decide (p.1=Z6)) ((0<=Z0)/\(Z0<(inp.length:Int))/\(0<=Z1)/\(Z1<(inp.length:Int))/\(Sm aa (nV inp Z0))/\(Sm aa (nV inp Z1))/\(LD (M.valueOf (M.zU (M.cv (nV inp Z0)) (M.cv (nV inp Z1)))) fun r3=>K (.data aa r3) [])) (cond (decide (p.1=(7:Int))) ((0<=Z0)/\(Z0<(inp.length:Int))/\(Sm aa (nV inp Z0))/\(LD (M.valueOf (M.rR (M.cv (nV inp Z0)))) fun r4=>K (.data aa r4) [])) ((0<=Z0)/\(Z0<(inp.length:Int))/\(LD (M.valueOf (M.bool (decide ((nV inp Z0).1=Z0)))) fun r5=>K (.data aa r5) []))))))))):=by kernel_rfl
theorem con212_ok:aV P 212 c212:=aY C212 func212 (kC con131_ok (kC con170_ok (kC con238_ok (kC con239_ok (kC con240_ok (kC con241_ok (kC con242_ok (kC con243_ok kN)))))))) fun args hp K h0=>by
 obtain⟨p,row,inp,rfl,rfl,h_p,h_row,h_inp,p0,p1,p2,hK⟩:=g3e h0
 have h:ok (F.lX p row inp) (fun r=>K (.data aa r) []):=aB (F.uf p row inp h_p h_row h_inp p0 p1 p2) (hK _ rfl)
 refine⟨rfl,ann212,aA,(.dat aa),(aI (by kernel_rfl)),?_⟩
 ·rw[vc212]
  exact(oC h (fun _ h=>h) fun _ h=>(oC h (fun _ h=>(oG h fun _ h=>(oG h fun _ h=>h))) fun _ h=>(oC h (fun _ h=>⟨(Int.natCast_nonneg 0),(oG h fun g1 h=>⟨(Int.natCast_nonneg 1),(oG h fun g2 h=>⟨(Int.natCast_nonneg 0),⟨g1,(oC h (fun _ h=>⟨(Int.natCast_nonneg 1),⟨g2,(oC h (fun _ h=>⟨(show Sm aa _ from⟨trivial,(show Sm (Ty.pair aD (Ty.pair Ty.str Ty.unit)) _ from⟨trivial,(show Sm (Ty.pair Ty.str Ty.unit) _ from⟨(Nat.le_of_ble_eq_true rfl),trivial⟩)⟩)⟩),(oC h (fun _ h=>h) fun _ h=>h)⟩) fun _ h=>h)⟩⟩) fun _ h=>h)⟩⟩)⟩)⟩) fun _ h=>(oC h (fun _ h=>⟨(Int.natCast_nonneg 0),(oG h fun _ h=>⟨(Int.natCast_nonneg 1),(oG h fun _ h=>⟨(aH h_inp Z0),⟨(aH h_inp Z1),(oL h fun _ _ h=>h)⟩⟩)⟩)⟩) fun _ h=>(oC h (fun _ h=>⟨(Int.natCast_nonneg 0),(oG h fun _ h=>⟨(Int.natCast_nonneg 1),(oG h fun _ h=>⟨(aH h_inp Z0),⟨(aH h_inp Z1),(oL h fun _ _ h=>h)⟩⟩)⟩)⟩) fun _ h=>(oC h (fun _ h=>⟨(Int.natCast_nonneg 0),(oG h fun _ h=>⟨(Int.natCast_nonneg 1),(oG h fun _ h=>⟨(aH h_inp Z0),⟨(aH h_inp Z1),(oL h fun _ _ h=>h)⟩⟩)⟩)⟩) fun _ h=>(oC h (fun _ h=>⟨(Int.natCast_nonneg 0),(oG h fun _ h=>⟨(aH h_inp Z0),(oL h fun _ _ h=>h)⟩)⟩) fun _ h=>⟨(Int.natCast_nonneg 0),(oG h fun _ h=>(oL h fun _ _ h=>h))⟩)))))))
def c169:Con:=⟨[.dat TVS,.dat TPS],fun args hp K=>g2 (pD TVS) (pD TPS) (fun row e=>(Sm TVS row)/\(Sm TPS e)/\(M.jG row.length e)/\(LD (M.ff row e) fun r=>K (.data aa r) [])) args hp,.plain,false⟩
abbrev C169:Ctx:=cx [(165,c165),(212,c212)] 37 [] 0 false
def ann169:=an [[kp 19],[kp 51],[kp 7217],[kp 15409],[.fixRow 7 aE,kp 7345],[kp 7601],[.fixRow 9 aa,kp 7985],[kp 7217],[kp 7217],[kp 16]] [[kp 48]]
abbrev s169_0 (row:LV) (e:LPt) (i0:Int) (v0:LV):St:=⟨[(0,.data TVS row),(4,.ptr 4 0),(5,.own 5 none),(10,.data TPS e),(11,dI (e.length:Int)),(12,dI i0)],[(4,.box [dI Z0,dI Z0,.data Ty.str (⟨#[]⟩:ByteArray)]),(5,.arr .sh aa v0)]⟩
abbrev LP169_0 (row:LV) (e:LPt) (m:Nat) (st_:St) (K:KX):Prop:=True/\cN (t:=aE) (s169_0 row e) e (F.ez row e) (fun v0:LV=>True) (bA (fun v0:LV=>True->K (.exit 0) (⟨[(4,.ptr 4 0),(5,.own 5 none)],[(4,.box [dI Z0,dI Z0,.data Ty.str (⟨#[]⟩:ByteArray)]),(5,.arr .sh aa v0)]⟩:St)) (fun _=>False)) m st_
def L169 (row:LV) (e:LPt):bC:=lp1 0 (LP169_0 row e)
theorem vc169 (row:LV) (e:LPt) (K:KA):vcT C169 (L169 row e) ann169 f169 [.data TVS row,.data TPS e] [] (.dat aa) K =
 (∃m_,True/\cN (t:=aE) (s169_0 row e) e (F.ez row e) (fun v0:LV=>True) (bA (fun v0:LV=>True->(0<=Z0)/\(Z0<(v0.length:Int))/\K (.data aa (nV v0 Z0)) []) (fun _=>False)) m_ (s169_0 row e Z0 [])):=by kernel_rfl
abbrev S169l0_0 (row:LV) (e:LPt)  (i0:Int) (v0:LV) (m:Nat) (K:KX):Prop:=(Sm aE (nP e i0))/\(Sm TVS row)/\(Sm TVS (aC v0 (some (wrap64 ((v0.length:Int)-(M.takes (nP e i0))),(v0.length:Int)))))/\(((aC v0 (some (wrap64 ((v0.length:Int)-(M.takes (nP e i0))),(v0.length:Int)))).length:Int)=M.takes (nP e i0))/\(M.nR (nP e i0) row.length)/\(1<=(nP e i0).1/\(nP e i0).1<=8)/\(LD (M.iy (nP e i0) row (aC v0 (some (wrap64 ((v0.length:Int)-(M.takes (nP e i0))),(v0.length:Int))))) fun r1=>(0<=Z0)/\(Z0<=wrap64 ((v0.length:Int)-(M.takes (nP e i0))))/\(wrap64 ((v0.length:Int)-(M.takes (nP e i0)))<=(v0.length:Int))/\(wrap64 ((v0.length:Int)-(M.takes (nP e i0)))=wrap64 ((v0.length:Int)-(M.takes (nP e i0))))/\(Z0=0)/\(((wrap64 ((v0.length:Int)-(M.takes (nP e i0)))).toNat+[r1].length) * 32<=lim)/\(nxT (LP169_0 row e) m K (s169_0 row e (wrap64 (i0+Z1)) (v0.take (wrap64 ((v0.length:Int)-(M.takes (nP e i0)))).toNat++[r1]))))
theorem lvc169_0 (row:LV) (e:LPt)  (i0:Int) (v0:LV) (m:Nat) (K:KX):lvT C169 (L169 row e) ann169 f169 0 0 (s169_0 row e i0 v0) m K =
 (cond (decide (i0<(e.length:Int))) ((0<=i0)/\(i0<(e.length:Int))/\(Sm aE (nP e i0))/\(0<=wrap64 ((v0.length:Int)-(M.takes (nP e i0))))/\(wrap64 ((v0.length:Int)-(M.takes (nP e i0)))<=(v0.length:Int))/\((v0.length:Int)<=(v0.length:Int))/\((v0.length:Int)=(v0.length:Int))/\Q0 (S169l0_0  row e i0 v0 m K)) (K (.exit 0) (⟨[(4,.ptr 4 0),(5,.own 5 none)],[(4,.box [dI Z0,dI Z0,.data Ty.str (⟨#[]⟩:ByteArray)]),(5,.arr .sh aa v0)]⟩:St))):=by kernel_rfl
theorem con169_ok:aV P 169 c169:=aY C169 func169 (kC con165_ok (kC con212_ok kN)) fun args hp K h0=>by
 obtain⟨row,e,rfl,rfl,h_row,h_e,p0,hK⟩:=g2e h0
 have h:ok (F.mU row e) (fun r=>K (.data aa r) []):=aB (F.vK row e h_row h_e p0) (hK _ rfl)
 refine⟨rfl,ann169,(L169 row e),(.dat aa),(br (i0:=0) (by kernel_rfl) ?_),?_⟩
 ·rintro _ _ K ⟨hc0,i0,v0,rfl,hl0,rfl,hv0,h⟩
  exact cast (lvc169_0 _ _ _ _ _ _).symm (cj (t:=aE) hl0 h (fun ht0 h=>⟨hl0,⟨ht0,⟨(aH h_e i0),(oG h fun _ h=>(oG h fun g1 h=>⟨(Int.le_refl _),⟨rfl,(q0 (⟨(aH h_e i0),⟨h_row,(oG h fun _ h=>(oG h fun _ h=>(oG h fun _ h=>(oG h fun _ h=>(oL h fun _ _ h=>⟨(Int.natCast_nonneg 0),(oG h fun _ h=>⟨g1,⟨rfl,⟨rfl,(oG h fun _ h=>(bF (t:=aE) (fun _ hm=>⟨hc0,hm⟩) _ rfl hl0 ht0 (bE h_e) trivial h))⟩⟩⟩)⟩)))))⟩⟩))⟩⟩))⟩⟩⟩) fun h=>(h trivial))
 ·rw[vc169]
  exact(bN (t:=aE) (fun m hm=>⟨trivial,hm⟩) _ rfl trivial (aX h (fun v0 h hv0=>⟨(Int.natCast_nonneg 0),(oG h fun _ h=>h)⟩) (fun _ h=>h.elim)))
def c201:Con:=⟨[.dat (Ty.sl aD),.any],fun args hp K=>g2 (pD (Ty.sl aD)) (pR TVS) (fun list key=>(Sm (Ty.sl aD) list)/\(Sm TVS key)/\(LD (list,key) fun r=>K (.fn 202 [.ref (.data (Ty.sl aD) r.1),.ref (.data TVS r.2)]) [])) args hp,.plain,false⟩
abbrev C201:Ctx:=cx [(202,c202)] 5 [] 0 false
def ann201:=an [[.fixBox 2,kp 6],[kp 8]] []
theorem vc201 (list:LI) (key:LV) (K:KA):vcT C201 aA ann201 f201 [.data (Ty.sl aD) list,.ref (.data TVS key)] [] .raw K =
 (K (.fn 202 [.ref (.data (Ty.sl aD) list),.ref (.data TVS key)]) []):=by kernel_rfl
theorem con201_ok:aV P 201 c201:=aY C201 func201 (kC con202_ok kN) fun args hp K h0=>by
 obtain⟨list,key,rfl,rfl,h_list,h_key,hK⟩:=g2e h0
 have h:ok (F.mT list key) (fun r=>K (.fn 202 [.ref (.data (Ty.sl aD) r.1),.ref (.data TVS r.2)]) []):=aB (F.qW list key h_list h_key) (hK _ rfl)
 refine⟨rfl,ann201,aA,.raw,(aI (by kernel_rfl)),?_⟩
 ·rw[vc201]
  exact h
def c155:Con:=⟨[.dat ah,.dat TTb,.dat aD],fun args hp K=>g3 (pD ah) (pD TTb) (pD aD) (fun b tables n=>(Sm ah b)/\(Sm TTb tables)/\((M.aF tables&&M.aN tables b)=true)/\(0<=n/\n<((M.dD tables b).length:Int))/\K (dB (M.breaks tables b n)) []) args hp,.plain,false⟩
abbrev C155:Ctx:=cx [(138,c138),(169,c169),(170,c170),(198,c198),(199,c199),(201,c201)] 63 [] 0 false
def ann155:=an [[.fixRow 3 ah,kp 14],[kp 142],[kp 2097294],[kp 64],[.fixBox 8,kp 270],[kp 8589934862],[kp 64],[kp 526],[kp 137438953998],[kp 64],[kp 64]] []
theorem vc155 (b:ah.D) (tables:LTb) (n:Int) (K:KA):vcT C155 aA ann155 f155 [.data ah b,.data TTb tables,dI n] [] (.dat Ty.bool) K =
 ((0<=b.2.1)/\(b.2.1<(tables.length:Int))/\(0<=n)/\(n<((nT tables b.2.1).2.1.length:Int))/\cond (decide (b.1=Z3)) ((Sm TVS (nth (t:=TVS) (nT tables b.2.1).2.1 n))/\(Sm TPS b.2.2.2.2.2.2.1)/\(M.jG (nth (t:=TVS) (nT tables b.2.1).2.1 n).length b.2.2.2.2.2.2.1)/\(LD (M.ff (nth (t:=TVS) (nT tables b.2.1).2.1 n) b.2.2.2.2.2.2.1) fun r1=>(LD (M.valueOf Z0) fun r2=>K (dB (Ty.beq aa r1 r2)) []))) ((Sm TVS (nth (t:=TVS) (nT tables b.2.1).2.1 n))/\(Sm (Ty.sl aD) b.2.2.1)/\(M.fm (nth (t:=TVS) (nT tables b.2.1).2.1 n) b.2.2.1)/\(LD (M.taken (nth (t:=TVS) (nT tables b.2.1).2.1 n) b.2.2.1) fun r3=>(((Sm TVS r3)/\cond (List.any r3 (fun e=>decide (e.1=0))) (K (dB false) []) (cond (decide (b.1=Z1)) ((0<=b.2.1)/\(b.2.1<(tables.length:Int))/\(0<=Z0)/\(Z0<=n)/\(n<=((nT tables b.2.1).2.1.length:Int))/\(n=n)/\(Sm (Ty.sl aD) b.2.2.1)/\(Sm TVS r3)/\(LD (b.2.2.1,r3) fun r4=>(False\/((Sm (Ty.sl TVS) (aC (nT tables b.2.1).2.1 (some (Z0,n))))/\(Sm (Ty.sl aD) r4.1)/\(Sm TVS r4.2)/\(∀e∈(aC (nT tables b.2.1).2.1 (some (Z0,n))),M.fm e r4.1)/\K (dB (List.any (aC (nT tables b.2.1).2.1 (some (Z0,n))) (fun e=>decide (M.taken e r4.1=r4.2)))) [])))) ((0<=b.2.2.2.1)/\(b.2.2.2.1<(tables.length:Int))/\(Sm (Ty.sl aD) b.2.2.2.2.1)/\(Sm TVS r3)/\(LD (b.2.2.2.2.1,r3) fun r5=>(False\/((Sm (Ty.sl TVS) (nT tables b.2.2.2.1).2.1)/\(Sm (Ty.sl aD) r5.1)/\(Sm TVS r5.2)/\(∀e∈(nT tables b.2.2.2.1).2.1,M.fm e r5.1)/\K (dB (!(List.any (nT tables b.2.2.2.1).2.1 (fun e=>decide (M.taken e r5.1=r5.2))))) []))))))\/False)))):=by kernel_rfl
theorem con155_ok:aV P 155 c155:=aY C155 func155 (kC con138_ok (kC con169_ok (kC con170_ok (kC con198_ok (kC con199_ok (kC con201_ok kN)))))) fun args hp K h0=>by
 obtain⟨b,tables,n,rfl,rfl,h_b,h_tables,p0,p1,hK⟩:=g3e h0
 have h:ok (F.kL b tables n) (fun r=>K (dB r) []):=aB (F.tg b tables n h_b h_tables p0 p1) hK
 refine⟨rfl,ann155,aA,(.dat Ty.bool),(aI (by kernel_rfl)),?_⟩
 ·rw[vc155]
  exact(oG h fun g1 h=>(oG h fun g2 h=>(oG h fun _ h=>(oG h fun _ h=>(oC h (fun _ h=>⟨(aH (aH h_tables b.2.1).2.1 n),⟨h_b.2.2.2.2.2.2.1,(oG h fun _ h=>(oL h fun _ _ h=>(oL h fun _ _ h=>h)))⟩⟩) fun _ h=>⟨(aH (aH h_tables b.2.1).2.1 n),⟨h_b.2.2.1,(oG h fun _ h=>(oL h fun _ er3 h=>(Or.inl (⟨(gQ er3 (M.gv (aH (aH h_tables b.2.1).2.1 n) h_b.2.2.1)),(oC h (fun _ h=>h) fun _ h=>(oC h (fun _ h=>⟨g1,⟨g2,⟨(Int.natCast_nonneg 0),(oG h fun _ h=>(oG h fun _ h=>⟨rfl,⟨h_b.2.2.1,⟨(gQ er3 (M.gv (aH (aH h_tables b.2.1).2.1 n) h_b.2.2.1)),(oL h fun _ er4 h=>(Or.inr (⟨(oK (aH h_tables b.2.1).2.1 _),⟨(by rw[er4];exact h_b.2.2.1),⟨(by rw[er4];exact(gQ er3 (M.gv (aH (aH h_tables b.2.1).2.1 n) h_b.2.2.1))),(oG h fun _ h=>h)⟩⟩⟩)))⟩⟩⟩))⟩⟩⟩) fun _ h=>(oG h fun _ h=>(oG h fun _ h=>⟨h_b.2.2.2.2.1,⟨(gQ er3 (M.gv (aH (aH h_tables b.2.1).2.1 n) h_b.2.2.1)),(oL h fun _ er5 h=>(Or.inr (⟨(aH h_tables b.2.2.2.1).2.1,⟨(by rw[er5];exact h_b.2.2.2.2.1),⟨(by rw[er5];exact(gQ er3 (M.gv (aH (aH h_tables b.2.1).2.1 n) h_b.2.2.1))),(oG h fun _ h=>h)⟩⟩⟩)))⟩⟩))))⟩))))⟩⟩)))))
def c86:Con:=⟨[.dat ah,.dat TTb],fun args hp K=>g2 (pD ah) (pD TTb) (fun b tables=>(Sm ah b)/\(Sm TTb tables)/\((M.aF tables&&M.aN tables b)=true)/\K (dI (M.broken tables b)) []) args hp,.bor,false⟩
abbrev C86:Ctx:=cx [(155,c155)] 22 [] 0 false
def ann86:=an [[.fixRow 2 ah,kp 6],[kp 12294],[kp 28678],[kp 12326],[kp 536614],[kp 16],[kp 12294],[kp 16]] [[kp 0]]
abbrev s86_0 (b:ah.D) (tables:LTb) (i0:Int) (v0:Unit):St:=⟨[(1,.data TTb tables),(2,.adr ah b),(12,dI ((nT tables b.2.1).2.1.length:Int)),(13,dI i0)],[]⟩
abbrev LP86_0 (b:ah.D) (tables:LTb) (m:Nat) (st_:St) (K:KX):Prop:=True/\cu (s86_0 b tables) Z0 ((nT tables b.2.1).2.1.length:Int) (F.fH b tables) (fun v0:Unit=>True) (bA (fun v0:Unit=>True->K (.exit 0) (⟨[],[]⟩:St)) (fun q0:Int=>K .ret (⟨[(4,dI q0)],[]⟩:St))) m st_
def L86 (b:ah.D) (tables:LTb):bC:=lp1 0 (LP86_0 b tables)
theorem vc86 (b:ah.D) (tables:LTb) (K:KA):vcT C86 (L86 b tables) ann86 f86 [.data ah b,.data TTb tables] [] (.dat aD) K =
 ((0<=b.2.1)/\(b.2.1<(tables.length:Int))/\(∃m_,True/\cu (s86_0 b tables) Z0 ((nT tables b.2.1).2.1.length:Int) (F.fH b tables) (fun v0:Unit=>True) (bA (fun v0:Unit=>True->K (dI (-1:Int)) []) (fun q0:Int=>K (dI q0) [])) m_ (s86_0 b tables Z0 ()))):=by kernel_rfl
theorem lvc86_0 (b:ah.D) (tables:LTb)  (i0:Int) (v0:Unit) (m:Nat) (K:KX):lvT C86 (L86 b tables) ann86 f86 0 0 (s86_0 b tables i0 v0) m K =
 (cond (decide (i0<((nT tables b.2.1).2.1.length:Int))) ((Sm ah b)/\(Sm TTb tables)/\((M.aF tables&&M.aN tables b)=true)/\(0<=i0/\i0<((M.dD tables b).length:Int))/\cond (M.breaks tables b i0) (K .ret (⟨[(4,dI i0)],[]⟩:St)) (nxT (LP86_0 b tables) m K (s86_0 b tables (wrap64 (i0+Z1)) ()))) (K (.exit 0) (⟨[],[]⟩:St))):=by kernel_rfl
theorem con86_ok:aV P 86 c86:=aY C86 func86 (kC con155_ok kN) fun args hp K h0=>by
 obtain⟨b,tables,rfl,rfl,h_b,h_tables,p0,hK⟩:=g2e h0
 have h:ok (F.kA b tables) (fun r=>K (dI r) []):=aB (F.ta b tables h_b h_tables p0) hK
 refine⟨rfl,ann86,(L86 b tables),(.dat aD),(br (i0:=0) (by kernel_rfl) ?_),?_⟩
 ·rintro _ _ K ⟨hc0,i0,v0,rfl,hl0,rfl,hv0,h⟩
  exact cast (lvc86_0 _ _ _ _ _ _).symm (bJ h (fun ht0 h=>⟨h_b,⟨h_tables,(oG h fun _ h=>(oG h fun _ h=>(oC h (fun _ h=>h) fun _ h=>(bu (fun _ hm=>⟨hc0,hm⟩) _ rfl hl0 jk ht0 (bE (aH h_tables b.2.1).2.1) trivial h))))⟩⟩) fun h=>(h trivial))
 ·rw[vc86]
  exact(oG h fun _ h=>(oG h fun _ h=>(bp (fun m hm=>⟨trivial,hm⟩) Z0 _ rfl (Int.natCast_nonneg 0) trivial (aX h (fun v0 h hv0=>h) (fun q0 h=>h)))))
def c85:Con:=⟨[.dat ah,.any],fun args hp K=>g2 (pD ah) (pR TTb) (fun b out=>(Sm ah b)/\(Sm TTb out)/\((M.aF out&&M.aN out b)=true)/\K (dB (M.loose out b)) []) args hp,.plain,false⟩
abbrev C85:Ctx:=cx [(86,c86)] 12 [] 0 false
def ann85:=an [[.fixRow 2 ah,kp 6],[kp 8]] []
theorem vc85 (b:ah.D) (out:LTb) (K:KA):vcT C85 aA ann85 f85 [.data ah b,.ref (.data TTb out)] [] (.dat Ty.bool) K =
 (cond (b.2.2.2.2.2.1==true) ((Sm ah b)/\(Sm TTb out)/\((M.aF out&&M.aN out b)=true)/\K (dB (decide (Z0<=(M.broken out b)))) []) (K (dB false) [])):=by kernel_rfl
theorem con85_ok:aV P 85 c85:=aY C85 func85 (kC con86_ok kN) fun args hp K h0=>by
 obtain⟨b,out,rfl,rfl,h_b,h_out,p0,hK⟩:=g2e h0
 have h:ok (F.iK b out) (fun r=>K (dB r) []):=aB (F.qs b out h_b h_out p0) hK
 refine⟨rfl,ann85,aA,(.dat Ty.bool),(aI (by kernel_rfl)),?_⟩
 ·rw[vc85]
  exact(oC h (fun _ h=>⟨h_b,⟨h_out,⟨p0,h⟩⟩⟩) fun _ h=>h)
def c119:Con:=⟨[.dat ah,.any],fun args hp K=>g2 (pD ah) (pR TTb) (fun b tables=>(Sm ah b)/\(Sm TTb tables)/\((M.aF tables&&M.aN tables b)=true)/\K (dB (decide (0<=M.broken tables b))) []) args hp,.plain,false⟩
abbrev C119:Ctx:=cx [(86,c86)] 8 [] 0 false
def ann119:=an [[.fixRow 2 ah,kp 6],[kp 8]] []
theorem vc119 (b:ah.D) (tables:LTb) (K:KA):vcT C119 aA ann119 f119 [.data ah b,.ref (.data TTb tables)] [] (.dat Ty.bool) K =
 ((Sm ah b)/\(Sm TTb tables)/\((M.aF tables&&M.aN tables b)=true)/\K (dB (decide (Z0<=(M.broken tables b)))) []):=by kernel_rfl
theorem con119_ok:aV P 119 c119:=aY C119 func119 (kC con86_ok kN) fun args hp K h0=>by
 obtain⟨b,tables,rfl,rfl,h_b,h_tables,p0,hK⟩:=g2e h0
 have h:ok (F.xA b tables) (fun r=>K (dB r) []):=aB (F.Aa b tables h_b h_tables p0) hK
 refine⟨rfl,ann119,aA,(.dat Ty.bool),(aI (by kernel_rfl)),?_⟩
 ·rw[vc119]
  exact⟨h_b,⟨h_tables,⟨p0,h⟩⟩⟩
def c166:Con:=⟨[.dat aE,.dat TCS],fun args hp K=>g2 (pD aE) (pD TCS) (fun p columns=>(Sm aE p)/\(Sm TCS columns)/\K (dB (M.mg p columns)) []) args hp,.plain,false⟩
abbrev C166:Ctx:=cx [(131,c131),(132,c132)] 63 [] 0 false
def ann166:=an [[.fixRow 2 aE,kp 6],[kp 70],[kp 198],[kp 16],[kp 8388678],[kp 16],[kp 137438953540],[kp 16],[.keep [2,6,48]],[.keep [2,6,48]],[.keep [2,6,48]],[.keep [2,6,48]],[.keep [2,48]],[kp 16],[kp 16]] []
abbrev S166_0 (p:aE.D) (columns:LC) (K:KA):Prop:=cond ((decide (p.2.1=Z0))==true) (K (dB (Ty.beq aa p.2.2.1 (Z0,(Z0,((⟨#[]⟩:ByteArray),()))))) []) (K (dB false) [])
theorem vc166 (p:aE.D) (columns:LC) (K:KA):vcT C166 aA ann166 f166 [.data aE p,.data TCS columns] [] (.dat Ty.bool) K =
 (cond (decide (p.1=Z1)) (cond ((decide (p.2.1=Z0))==true) ((Sm aa p.2.2.1)/\cond ((M.aP p.2.2.1)==true) (K (dB (!decide (p.2.2.1.1=Z0))) []) (K (dB false) [])) (K (dB false) [])) (cond (decide (p.1=Z2)) (cond ((M.inR p.2.1 Z0 (wrap64 ((columns.length:Int)-Z1)))==true) (K (dB (Ty.beq aa p.2.2.1 (Z0,(Z0,((⟨#[]⟩:ByteArray),()))))) []) (K (dB false) [])) (cond (decide (p.1=Z4)) (cond ((M.inR p.2.1 Z1 Z4)==true) (K (dB (Ty.beq aa p.2.2.1 (Z0,(Z0,((⟨#[]⟩:ByteArray),()))))) []) (K (dB false) [])) (cond (decide (p.1=Z3)) (cond (decide (p.1=Z3)) (S166_0 p columns K) (K (dB false) [])) (cond (decide (p.1=Z5)) (cond (decide (p.1=Z5)) (S166_0 p columns K) (K (dB false) [])) (cond (decide (p.1=Z6)) (cond (decide (p.1=Z6)) (S166_0 p columns K) (K (dB false) [])) (cond (decide (p.1=(7:Int))) (cond (decide (p.1=(7:Int))) (S166_0 p columns K) (K (dB false) [])) (cond (decide (p.1=(8:Int))) (S166_0 p columns K) (K (dB false) []))))))))):=by kernel_rfl
theorem con166_ok:aV P 166 c166:=aY C166 func166 (kC con131_ok (kC con132_ok kN)) fun args hp K h0=>by
 obtain⟨p,columns,rfl,rfl,h_p,h_columns,hK⟩:=g2e h0
 have h:ok (F.lK p columns) (fun r=>K (dB r) []):=aB (F.uy p columns h_p h_columns) hK
 refine⟨rfl,ann166,aA,(.dat Ty.bool),(aI (by kernel_rfl)),?_⟩
 ·rw[vc166]
  exact(oC h (fun _ h=>(oC h (fun _ h=>⟨h_p.2.2.1,(oC h (fun _ h=>h) fun _ h=>h)⟩) fun _ h=>h)) fun _ h=>(oC h (fun _ h=>(oC h (fun _ h=>h) fun _ h=>h)) fun _ h=>(oC h (fun _ h=>(oC h (fun _ h=>h) fun _ h=>h)) fun _ h=>(oC h (fun b_8 h=>(fP b_8 (oC h (fun _ h=>h) fun _ h=>h))) fun _ h=>(oC h (fun b_11 h=>(fP b_11 (oC h (fun _ h=>h) fun _ h=>h))) fun _ h=>(oC h (fun b_14 h=>(fP b_14 (oC h (fun _ h=>h) fun _ h=>h))) fun _ h=>(oC h (fun b_17 h=>(fP b_17 (oC h (fun _ h=>h) fun _ h=>h))) fun _ h=>(oC h (fun _ h=>(oC h (fun _ h=>h) fun _ h=>h)) fun _ h=>h))))))))
def c210:Con:=⟨[.dat aD,.any],fun args hp K=>g2 (pD aD) (pR aD) (fun k kind=>K (dB (!decide (k=kind))) []) args hp,.plain,false⟩
abbrev C210:Ctx:=cx [] 7 [] 0 false
def ann210:=an [[kp 3],[kp 8]] []
theorem vc210 (k:Int) (kind:Int) (K:KA):vcT C210 aA ann210 f210 [dI k,.ref (dI kind)] [] (.dat Ty.bool) K =
 (K (dB (!decide (k=kind))) []):=by kernel_rfl
theorem con210_ok:aV P 210 c210:=aY C210 func210 kN fun args hp K h0=>by
 obtain⟨k,kind,rfl,rfl,hK⟩:=g2e h0
 have h:ok (F.mL k kind) (fun r=>K (dB r) []):=aB (F.qV k kind) hK
 refine⟨rfl,ann210,aA,(.dat Ty.bool),(aI (by kernel_rfl)),?_⟩
 ·rw[vc210]
  exact h
def c222:Con:=⟨[.dat aD,.any],fun args hp K=>g2 (pD aD) (pA ag) (fun n t=>(Sm ag t)/\K (dB (!M.inR n 0 (t.1.length-1))) []) args hp,.plain,false⟩
abbrev C222:Ctx:=cx [(132,c132)] 11 [] 0 false
def ann222:=an [[kp 3],[kp 8]] []
theorem vc222 (n:Int) (t:ag.D) (K:KA):vcT C222 aA ann222 f222 [dI n,.adr ag t] [] (.dat Ty.bool) K =
 (K (dB (!(M.inR n Z0 (wrap64 ((t.1.length:Int)-Z1))))) []):=by kernel_rfl
theorem con222_ok:aV P 222 c222:=aY C222 func222 (kC con132_ok kN) fun args hp K h0=>by
 obtain⟨n,t,rfl,rfl,h_t,hK⟩:=g2e h0
 have h:ok (F.ot n t) (fun r=>K (dB r) []):=aB (F.wv n t h_t) hK
 refine⟨rfl,ann222,aA,(.dat Ty.bool),(aI (by kernel_rfl)),?_⟩
 ·rw[vc222]
  exact h
def c237:Con:=⟨[.lent aD,.any],fun args hp K=>(args2 (fun a0 a1=>gw aD a0 fun xs=>gO 222 a1 (nX (fun b1_0=>Dt ag b1_0 fun k0=>(Sm (Ty.sl aD) xs)/\(Sm ag k0)/\K (dI (M.idx (t:=aD) (fun e=>!M.inR e 0 (k0.1.length-1)) xs)) []))) args hp)\/(args2 (fun a0 a1=>gw aD a0 fun xs=>gO 210 a1 (nX (fun b1_0=>lB aD b1_0 fun k0=>(Sm (Ty.sl aD) xs)/\K (dI (M.idx (t:=aD) (fun e=>!decide (e=k0)) xs)) []))) args hp),.plain,false⟩
abbrev C237:Ctx:=cx [(210,c210),(222,c222)] 19 [] 0 false
def ann237_v0:=an [[kp 3],[kp 387],[kp 899],[kp 419],[kp 65955],[kp 16],[kp 387],[kp 16]] [[kp 0]]
abbrev s237_0_v0 (xs:LI) (k0:ag.D) (i0:Int) (v0:Unit):St:=⟨[(0,.brw aD xs),(1,.fn 222 [.adr ag k0]),(7,dI (xs.length:Int)),(8,dI i0)],[]⟩
abbrev LP237_0_v0 (xs:LI) (k0:ag.D) (m:Nat) (st_:St) (K:KX):Prop:=True/\cu (s237_0_v0 xs k0) Z0 (xs.length:Int) (F.dy xs k0) (fun v0:Unit=>True) (bA (fun v0:Unit=>True->K (.exit 0) (⟨[],[]⟩:St)) (fun q0:Int=>K .ret (⟨[(4,dI q0)],[]⟩:St))) m st_
def L237_v0 (xs:LI) (k0:ag.D):bC:=lp1 0 (LP237_0_v0 xs k0)
theorem vc237_v0 (xs:LI) (k0:ag.D) (K:KA):vcT C237 (L237_v0 xs k0) ann237_v0 f237 [.brw aD xs,.fn 222 [.adr ag k0]] [] (.dat aD) K =
 (∃m_,True/\cu (s237_0_v0 xs k0) Z0 (xs.length:Int) (F.dy xs k0) (fun v0:Unit=>True) (bA (fun v0:Unit=>True->K (dI (-1:Int)) []) (fun q0:Int=>K (dI q0) [])) m_ (s237_0_v0 xs k0 Z0 ())):=by kernel_rfl
theorem lvc237_0_v0 (xs:LI) (k0:ag.D)  (i0:Int) (v0:Unit) (m:Nat) (K:KX):lvT C237 (L237_v0 xs k0) ann237_v0 f237 0 0 (s237_0_v0 xs k0 i0 v0) m K =
 (cond (decide (i0<(xs.length:Int))) ((0<=i0)/\(i0<(xs.length:Int))/\(Sm ag k0)/\cond (!M.inR (nI xs i0) 0 (k0.1.length-1)) (K .ret (⟨[(4,dI i0)],[]⟩:St)) (nxT (LP237_0_v0 xs k0) m K (s237_0_v0 xs k0 (wrap64 (i0+Z1)) ()))) (K (.exit 0) (⟨[],[]⟩:St))):=by kernel_rfl
def ann237_v1:=an [[kp 3],[kp 387],[kp 899],[kp 419],[kp 65955],[kp 16],[kp 387],[kp 16]] [[kp 0]]
abbrev s237_0_v1 (xs:LI) (k0:Int) (i0:Int) (v0:Unit):St:=⟨[(0,.brw aD xs),(1,.fn 210 [.ref (dI k0)]),(7,dI (xs.length:Int)),(8,dI i0)],[]⟩
abbrev LP237_0_v1 (xs:LI) (k0:Int) (m:Nat) (st_:St) (K:KX):Prop:=True/\cu (s237_0_v1 xs k0) Z0 (xs.length:Int) (F.cH xs k0) (fun v0:Unit=>True) (bA (fun v0:Unit=>True->K (.exit 0) (⟨[],[]⟩:St)) (fun q0:Int=>K .ret (⟨[(4,dI q0)],[]⟩:St))) m st_
def L237_v1 (xs:LI) (k0:Int):bC:=lp1 0 (LP237_0_v1 xs k0)
theorem vc237_v1 (xs:LI) (k0:Int) (K:KA):vcT C237 (L237_v1 xs k0) ann237_v1 f237 [.brw aD xs,.fn 210 [.ref (dI k0)]] [] (.dat aD) K =
 (∃m_,True/\cu (s237_0_v1 xs k0) Z0 (xs.length:Int) (F.cH xs k0) (fun v0:Unit=>True) (bA (fun v0:Unit=>True->K (dI (-1:Int)) []) (fun q0:Int=>K (dI q0) [])) m_ (s237_0_v1 xs k0 Z0 ())):=by kernel_rfl
theorem lvc237_0_v1 (xs:LI) (k0:Int)  (i0:Int) (v0:Unit) (m:Nat) (K:KX):lvT C237 (L237_v1 xs k0) ann237_v1 f237 0 0 (s237_0_v1 xs k0 i0 v0) m K =
 (cond (decide (i0<(xs.length:Int))) ((0<=i0)/\(i0<(xs.length:Int))/\cond (!decide ((nI xs i0)=k0)) (K .ret (⟨[(4,dI i0)],[]⟩:St)) (nxT (LP237_0_v1 xs k0) m K (s237_0_v1 xs k0 (wrap64 (i0+Z1)) ()))) (K (.exit 0) (⟨[],[]⟩:St))):=by kernel_rfl
theorem con237_ok:aV P 237 c237:=aY C237 func237 (kC con210_ok (kC con222_ok kN)) fun args hp K h0=>by
 rcases h0 with h0 | h0
 ·obtain⟨a0,a1,rfl,rfl,h1⟩:=bB h0
  obtain⟨xs,rfl,h2⟩:=bV h1
  obtain⟨cs1,rfl,h3⟩:=bZ h2
  obtain⟨b1_0,rfl,h4⟩:=eF h3
  obtain⟨k0,rfl,h5⟩:=ud h4
  obtain⟨h_xs,h_k0,hK⟩:=h5
  have h:ok (F.jw xs k0) (fun r=>K (dI r) []):=aB (F.nj xs k0 h_xs h_k0) hK
  refine⟨rfl,ann237_v0,(L237_v0 xs k0),(.dat aD),(br (i0:=0) (by kernel_rfl) ?_),?_⟩
  ·rintro _ _ K ⟨hc0,i0,v0,rfl,hl0,rfl,hv0,h⟩
   exact cast (lvc237_0_v0 _ _ _ _ _ _).symm (bJ h (fun ht0 h=>⟨hl0,⟨ht0,⟨h_k0,(oC h (fun _ h=>h) fun _ h=>(bu (fun _ hm=>⟨hc0,hm⟩) _ rfl hl0 jk ht0 (bE h_xs) trivial h))⟩⟩⟩) fun h=>(h trivial))
  ·rw[vc237_v0]
   exact(bp (fun m hm=>⟨trivial,hm⟩) Z0 _ rfl (Int.natCast_nonneg 0) trivial (aX h (fun v0 h hv0=>h) (fun q0 h=>h)))
 ·obtain⟨a0,a1,rfl,rfl,h1⟩:=bB h0
  obtain⟨xs,rfl,h2⟩:=bV h1
  obtain⟨cs1,rfl,h3⟩:=bZ h2
  obtain⟨b1_0,rfl,h4⟩:=eF h3
  obtain⟨k0,rfl,h5⟩:=de h4
  obtain⟨h_xs,hK⟩:=h5
  have h:ok (F.gz xs k0) (fun r=>K (dI r) []):=aB (F.ke xs k0 h_xs) hK
  refine⟨rfl,ann237_v1,(L237_v1 xs k0),(.dat aD),(br (i0:=0) (by kernel_rfl) ?_),?_⟩
  ·rintro _ _ K ⟨hc0,i0,v0,rfl,hl0,rfl,hv0,h⟩
   exact cast (lvc237_0_v1 _ _ _ _ _ _).symm (bJ h (fun ht0 h=>⟨hl0,⟨ht0,(oC h (fun _ h=>h) fun _ h=>(bu (fun _ hm=>⟨hc0,hm⟩) _ rfl hl0 jk ht0 (bE h_xs) trivial h))⟩⟩) fun h=>(h trivial))
  ·rw[vc237_v1]
   exact(bp (fun m hm=>⟨trivial,hm⟩) Z0 _ rfl (Int.natCast_nonneg 0) trivial (aX h (fun v0 h hv0=>h) (fun q0 h=>h)))
def c209:Con:=⟨[.lent aD,.any],fun args hp K=>(args2 (fun a0 a1=>gw aD a0 fun xs=>gO 222 a1 (nX (fun b1_0=>Dt ag b1_0 fun k0=>(Sm (Ty.sl aD) xs)/\(Sm ag k0)/\K (dB (List.any xs (fun e=>!M.inR e 0 (k0.1.length-1)))) []))) args hp)\/(args2 (fun a0 a1=>gw aD a0 fun xs=>gO 210 a1 (nX (fun b1_0=>lB aD b1_0 fun k0=>(Sm (Ty.sl aD) xs)/\K (dB (List.any xs (fun e=>!decide (e=k0)))) []))) args hp),.plain,false⟩
abbrev C209:Ctx:=cx [(210,c210),(222,c222),(237,c237)] 9 [] 0 false
def ann209_v0:=an [[kp 3],[kp 16]] []
theorem vc209_v0 (xs:LI) (k0:ag.D) (K:KA):vcT C209 aA ann209_v0 f209 [.brw aD xs,.fn 222 [.adr ag k0]] [] (.dat Ty.bool) K =
 (((Sm (Ty.sl aD) xs)/\(Sm ag k0)/\K (dB (decide (Z0<=(M.idx (t:=aD) (fun e=>!M.inR e 0 (k0.1.length-1)) xs)))) [])\/False):=by kernel_rfl
def ann209_v1:=an [[kp 3],[kp 16]] []
theorem vc209_v1 (xs:LI) (k0:Int) (K:KA):vcT C209 aA ann209_v1 f209 [.brw aD xs,.fn 210 [.ref (dI k0)]] [] (.dat Ty.bool) K =
 (False\/((Sm (Ty.sl aD) xs)/\K (dB (decide (Z0<=(M.idx (t:=aD) (fun e=>!decide (e=k0)) xs)))) [])):=by kernel_rfl
theorem con209_ok:aV P 209 c209:=aY C209 func209 (kC con210_ok (kC con222_ok (kC con237_ok kN))) fun args hp K h0=>by
 rcases h0 with h0 | h0
 ·obtain⟨a0,a1,rfl,rfl,h1⟩:=bB h0
  obtain⟨xs,rfl,h2⟩:=bV h1
  obtain⟨cs1,rfl,h3⟩:=bZ h2
  obtain⟨b1_0,rfl,h4⟩:=eF h3
  obtain⟨k0,rfl,h5⟩:=ud h4
  obtain⟨h_xs,h_k0,hK⟩:=h5
  have h:ok (F.eS xs k0) (fun r=>K (dB r) []):=aB (F.lg xs k0 h_xs h_k0) hK
  refine⟨rfl,ann209_v0,aA,(.dat Ty.bool),(aI (by kernel_rfl)),?_⟩
  ·rw[vc209_v0]
   exact(Or.inl (⟨h_xs,⟨h_k0,h⟩⟩))
 ·obtain⟨a0,a1,rfl,rfl,h1⟩:=bB h0
  obtain⟨xs,rfl,h2⟩:=bV h1
  obtain⟨cs1,rfl,h3⟩:=bZ h2
  obtain⟨b1_0,rfl,h4⟩:=eF h3
  obtain⟨k0,rfl,h5⟩:=de h4
  obtain⟨h_xs,hK⟩:=h5
  have h:ok (F.dF xs k0) (fun r=>K (dB r) []):=aB (F.jj xs k0 h_xs) hK
  refine⟨rfl,ann209_v1,aA,(.dat Ty.bool),(aI (by kernel_rfl)),?_⟩
  ·rw[vc209_v1]
   exact(Or.inr (⟨h_xs,h⟩))
def c208:Con:=⟨[.dat aD,.any],fun args hp K=>g2 (pD aD) (pQ aD) (fun kind ins=>(Sm (Ty.sl aD) ins)/\K (dB (List.all ins (fun k=>decide (k=kind)))) []) args hp,.plain,false⟩
abbrev C208:Ctx:=cx [(209,c209),(210,c210)] 8 [] 0 false
def ann208:=an [[.fixBox 2,kp 6],[kp 8]] []
theorem vc208 (kind:Int) (ins:LI) (K:KA):vcT C208 aA ann208 f208 [dI kind,.ref (.brw aD ins)] [] (.dat Ty.bool) K =
 (False\/((Sm (Ty.sl aD) ins)/\K (dB (!(List.any ins (fun e=>!decide (e=kind))))) [])):=by kernel_rfl
theorem con208_ok:aV P 208 c208:=aY C208 func208 (kC con209_ok (kC con210_ok kN)) fun args hp K h0=>by
 obtain⟨kind,ins,rfl,rfl,h_ins,hK⟩:=g2e h0
 have h:ok (F.kM kind ins) (fun r=>K (dB r) []):=aB (F.sY kind ins h_ins) hK
 refine⟨rfl,ann208,aA,(.dat Ty.bool),(aI (by kernel_rfl)),?_⟩
 ·rw[vc208]
  exact(Or.inr (⟨h_ins,h⟩))
def c167:Con:=⟨[.dat aE,.dat TCS,.lent aD],fun args hp K=>g3 (pD aE) (pD TCS) (pB aD) (fun p columns inp=>(Sm aE p)/\(Sm TCS columns)/\(Sm (Ty.sl aD) inp)/\(M.mg p columns=true)/\((inp.length:Int)=M.takes p)/\(LD (M.cV p columns inp) fun r=>K (.tup [dI r.1,dB r.2]) [])) args hp,.plain,false⟩
abbrev C167:Ctx:=cx [(208,c208)] 42 [] 0 false
def ann167:=an [[.fixRow 3 aE,.fixBox 5,kp 42],[kp 298],[kp 2346],[kp 6442],[kp 192],[kp 133418],[kp 192],[kp 33556768],[kp 192],[kp 536873248],[kp 192],[.keep [8,38]],[kp 192],[kp 192]] []
theorem vc167 (p:aE.D) (columns:LC) (inp:LI) (K:KA):vcT C167 aA ann167 f167 [.data aE p,.data TCS columns,.brw aD inp] [] (.tup [aD,Ty.bool]) K =
 (cond (decide (p.1=Z1)) (K (.tup [dI p.2.2.1.1,dB true]) []) (cond (decide (p.1=Z2)) ((0<=p.2.1)/\(p.2.1<(columns.length:Int))/\K (.tup [dI (nC columns p.2.1).1,dB true]) []) (cond (decide (p.1=Z3)) ((Sm (Ty.sl aD) inp)/\K (.tup [dI Z1,dB (List.all inp (fun k=>decide (k=Z1)))]) []) (cond (decide (p.1=Z4)) ((0<=Z0)/\(Z0<(inp.length:Int))/\(0<=Z1)/\(Z1<(inp.length:Int))/\K (.tup [dI Z3,dB (decide ((nI inp Z0)=(nI inp Z1)))]) []) (cond (decide (p.1=(8:Int))) (K (.tup [dI Z3,dB true]) []) ((Sm (Ty.sl aD) inp)/\K (.tup [dI Z3,dB (List.all inp (fun k=>decide (k=Z3)))]) [])))))):=by kernel_rfl
theorem con167_ok:aV P 167 c167:=aY C167 func167 (kC con208_ok kN) fun args hp K h0=>by
 obtain⟨p,columns,inp,rfl,rfl,h_p,h_columns,h_inp,p0,p1,hK⟩:=g3e h0
 have h:ok (F.nx p columns inp) (fun r=>K (.tup [dI r.1,dB r.2]) []):=aB (F.vF p columns inp h_p h_columns h_inp p0 p1) (hK _ rfl)
 refine⟨rfl,ann167,aA,(.tup [aD,Ty.bool]),(aI (by kernel_rfl)),?_⟩
 ·rw[vc167]
  exact(oC h (fun _ h=>h) fun _ h=>(oC h (fun _ h=>(oG h fun _ h=>(oG h fun _ h=>h))) fun _ h=>(oC h (fun _ h=>⟨h_inp,h⟩) fun _ h=>(oC h (fun _ h=>⟨(Int.natCast_nonneg 0),(oG h fun _ h=>⟨(Int.natCast_nonneg 1),(oG h fun _ h=>h)⟩)⟩) fun _ h=>(oC h (fun _ h=>h) fun _ h=>⟨h_inp,h⟩)))))
def c99:Con:=⟨[.dat TCS,.dat TPS],fun args hp K=>g2 (pD TCS) (pD TPS) (fun columns e=>(Sm TCS columns)/\(Sm TPS e)/\K (dI (M.dL columns e)) []) args hp,.plain,false⟩
abbrev C99:Ctx:=cx [(75,c75),(165,c165),(166,c166),(167,c167)] 67 [] 0 false
def ann99:=an [[kp 3],[kp 262147],[kp 16],[kp 35],[kp 3670049],[kp 7864353],[.fixRow 7 aE,kp 3670177],[kp 3670433],[kp 68723147169],[kp 16],[kp 3671841],[kp 1125899910513441],[kp 16],[kp 3670049],[kp 3670049],[.keep [5,63]],[kp 16],[kp 16]] [[kp 32]]
abbrev s99_0 (columns:LC) (e:LPt) (i0:Int) (v0:LI):St:=⟨[(0,.data TCS columns),(5,.own 5 none),(19,.data TPS e),(20,dI (e.length:Int)),(21,dI i0)],[(5,.arr .sh aD v0)]⟩
abbrev LP99_0 (columns:LC) (e:LPt) (m:Nat) (st_:St) (K:KX):Prop:=True/\cN (t:=aE) (s99_0 columns e) e (F.eP columns e) (fun v0:LI=>True) (bA (fun v0:LI=>True->K (.exit 0) (⟨[(5,.own 5 none)],[(5,.arr .sh aD v0)]⟩:St)) (fun q0:Unit=>K .ret (⟨[(4,dI (-1:Int))],[]⟩:St))) m st_
def L99 (columns:LC) (e:LPt):bC:=lp1 0 (LP99_0 columns e)
theorem vc99 (columns:LC) (e:LPt) (K:KA):vcT C99 (L99 columns e) ann99 f99 [.data TCS columns,.data TPS e] [] (.dat aD) K =
 ((Sm TCS columns)/\cond ((!(M.bM columns))==false) (cond (decide ((12:Int)<(e.length:Int))) (K (dI (-1:Int)) []) (∃m_,True/\cN (t:=aE) (s99_0 columns e) e (F.eP columns e) (fun v0:LI=>True) (bA (fun v0:LI=>True->cond (!decide ((v0.length:Int)=Z1)) (K (dI (-1:Int)) []) ((0<=Z0)/\(Z0<(v0.length:Int))/\K (dI (nI v0 Z0)) [])) (fun q0:Unit=>K (dI (-1:Int)) [])) m_ (s99_0 columns e Z0 []))) (K (dI (-1:Int)) [])):=by kernel_rfl
theorem lvc99_0 (columns:LC) (e:LPt)  (i0:Int) (v0:LI) (m:Nat) (K:KX):lvT C99 (L99 columns e) ann99 f99 0 0 (s99_0 columns e i0 v0) m K =
 (cond (decide (i0<(e.length:Int))) ((0<=i0)/\(i0<(e.length:Int))/\(Sm aE (nP e i0))/\(Sm aE (nP e i0))/\(Sm TCS columns)/\cond ((!(M.mg (nP e i0) columns))==false) (cond (decide ((v0.length:Int)<(M.takes (nP e i0)))) (K .ret (⟨[(4,dI (-1:Int))],[]⟩:St)) ((0<=wrap64 ((v0.length:Int)-(M.takes (nP e i0))))/\(wrap64 ((v0.length:Int)-(M.takes (nP e i0)))<=(v0.length:Int))/\((v0.length:Int)<=(v0.length:Int))/\((v0.length:Int)=(v0.length:Int))/\(Sm aE (nP e i0))/\(Sm TCS columns)/\(Sm (Ty.sl aD) (aC v0 (some (wrap64 ((v0.length:Int)-(M.takes (nP e i0))),(v0.length:Int)))))/\(M.mg (nP e i0) columns=true)/\(((aC v0 (some (wrap64 ((v0.length:Int)-(M.takes (nP e i0))),(v0.length:Int)))).length:Int)=M.takes (nP e i0))/\(LD (M.cV (nP e i0) columns (aC v0 (some (wrap64 ((v0.length:Int)-(M.takes (nP e i0))),(v0.length:Int))))) fun r1=>cond (!r1.2) (K .ret (⟨[(4,dI (-1:Int))],[]⟩:St)) ((0<=Z0)/\(Z0<=wrap64 ((v0.length:Int)-(M.takes (nP e i0))))/\(wrap64 ((v0.length:Int)-(M.takes (nP e i0)))<=(v0.length:Int))/\(wrap64 ((v0.length:Int)-(M.takes (nP e i0)))=wrap64 ((v0.length:Int)-(M.takes (nP e i0))))/\(Z0=0)/\(((wrap64 ((v0.length:Int)-(M.takes (nP e i0)))).toNat+[r1.1].length) * 8<=lim)/\(nxT (LP99_0 columns e) m K (s99_0 columns e (wrap64 (i0+Z1)) (v0.take (wrap64 ((v0.length:Int)-(M.takes (nP e i0)))).toNat++[r1.1]))))))) (K .ret (⟨[(4,dI (-1:Int))],[]⟩:St))) (K (.exit 0) (⟨[(5,.own 5 none)],[(5,.arr .sh aD v0)]⟩:St))):=by kernel_rfl
theorem con99_ok:aV P 99 c99:=aY C99 func99 (kC con75_ok (kC con165_ok (kC con166_ok (kC con167_ok kN)))) fun args hp K h0=>by
 obtain⟨columns,e,rfl,rfl,h_columns,h_e,hK⟩:=g2e h0
 have h:ok (F.ou columns e) (fun r=>K (dI r) []):=aB (F.wQ columns e h_columns h_e) hK
 refine⟨rfl,ann99,(L99 columns e),(.dat aD),(br (i0:=0) (by kernel_rfl) ?_),?_⟩
 ·rintro _ _ K ⟨hc0,i0,v0,rfl,hl0,rfl,hv0,h⟩
  exact cast (lvc99_0 _ _ _ _ _ _).symm (cj (t:=aE) hl0 h (fun ht0 h=>⟨hl0,⟨ht0,⟨(aH h_e i0),⟨(aH h_e i0),⟨h_columns,(oC h (fun b_37 h=>(oC h (fun _ h=>h) fun _ h=>(oG h fun _ h=>(oG h fun g1 h=>⟨(Int.le_refl _),⟨rfl,⟨(aH h_e i0),⟨h_columns,(oG h fun _ h=>⟨(bnf (bgt b_37)),(oG h fun _ h=>(oL h fun _ _ h=>(oC h (fun _ h=>h) fun _ h=>⟨(Int.natCast_nonneg 0),(oG h fun _ h=>⟨g1,⟨rfl,⟨rfl,(oG h fun _ h=>(bF (t:=aE) (fun _ hm=>⟨hc0,hm⟩) _ rfl hl0 ht0 (bE h_e) trivial h))⟩⟩⟩)⟩)))⟩)⟩⟩⟩⟩)))) fun _ h=>h)⟩⟩⟩⟩⟩) fun h=>(h trivial))
 ·rw[vc99]
  exact⟨h_columns,(oC h (fun _ h=>(oC h (fun _ h=>h) fun _ h=>(bN (t:=aE) (fun m hm=>⟨trivial,hm⟩) _ rfl trivial (aX h (fun v0 h hv0=>(oC h (fun _ h=>h) fun _ h=>⟨(Int.natCast_nonneg 0),(oG h fun _ h=>h)⟩)) (fun q0 h=>h))))) fun _ h=>h)⟩
def c194:Con:=⟨[.dat ag,.dat (Ty.sl aD)],fun args hp K=>g2 (pD ag) (pD (Ty.sl aD)) (fun t list=>(Sm ag t)/\(Sm (Ty.sl aD) list)/\K (dB (M.cz t.1 list)) []) args hp,.plain,false⟩
abbrev C194:Ctx:=cx [(132,c132),(209,c209),(222,c222)] 14 [] 0 false
def ann194:=an [[.fixRow 2 ag,kp 6],[kp 16]] []
theorem vc194 (t:ag.D) (list:LI) (K:KA):vcT C194 aA ann194 f194 [.data ag t,.data (Ty.sl aD) list] [] (.dat Ty.bool) K =
 (cond ((M.inR (list.length:Int) Z1 Z4)==true) (((Sm (Ty.sl aD) list)/\(Sm ag t)/\K (dB (!(List.any list (fun e=>!M.inR e 0 (t.1.length-1))))) [])\/False) (K (dB false) [])):=by kernel_rfl
theorem con194_ok:aV P 194 c194:=aY C194 func194 (kC con132_ok (kC con209_ok (kC con222_ok kN))) fun args hp K h0=>by
 obtain⟨t,list,rfl,rfl,h_t,h_list,hK⟩:=g2e h0
 have h:ok (F.sy t list) (fun r=>K (dB r) []):=aB (F.Ab t list h_t h_list) hK
 refine⟨rfl,ann194,aA,(.dat Ty.bool),(aI (by kernel_rfl)),?_⟩
 ·rw[vc194]
  exact(oC h (fun _ h=>(Or.inl (⟨h_list,⟨h_t,h⟩⟩))) fun _ h=>h)
def c141:Con:=⟨[.dat TTb,.dat ah],fun args hp K=>g2 (pD TTb) (pD ah) (fun tables b=>(Sm TTb tables)/\(Sm ah b)/\K (dB (M.aN tables b)) []) args hp,.plain,false⟩
abbrev C141:Ctx:=cx [(99,c99),(132,c132),(194,c194)] 141 [] 0 false
def ann141:=an [[.fixRow 3 ah,kp 9],[kp 32777],[kp 16],[.fixRow 5 ag,kp 41],[kp 105],[kp 68719476841],[kp 206158430313],[kp 16],[kp 4503668346847337],[kp 16],[.keep [0,3,5,69]],[.keep [0,3,5,110]],[kp 16],[.keep [0,3,5,112,113,114]],[.keep [0,3,5,112,113,114,115]],[.keep [0,3,5,7,8,112,113,114]],[.keep [0,3,5,112,113,114,139]],[kp 16],[.keep [0,3,5,112,113,114]],[kp 16],[kp 16]] [[],[kp 0]]
abbrev s141_1 (tables:LTb) (b:ah.D) (i1:Int) (v1:Unit):St:=⟨[(0,.data TTb tables),(3,.adr ah b),(5,.adr ag (nT tables b.2.1)),(112,.data (Ty.sl aD) b.2.2.1),(113,dI (b.2.2.1.length:Int)),(114,dI i1)],[]⟩
abbrev LP141_1 (tables:LTb) (b:ah.D) (m:Nat) (st_:St) (K:KX):Prop:=True/\cu (s141_1 tables b) Z0 (b.2.2.1.length:Int) (F.fK tables b) (fun v1:Unit=>True) (bA (fun v1:Unit=>True->K (.exit 1) (⟨[],[]⟩:St)) (fun q1:Unit=>K .ret (⟨[(4,dB false)],[]⟩:St))) m st_
def L141 (tables:LTb) (b:ah.D):bC:=lp1 1 (LP141_1 tables b)
abbrev S141_0 (tables:LTb) (b:ah.D) (K:KA):Prop:=cond (decide (b.1=Z2)) (cond ((!(M.inR b.2.2.2.1 Z0 (wrap64 ((tables.length:Int)-Z1))))==false) (cond ((decide (Z0<(b.2.2.2.2.2.2.1.length:Int)))==false) ((Sm ag (nT tables b.2.1))/\(Sm (Ty.sl aD) b.2.2.1)/\cond ((!(M.cz (nT tables b.2.1).1 b.2.2.1))==false) ((0<=b.2.2.2.1)/\(b.2.2.2.1<(tables.length:Int))/\(Sm ag (nT tables b.2.2.2.1))/\(Sm (Ty.sl aD) b.2.2.2.2.1)/\cond ((!(M.cz (nT tables b.2.2.2.1).1 b.2.2.2.2.1))==false) (cond (!decide ((b.2.2.2.2.1.length:Int)=(b.2.2.1.length:Int))) (K (dB false) []) (∃m_,True/\cu (s141_1 tables b) Z0 (b.2.2.1.length:Int) (F.fK tables b) (fun v1:Unit=>True) (bA (fun v1:Unit=>True->K (dB true) []) (fun q1:Unit=>K (dB false) [])) m_ (s141_1 tables b Z0 ()))) (K (dB false) [])) (K (dB false) [])) (K (dB false) [])) (K (dB false) [])) (K (dB false) [])
abbrev S141_1 (tables:LTb) (b:ah.D) (K:KA):Prop:=cond (decide (b.1=Z1)) ((Sm ag (nT tables b.2.1))/\(Sm (Ty.sl aD) b.2.2.1)/\cond ((M.cz (nT tables b.2.1).1 b.2.2.1)==true) (K (dB false) []) (K (dB false) [])) (cond (decide (b.1=Z3)) ((Sm TCS (nT tables b.2.1).1)/\(Sm TPS b.2.2.2.2.2.2.1)/\cond ((decide ((M.dL (nT tables b.2.1).1 b.2.2.2.2.2.2.1)=Z3))==true) (K (dB false) []) (K (dB false) [])) (S141_0 tables b K))
theorem vc141 (tables:LTb) (b:ah.D) (K:KA):vcT C141 (L141 tables b) ann141 f141 [.data TTb tables,.data ah b] [] (.dat Ty.bool) K =
 (cond (!(M.inR b.2.1 Z0 (wrap64 ((tables.length:Int)-Z1)))) (K (dB false) []) ((0<=b.2.1)/\(b.2.1<(tables.length:Int))/\cond ((decide (b.2.2.2.1=Z0))==true) (cond ((decide ((b.2.2.2.2.1.length:Int)=Z0))==true) (cond (decide (b.1=Z1)) ((Sm ag (nT tables b.2.1))/\(Sm (Ty.sl aD) b.2.2.1)/\cond ((M.cz (nT tables b.2.1).1 b.2.2.1)==true) (cond ((!b.2.2.2.2.2.1)==true) (K (dB (decide ((b.2.2.2.2.2.2.1.length:Int)=Z0))) []) (K (dB false) [])) (K (dB false) [])) (cond (decide (b.1=Z3)) ((Sm TCS (nT tables b.2.1).1)/\(Sm TPS b.2.2.2.2.2.2.1)/\cond ((decide ((M.dL (nT tables b.2.1).1 b.2.2.2.2.2.2.1)=Z3))==true) (cond ((!b.2.2.2.2.2.1)==true) (K (dB (decide ((b.2.2.1.length:Int)=Z0))) []) (K (dB false) [])) (K (dB false) [])) (S141_0 tables b K))) (S141_1 tables b K)) (S141_1 tables b K))):=by kernel_rfl
theorem lvc141_0 (tables:LTb) (b:ah.D)  (i1:Int) (v1:Unit) (m:Nat) (K:KX):lvT C141 (L141 tables b) ann141 f141 0 1 (s141_1 tables b i1 v1) m K =
 (cond (decide (i1<(b.2.2.1.length:Int))) ((0<=i1)/\(i1<(b.2.2.1.length:Int))/\(0<=(nI b.2.2.1 i1))/\((nI b.2.2.1 i1)<((nT tables b.2.1).1.length:Int))/\(0<=b.2.2.2.1)/\(b.2.2.2.1<(tables.length:Int))/\(0<=i1)/\(i1<(b.2.2.2.2.1.length:Int))/\(0<=(nI b.2.2.2.2.1 i1))/\((nI b.2.2.2.2.1 i1)<((nT tables b.2.2.2.1).1.length:Int))/\cond (!decide ((nC (nT tables b.2.1).1 (nI b.2.2.1 i1)).1=(nC (nT tables b.2.2.2.1).1 (nI b.2.2.2.2.1 i1)).1)) (K .ret (⟨[(4,dB false)],[]⟩:St)) (nxT (LP141_1 tables b) m K (s141_1 tables b (wrap64 (i1+Z1)) ()))) (K (.exit 1) (⟨[],[]⟩:St))):=by kernel_rfl
theorem con141_ok:aV P 141 c141:=aY C141 func141 (kC con99_ok (kC con132_ok (kC con194_ok kN))) fun args hp K h0=>by
 obtain⟨tables,b,rfl,rfl,h_tables,h_b,hK⟩:=g2e h0
 have h:ok (F.rO tables b) (fun r=>K (dB r) []):=aB (F.yV tables b h_tables h_b) hK
 refine⟨rfl,ann141,(L141 tables b),(.dat Ty.bool),(br (i0:=1) (by kernel_rfl) ?_),?_⟩
 ·rintro _ _ K ⟨hc1,i1,v1,rfl,hl1,rfl,hv1,h⟩
  exact cast (lvc141_0 _ _ _ _ _ _).symm (bJ h (fun ht1 h=>⟨hl1,⟨ht1,(oG h fun _ h=>(oG h fun _ h=>(oG h fun _ h=>(oG h fun _ h=>⟨hl1,(oG h fun _ h=>(oG h fun _ h=>(oG h fun _ h=>(oC h (fun _ h=>h) fun _ h=>(bu (fun _ hm=>⟨hc1,hm⟩) _ rfl hl1 jk ht1 (bE h_b.2.2.1) trivial h)))))⟩))))⟩⟩) fun h=>(h trivial))
 ·rw[vc141]
  exact(oC h (fun _ h=>h) fun b_1 h=>⟨(kE (bnf b_1)),⟨(oh (bnf b_1)),(oC h (fun _ h=>(oC h (fun _ h=>(oC h (fun _ h=>⟨(aH h_tables b.2.1),⟨h_b.2.2.1,(oC h (fun _ h=>(oC h (fun _ h=>h) fun _ h=>h)) fun _ h=>h)⟩⟩) fun _ h=>(oC h (fun _ h=>⟨(aH h_tables b.2.1).1,⟨h_b.2.2.2.2.2.2.1,(oC h (fun _ h=>(oC h (fun _ h=>h) fun _ h=>h)) fun _ h=>h)⟩⟩) fun _ h=>(oC h (fun _ h=>(oC h (fun b_11 h=>(oC h (fun _ h=>⟨(aH h_tables b.2.1),⟨h_b.2.2.1,(oC h (fun _ h=>⟨(kE (bnf (bgt b_11))),⟨(oh (bnf (bgt b_11))),⟨(aH h_tables b.2.2.2.1),⟨h_b.2.2.2.2.1,(oC h (fun _ h=>(oC h (fun _ h=>h) fun _ h=>(bp (fun m hm=>⟨trivial,hm⟩) Z0 _ rfl (Int.natCast_nonneg 0) trivial (aX h (fun v1 h hv1=>h) (fun q1 h=>h))))) fun _ h=>h)⟩⟩⟩⟩) fun _ h=>h)⟩⟩) fun _ h=>h)) fun _ h=>h)) fun _ h=>h)))) fun _ h=>(oC h (fun _ h=>⟨(aH h_tables b.2.1),⟨h_b.2.2.1,(oC h (fun _ h=>h) fun _ h=>h)⟩⟩) fun _ h=>(oC h (fun _ h=>⟨(aH h_tables b.2.1).1,⟨h_b.2.2.2.2.2.2.1,(oC h (fun _ h=>h) fun _ h=>h)⟩⟩) fun _ h=>(oC h (fun _ h=>(oC h (fun b_51 h=>(oC h (fun _ h=>⟨(aH h_tables b.2.1),⟨h_b.2.2.1,(oC h (fun _ h=>⟨(kE (bnf (bgt b_51))),⟨(oh (bnf (bgt b_51))),⟨(aH h_tables b.2.2.2.1),⟨h_b.2.2.2.2.1,(oC h (fun _ h=>(oC h (fun _ h=>h) fun _ h=>(bp (fun m hm=>⟨trivial,hm⟩) Z0 _ rfl (Int.natCast_nonneg 0) trivial (aX h (fun v1 h hv1=>h) (fun q1 h=>h))))) fun _ h=>h)⟩⟩⟩⟩) fun _ h=>h)⟩⟩) fun _ h=>h)) fun _ h=>h)) fun _ h=>h))))) fun _ h=>(oC h (fun _ h=>⟨(aH h_tables b.2.1),⟨h_b.2.2.1,(oC h (fun _ h=>h) fun _ h=>h)⟩⟩) fun _ h=>(oC h (fun _ h=>⟨(aH h_tables b.2.1).1,⟨h_b.2.2.2.2.2.2.1,(oC h (fun _ h=>h) fun _ h=>h)⟩⟩) fun _ h=>(oC h (fun _ h=>(oC h (fun b_61 h=>(oC h (fun _ h=>⟨(aH h_tables b.2.1),⟨h_b.2.2.1,(oC h (fun _ h=>⟨(kE (bnf (bgt b_61))),⟨(oh (bnf (bgt b_61))),⟨(aH h_tables b.2.2.2.1),⟨h_b.2.2.2.2.1,(oC h (fun _ h=>(oC h (fun _ h=>h) fun _ h=>(bp (fun m hm=>⟨trivial,hm⟩) Z0 _ rfl (Int.natCast_nonneg 0) trivial (aX h (fun v1 h hv1=>h) (fun q1 h=>h))))) fun _ h=>h)⟩⟩⟩⟩) fun _ h=>h)⟩⟩) fun _ h=>h)) fun _ h=>h)) fun _ h=>h))))⟩⟩)
def c140:Con:=⟨[.dat ah,.any],fun args hp K=>g2 (pD ah) (pR TTb) (fun b tables=>(Sm ah b)/\(Sm TTb tables)/\K (dB (!M.aN tables b)) []) args hp,.plain,false⟩
abbrev C140:Ctx:=cx [(141,c141)] 8 [] 0 false
def ann140:=an [[.fixRow 2 ah,kp 6],[kp 8]] []
theorem vc140 (b:ah.D) (tables:LTb) (K:KA):vcT C140 aA ann140 f140 [.data ah b,.ref (.data TTb tables)] [] (.dat Ty.bool) K =
 ((Sm TTb tables)/\(Sm ah b)/\K (dB (!(M.aN tables b))) []):=by kernel_rfl
theorem con140_ok:aV P 140 c140:=aY C140 func140 (kC con141_ok kN) fun args hp K h0=>by
 obtain⟨b,tables,rfl,rfl,h_b,h_tables,hK⟩:=g2e h0
 have h:ok (F.rP b tables) (fun r=>K (dB r) []):=aB (F.vJ b tables h_b h_tables) hK
 refine⟨rfl,ann140,aA,(.dat Ty.bool),(aI (by kernel_rfl)),?_⟩
 ·rw[vc140]
  exact⟨h_tables,⟨h_b,h⟩⟩
def c84:Con:=⟨[.dat (Ty.sl ah),.any],fun args hp K=>(args2 (fun a0 a1=>eX (Ty.sl ah) a0 fun xs=>gO 85 a1 (nX (fun b1_0=>lB TTb b1_0 fun k0=>(Sm (Ty.sl ah) xs)/\(Sm TTb k0)/\(∀e∈xs,(M.aF k0&&M.aN k0 e)=true)/\K (dI (M.idx (t:=ah) (fun e=>M.loose k0 e) xs)) []))) args hp)\/(args2 (fun a0 a1=>eX (Ty.sl ah) a0 fun xs=>gO 119 a1 (nX (fun b1_0=>lB TTb b1_0 fun k0=>(Sm (Ty.sl ah) xs)/\(Sm TTb k0)/\(∀e∈xs,(M.aF k0&&M.aN k0 e)=true)/\K (dI (M.idx (t:=ah) (fun e=>decide (0<=M.broken k0 e)) xs)) []))) args hp)\/(args2 (fun a0 a1=>eX (Ty.sl ah) a0 fun xs=>gO 140 a1 (nX (fun b1_0=>lB TTb b1_0 fun k0=>(Sm (Ty.sl ah) xs)/\(Sm TTb k0)/\K (dI (M.idx (t:=ah) (fun e=>!M.aN k0 e) xs)) []))) args hp),.bor,false⟩
abbrev C84:Ctx:=cx [(85,c85),(119,c119),(140,c140)] 19 [] 0 false
def ann84_v0:=an [[kp 3],[kp 387],[kp 899],[kp 419],[kp 65955],[kp 16],[kp 387],[kp 16]] [[kp 0]]
abbrev s84_0_v0 (xs:(List ah.D)) (k0:LTb) (i0:Int) (v0:Unit):St:=⟨[(0,.data (Ty.sl ah) xs),(1,.fn 85 [.ref (.data TTb k0)]),(7,dI (xs.length:Int)),(8,dI i0)],[]⟩
abbrev LP84_0_v0 (xs:(List ah.D)) (k0:LTb) (m:Nat) (st_:St) (K:KX):Prop:=True/\cu (s84_0_v0 xs k0) Z0 (xs.length:Int) (F.cE xs k0) (fun v0:Unit=>True) (bA (fun v0:Unit=>True->K (.exit 0) (⟨[],[]⟩:St)) (fun q0:Int=>K .ret (⟨[(4,dI q0)],[]⟩:St))) m st_
def L84_v0 (xs:(List ah.D)) (k0:LTb):bC:=lp1 0 (LP84_0_v0 xs k0)
theorem vc84_v0 (xs:(List ah.D)) (k0:LTb) (K:KA):vcT C84 (L84_v0 xs k0) ann84_v0 f84 [.data (Ty.sl ah) xs,.fn 85 [.ref (.data TTb k0)]] [] (.dat aD) K =
 (∃m_,True/\cu (s84_0_v0 xs k0) Z0 (xs.length:Int) (F.cE xs k0) (fun v0:Unit=>True) (bA (fun v0:Unit=>True->K (dI (-1:Int)) []) (fun q0:Int=>K (dI q0) [])) m_ (s84_0_v0 xs k0 Z0 ())):=by kernel_rfl
theorem lvc84_0_v0 (xs:(List ah.D)) (k0:LTb)  (i0:Int) (v0:Unit) (m:Nat) (K:KX):lvT C84 (L84_v0 xs k0) ann84_v0 f84 0 0 (s84_0_v0 xs k0 i0 v0) m K =
 (cond (decide (i0<(xs.length:Int))) ((0<=i0)/\(i0<(xs.length:Int))/\(Sm ah (nth (t:=ah) xs i0))/\(Sm TTb k0)/\((M.aF k0&&M.aN k0 (nth (t:=ah) xs i0))=true)/\cond (M.loose k0 (nth (t:=ah) xs i0)) (K .ret (⟨[(4,dI i0)],[]⟩:St)) (nxT (LP84_0_v0 xs k0) m K (s84_0_v0 xs k0 (wrap64 (i0+Z1)) ()))) (K (.exit 0) (⟨[],[]⟩:St))):=by kernel_rfl
def ann84_v1:=an [[kp 3],[kp 387],[kp 899],[kp 419],[kp 65955],[kp 16],[kp 387],[kp 16]] [[kp 0]]
abbrev s84_0_v1 (xs:(List ah.D)) (k0:LTb) (i0:Int) (v0:Unit):St:=⟨[(0,.data (Ty.sl ah) xs),(1,.fn 119 [.ref (.data TTb k0)]),(7,dI (xs.length:Int)),(8,dI i0)],[]⟩
abbrev LP84_0_v1 (xs:(List ah.D)) (k0:LTb) (m:Nat) (st_:St) (K:KX):Prop:=True/\cu (s84_0_v1 xs k0) Z0 (xs.length:Int) (F.dW xs k0) (fun v0:Unit=>True) (bA (fun v0:Unit=>True->K (.exit 0) (⟨[],[]⟩:St)) (fun q0:Int=>K .ret (⟨[(4,dI q0)],[]⟩:St))) m st_
def L84_v1 (xs:(List ah.D)) (k0:LTb):bC:=lp1 0 (LP84_0_v1 xs k0)
theorem vc84_v1 (xs:(List ah.D)) (k0:LTb) (K:KA):vcT C84 (L84_v1 xs k0) ann84_v1 f84 [.data (Ty.sl ah) xs,.fn 119 [.ref (.data TTb k0)]] [] (.dat aD) K =
 (∃m_,True/\cu (s84_0_v1 xs k0) Z0 (xs.length:Int) (F.dW xs k0) (fun v0:Unit=>True) (bA (fun v0:Unit=>True->K (dI (-1:Int)) []) (fun q0:Int=>K (dI q0) [])) m_ (s84_0_v1 xs k0 Z0 ())):=by kernel_rfl
theorem lvc84_0_v1 (xs:(List ah.D)) (k0:LTb)  (i0:Int) (v0:Unit) (m:Nat) (K:KX):lvT C84 (L84_v1 xs k0) ann84_v1 f84 0 0 (s84_0_v1 xs k0 i0 v0) m K =
 (cond (decide (i0<(xs.length:Int))) ((0<=i0)/\(i0<(xs.length:Int))/\(Sm ah (nth (t:=ah) xs i0))/\(Sm TTb k0)/\((M.aF k0&&M.aN k0 (nth (t:=ah) xs i0))=true)/\cond (decide (0<=M.broken k0 (nth (t:=ah) xs i0))) (K .ret (⟨[(4,dI i0)],[]⟩:St)) (nxT (LP84_0_v1 xs k0) m K (s84_0_v1 xs k0 (wrap64 (i0+Z1)) ()))) (K (.exit 0) (⟨[],[]⟩:St))):=by kernel_rfl
def ann84_v2:=an [[kp 3],[kp 387],[kp 899],[kp 419],[kp 65955],[kp 16],[kp 387],[kp 16]] [[kp 0]]
abbrev s84_0_v2 (xs:(List ah.D)) (k0:LTb) (i0:Int) (v0:Unit):St:=⟨[(0,.data (Ty.sl ah) xs),(1,.fn 140 [.ref (.data TTb k0)]),(7,dI (xs.length:Int)),(8,dI i0)],[]⟩
abbrev LP84_0_v2 (xs:(List ah.D)) (k0:LTb) (m:Nat) (st_:St) (K:KX):Prop:=True/\cu (s84_0_v2 xs k0) Z0 (xs.length:Int) (F.dj xs k0) (fun v0:Unit=>True) (bA (fun v0:Unit=>True->K (.exit 0) (⟨[],[]⟩:St)) (fun q0:Int=>K .ret (⟨[(4,dI q0)],[]⟩:St))) m st_
def L84_v2 (xs:(List ah.D)) (k0:LTb):bC:=lp1 0 (LP84_0_v2 xs k0)
theorem vc84_v2 (xs:(List ah.D)) (k0:LTb) (K:KA):vcT C84 (L84_v2 xs k0) ann84_v2 f84 [.data (Ty.sl ah) xs,.fn 140 [.ref (.data TTb k0)]] [] (.dat aD) K =
 (∃m_,True/\cu (s84_0_v2 xs k0) Z0 (xs.length:Int) (F.dj xs k0) (fun v0:Unit=>True) (bA (fun v0:Unit=>True->K (dI (-1:Int)) []) (fun q0:Int=>K (dI q0) [])) m_ (s84_0_v2 xs k0 Z0 ())):=by kernel_rfl
theorem lvc84_0_v2 (xs:(List ah.D)) (k0:LTb)  (i0:Int) (v0:Unit) (m:Nat) (K:KX):lvT C84 (L84_v2 xs k0) ann84_v2 f84 0 0 (s84_0_v2 xs k0 i0 v0) m K =
 (cond (decide (i0<(xs.length:Int))) ((0<=i0)/\(i0<(xs.length:Int))/\(Sm ah (nth (t:=ah) xs i0))/\(Sm TTb k0)/\cond (!M.aN k0 (nth (t:=ah) xs i0)) (K .ret (⟨[(4,dI i0)],[]⟩:St)) (nxT (LP84_0_v2 xs k0) m K (s84_0_v2 xs k0 (wrap64 (i0+Z1)) ()))) (K (.exit 0) (⟨[],[]⟩:St))):=by kernel_rfl
theorem con84_ok:aV P 84 c84:=aY C84 func84 (kC con85_ok (kC con119_ok (kC con140_ok kN))) fun args hp K h0=>by
 rcases h0 with h0 | h0 | h0
 ·obtain⟨a0,a1,rfl,rfl,h1⟩:=bB h0
  obtain⟨xs,rfl,h2⟩:=bw h1
  obtain⟨cs1,rfl,h3⟩:=bZ h2
  obtain⟨b1_0,rfl,h4⟩:=eF h3
  obtain⟨k0,rfl,h5⟩:=de h4
  obtain⟨h_xs,h_k0,p0,hK⟩:=h5
  have h:ok (F.fZ xs k0) (fun r=>K (dI r) []):=aB (F.jU xs k0 h_xs h_k0 p0) hK
  refine⟨rfl,ann84_v0,(L84_v0 xs k0),(.dat aD),(br (i0:=0) (by kernel_rfl) ?_),?_⟩
  ·rintro _ _ K ⟨hc0,i0,v0,rfl,hl0,rfl,hv0,h⟩
   exact cast (lvc84_0_v0 _ _ _ _ _ _).symm (bJ h (fun ht0 h=>⟨hl0,⟨ht0,⟨(aH h_xs i0),⟨h_k0,(oG h fun _ h=>(oC h (fun _ h=>h) fun _ h=>(bu (fun _ hm=>⟨hc0,hm⟩) _ rfl hl0 jk ht0 (bE h_xs) trivial h)))⟩⟩⟩⟩) fun h=>(h trivial))
  ·rw[vc84_v0]
   exact(bp (fun m hm=>⟨trivial,hm⟩) Z0 _ rfl (Int.natCast_nonneg 0) trivial (aX h (fun v0 h hv0=>h) (fun q0 h=>h)))
 ·obtain⟨a0,a1,rfl,rfl,h1⟩:=bB h0
  obtain⟨xs,rfl,h2⟩:=bw h1
  obtain⟨cs1,rfl,h3⟩:=bZ h2
  obtain⟨b1_0,rfl,h4⟩:=eF h3
  obtain⟨k0,rfl,h5⟩:=de h4
  obtain⟨h_xs,h_k0,p0,hK⟩:=h5
  have h:ok (F.kj xs k0) (fun r=>K (dI r) []):=aB (F.oN xs k0 h_xs h_k0 p0) hK
  refine⟨rfl,ann84_v1,(L84_v1 xs k0),(.dat aD),(br (i0:=0) (by kernel_rfl) ?_),?_⟩
  ·rintro _ _ K ⟨hc0,i0,v0,rfl,hl0,rfl,hv0,h⟩
   exact cast (lvc84_0_v1 _ _ _ _ _ _).symm (bJ h (fun ht0 h=>⟨hl0,⟨ht0,⟨(aH h_xs i0),⟨h_k0,(oG h fun _ h=>(oC h (fun _ h=>h) fun _ h=>(bu (fun _ hm=>⟨hc0,hm⟩) _ rfl hl0 jk ht0 (bE h_xs) trivial h)))⟩⟩⟩⟩) fun h=>(h trivial))
  ·rw[vc84_v1]
   exact(bp (fun m hm=>⟨trivial,hm⟩) Z0 _ rfl (Int.natCast_nonneg 0) trivial (aX h (fun v0 h hv0=>h) (fun q0 h=>h)))
 ·obtain⟨a0,a1,rfl,rfl,h1⟩:=bB h0
  obtain⟨xs,rfl,h2⟩:=bw h1
  obtain⟨cs1,rfl,h3⟩:=bZ h2
  obtain⟨b1_0,rfl,h4⟩:=eF h3
  obtain⟨k0,rfl,h5⟩:=de h4
  obtain⟨h_xs,h_k0,hK⟩:=h5
  have h:ok (F.iL xs k0) (fun r=>K (dI r) []):=aB (F.mj xs k0 h_xs h_k0) hK
  refine⟨rfl,ann84_v2,(L84_v2 xs k0),(.dat aD),(br (i0:=0) (by kernel_rfl) ?_),?_⟩
  ·rintro _ _ K ⟨hc0,i0,v0,rfl,hl0,rfl,hv0,h⟩
   exact cast (lvc84_0_v2 _ _ _ _ _ _).symm (bJ h (fun ht0 h=>⟨hl0,⟨ht0,⟨(aH h_xs i0),⟨h_k0,(oC h (fun _ h=>h) fun _ h=>(bu (fun _ hm=>⟨hc0,hm⟩) _ rfl hl0 jk ht0 (bE h_xs) trivial h))⟩⟩⟩⟩) fun h=>(h trivial))
  ·rw[vc84_v2]
   exact(bp (fun m hm=>⟨trivial,hm⟩) Z0 _ rfl (Int.natCast_nonneg 0) trivial (aX h (fun v0 h hv0=>h) (fun q0 h=>h)))
def c118:Con:=⟨[.dat (Ty.sl ah),.any],fun args hp K=>(args2 (fun a0 a1=>eX (Ty.sl ah) a0 fun xs=>gO 119 a1 (nX (fun b1_0=>lB TTb b1_0 fun k0=>(Sm (Ty.sl ah) xs)/\(Sm TTb k0)/\(∀e∈xs,(M.aF k0&&M.aN k0 e)=true)/\K (dB (List.any xs (fun e=>decide (0<=M.broken k0 e)))) []))) args hp)\/(args2 (fun a0 a1=>eX (Ty.sl ah) a0 fun xs=>gO 140 a1 (nX (fun b1_0=>lB TTb b1_0 fun k0=>(Sm (Ty.sl ah) xs)/\(Sm TTb k0)/\K (dB (List.any xs (fun e=>!M.aN k0 e))) []))) args hp),.bor,false⟩
abbrev C118:Ctx:=cx [(84,c84),(119,c119),(140,c140)] 9 [] 0 false
def ann118_v0:=an [[kp 3],[kp 16]] []
theorem vc118_v0 (xs:(List ah.D)) (k0:LTb) (K:KA):vcT C118 aA ann118_v0 f118 [.data (Ty.sl ah) xs,.fn 119 [.ref (.data TTb k0)]] [] (.dat Ty.bool) K =
 (False\/((Sm (Ty.sl ah) xs)/\(Sm TTb k0)/\(∀e∈xs,(M.aF k0&&M.aN k0 e)=true)/\K (dB (decide (Z0<=(M.idx (t:=ah) (fun e=>decide (0<=M.broken k0 e)) xs)))) [])\/False):=by kernel_rfl
def ann118_v1:=an [[kp 3],[kp 16]] []
theorem vc118_v1 (xs:(List ah.D)) (k0:LTb) (K:KA):vcT C118 aA ann118_v1 f118 [.data (Ty.sl ah) xs,.fn 140 [.ref (.data TTb k0)]] [] (.dat Ty.bool) K =
 (False\/False\/((Sm (Ty.sl ah) xs)/\(Sm TTb k0)/\K (dB (decide (Z0<=(M.idx (t:=ah) (fun e=>!M.aN k0 e) xs)))) [])):=by kernel_rfl
theorem con118_ok:aV P 118 c118:=aY C118 func118 (kC con84_ok (kC con119_ok (kC con140_ok kN))) fun args hp K h0=>by
 rcases h0 with h0 | h0
 ·obtain⟨a0,a1,rfl,rfl,h1⟩:=bB h0
  obtain⟨xs,rfl,h2⟩:=bw h1
  obtain⟨cs1,rfl,h3⟩:=bZ h2
  obtain⟨b1_0,rfl,h4⟩:=eF h3
  obtain⟨k0,rfl,h5⟩:=de h4
  obtain⟨h_xs,h_k0,p0,hK⟩:=h5
  have h:ok (F.fD xs k0) (fun r=>K (dB r) []):=aB (F.mh xs k0 h_xs h_k0 p0) hK
  refine⟨rfl,ann118_v0,aA,(.dat Ty.bool),(aI (by kernel_rfl)),?_⟩
  ·rw[vc118_v0]
   exact(Or.inr (Or.inl (⟨h_xs,⟨h_k0,⟨p0,h⟩⟩⟩)))
 ·obtain⟨a0,a1,rfl,rfl,h1⟩:=bB h0
  obtain⟨xs,rfl,h2⟩:=bw h1
  obtain⟨cs1,rfl,h3⟩:=bZ h2
  obtain⟨b1_0,rfl,h4⟩:=eF h3
  obtain⟨k0,rfl,h5⟩:=de h4
  obtain⟨h_xs,h_k0,hK⟩:=h5
  have h:ok (F.eM xs k0) (fun r=>K (dB r) []):=aB (F.kB xs k0 h_xs h_k0) hK
  refine⟨rfl,ann118_v1,aA,(.dat Ty.bool),(aI (by kernel_rfl)),?_⟩
  ·rw[vc118_v1]
   exact(Or.inr (Or.inr (⟨h_xs,⟨h_k0,h⟩⟩)))
def c55:Con:=⟨[.dat TTb,.dat (Ty.sl ah)],fun args hp K=>g2 (pD TTb) (pD (Ty.sl ah)) (fun tables bonds=>(Sm TTb tables)/\(Sm (Ty.sl ah) bonds)/\(∀e∈bonds,(M.aF tables&&M.aN tables e)=true)/\K (dB (!List.any bonds (fun e=>decide (0<=M.broken tables e)))) []) args hp,.bor,false⟩
abbrev C55:Ctx:=cx [(118,c118),(119,c119)] 9 [] 0 false
def ann55:=an [[.fixBox 2,kp 6],[kp 16]] []
theorem vc55 (tables:LTb) (bonds:(List ah.D)) (K:KA):vcT C55 aA ann55 f55 [.data TTb tables,.data (Ty.sl ah) bonds] [] (.dat Ty.bool) K =
 (((Sm (Ty.sl ah) bonds)/\(Sm TTb tables)/\(∀e∈bonds,(M.aF tables&&M.aN tables e)=true)/\K (dB (!(List.any bonds (fun e=>decide (0<=M.broken tables e))))) [])\/False):=by kernel_rfl
theorem con55_ok:aV P 55 c55:=aY C55 func55 (kC con118_ok (kC con119_ok kN)) fun args hp K h0=>by
 obtain⟨tables,bonds,rfl,rfl,h_tables,h_bonds,p0,hK⟩:=g2e h0
 have h:ok (F.BF tables bonds) (fun r=>K (dB r) []):=aB (F.BW tables bonds h_tables h_bonds p0) hK
 refine⟨rfl,ann55,aA,(.dat Ty.bool),(aI (by kernel_rfl)),?_⟩
 ·rw[vc55]
  exact(Or.inl (⟨h_bonds,⟨h_tables,⟨p0,h⟩⟩⟩))
def c77:Con:=⟨[.dat TTb,.dat (Ty.sl ah)],fun args hp K=>g2 (pD TTb) (pD (Ty.sl ah)) (fun tables bonds=>(Sm TTb tables)/\(Sm (Ty.sl ah) bonds)/\K (dB (M.aF tables&&List.all bonds (M.aN tables))) []) args hp,.plain,false⟩
abbrev C77:Ctx:=cx [(28,c28),(118,c118),(140,c140)] 13 [] 0 false
def ann77:=an [[.fixBox 2,kp 6],[kp 16]] []
theorem vc77 (tables:LTb) (bonds:(List ah.D)) (K:KA):vcT C77 aA ann77 f77 [.data TTb tables,.data (Ty.sl ah) bonds] [] (.dat Ty.bool) K =
 ((Sm TTb tables)/\cond ((M.aF tables)==true) (False\/((Sm (Ty.sl ah) bonds)/\(Sm TTb tables)/\K (dB (!(List.any bonds (fun e=>!M.aN tables e)))) [])) (K (dB false) [])):=by kernel_rfl
theorem con77_ok:aV P 77 c77:=aY C77 func77 (kC con28_ok (kC con118_ok (kC con140_ok kN))) fun args hp K h0=>by
 obtain⟨tables,bonds,rfl,rfl,h_tables,h_bonds,hK⟩:=g2e h0
 have h:ok (F.qy tables bonds) (fun r=>K (dB r) []):=aB (F.yD tables bonds h_tables h_bonds) hK
 refine⟨rfl,ann77,aA,(.dat Ty.bool),(aI (by kernel_rfl)),?_⟩
 ·rw[vc77]
  exact⟨h_tables,(oC h (fun _ h=>(Or.inr (⟨h_bonds,⟨h_tables,h⟩⟩))) fun _ h=>h)⟩
def c29:Con:=⟨[.dat TTb,.dat (Ty.sl ah)],fun args hp K=>g2 (pD TTb) (pD (Ty.sl ah)) (fun tables bonds=>(Sm TTb tables)/\(Sm (Ty.sl ah) bonds)/\K (dB (M.bS tables bonds)) []) args hp,.bor,false⟩
abbrev C29:Ctx:=cx [(55,c55),(77,c77)] 23 [] 0 false
def ann29:=an [[kp 3],[kp 16]] []
theorem vc29 (tables:LTb) (bonds:(List ah.D)) (K:KA):vcT C29 aA ann29 f29 [.data TTb tables,.data (Ty.sl ah) bonds] [] (.dat Ty.bool) K =
 (cond ((decide ((bonds.length:Int)=Z0))==false) (cond ((decide ((bonds.length:Int)<=Z4))==true) ((Sm TTb tables)/\(Sm (Ty.sl ah) bonds)/\cond ((M.aF tables&&List.all bonds (M.aN tables))==true) ((Sm TTb tables)/\(Sm (Ty.sl ah) bonds)/\(∀e∈bonds,(M.aF tables&&M.aN tables e)=true)/\K (dB (!List.any bonds (fun e=>decide (0<=M.broken tables e)))) []) (K (dB false) [])) (K (dB false) [])) (K (dB true) [])):=by kernel_rfl
theorem con29_ok:aV P 29 c29:=aY C29 func29 (kC con55_ok (kC con77_ok kN)) fun args hp K h0=>by
 obtain⟨tables,bonds,rfl,rfl,h_tables,h_bonds,hK⟩:=g2e h0
 have h:ok (F.mW tables bonds) (fun r=>K (dB r) []):=aB (F.vR tables bonds h_tables h_bonds) hK
 refine⟨rfl,ann29,aA,(.dat Ty.bool),(aI (by kernel_rfl)),?_⟩
 ·rw[vc29]
  exact(oC h (fun _ h=>(oC h (fun _ h=>⟨h_tables,⟨h_bonds,(oC h (fun _ h=>⟨h_tables,⟨h_bonds,(oG h fun _ h=>h)⟩⟩) fun _ h=>h)⟩⟩) fun _ h=>h)) fun _ h=>h)
def c143:Con:=⟨[.dat aD,.dat aD,.dat aD],fun args hp K=>g3 (pD aD) (pD aD) (pD aD) (fun n low high=>K (dB (M.inR n low high)) []) args hp,.plain,false⟩
abbrev C143:Ctx:=cx [] 15 [] 0 false
def ann143:=an [[kp 7],[kp 64]] []
theorem vc143 (n:Int) (low:Int) (high:Int) (K:KA):vcT C143 aA ann143 f143 [dI n,dI low,dI high] [] (.dat Ty.bool) K =
 (cond ((decide (low<=n))==true) (K (dB (decide (n<=high))) []) (K (dB false) [])):=by kernel_rfl
theorem con143_ok:aV P 143 c143:=aY C143 func143 kN fun args hp K h0=>by
 obtain⟨n,low,high,rfl,rfl,hK⟩:=g3e h0
 have h:ok (F.wP n low high) (fun r=>K (dB r) []):=aB (F.CE n low high) hK
 refine⟨rfl,ann143,aA,(.dat Ty.bool),(aI (by kernel_rfl)),?_⟩
 ·rw[vc143]
  exact(oC h (fun _ h=>h) fun _ h=>h)
def c178:Con:=⟨[.dat TCS],fun args hp K=>g1 (pD TCS) (fun columns=>(Sm TCS columns)/\K (dB (M.bM columns)) []) args hp,.plain,false⟩
abbrev C178:Ctx:=cx [(143,c143)] 20 [] 0 false
def ann178:=an [[kp 1],[kp 9],[kp 137],[kp 9],[kp 65545],[kp 4],[kp 4]] [[kp 1]]
abbrev s178_0 (columns:LC) (i0:Int) (v0:Unit):St:=⟨[(0,.data TCS columns),(3,dI i0)],[]⟩
abbrev LP178_0 (columns:LC) (m:Nat) (st_:St) (K:KX):Prop:=True/\cN (t:=ax) (s178_0 columns) columns (F.gI columns) (fun v0:Unit=>True) (bA (fun v0:Unit=>True->K (.exit 0) (⟨[(0,.data TCS columns)],[]⟩:St)) (fun q0:Unit=>K .ret (⟨[(2,dB false)],[]⟩:St))) m st_
def L178 (columns:LC):bC:=lp1 0 (LP178_0 columns)
theorem vc178 (columns:LC) (K:KA):vcT C178 (L178 columns) ann178 f178 [.data TCS columns] [] (.dat Ty.bool) K =
 (∃m_,True/\cN (t:=ax) (s178_0 columns) columns (F.gI columns) (fun v0:Unit=>True) (bA (fun v0:Unit=>True->K (dB (decide ((columns.length:Int)<=Z4))) []) (fun q0:Unit=>K (dB false) [])) m_ (s178_0 columns Z0 ())):=by kernel_rfl
theorem lvc178_0 (columns:LC)  (i0:Int) (v0:Unit) (m:Nat) (K:KX):lvT C178 (L178 columns) ann178 f178 0 0 (s178_0 columns i0 v0) m K =
 (cond (decide (i0<(columns.length:Int))) ((0<=i0)/\(i0<(columns.length:Int))/\cond (!(M.inR (nC columns i0).1 Z1 Z3)) (K .ret (⟨[(2,dB false)],[]⟩:St)) (nxT (LP178_0 columns) m K (s178_0 columns (wrap64 (i0+Z1)) ()))) (K (.exit 0) (⟨[(0,.data TCS columns)],[]⟩:St))):=by kernel_rfl
theorem con178_ok:aV P 178 c178:=aY C178 func178 (kC con143_ok kN) fun args hp K h0=>by
 obtain⟨columns,rfl,rfl,h_columns,hK⟩:=g1e h0
 have h:ok (F.nt columns) (fun r=>K (dB r) []):=aB (F.vq columns h_columns) hK
 refine⟨rfl,ann178,(L178 columns),(.dat Ty.bool),(br (i0:=0) (by kernel_rfl) ?_),?_⟩
 ·rintro _ _ K ⟨hc0,i0,v0,rfl,hl0,rfl,hv0,h⟩
  exact cast (lvc178_0 _ _ _ _ _).symm (cj (t:=ax) hl0 h (fun ht0 h=>⟨hl0,⟨ht0,(oC h (fun _ h=>h) fun _ h=>(bF (t:=ax) (fun _ hm=>⟨hc0,hm⟩) _ rfl hl0 ht0 (bE h_columns) trivial h))⟩⟩) fun h=>(h trivial))
 ·rw[vc178]
  exact(bN (t:=ax) (fun m hm=>⟨trivial,hm⟩) _ rfl trivial (aX h (fun v0 h hv0=>h) (fun q0 h=>h)))
def c249:Con:=⟨[.dat Ty.str],fun args hp K=>g1 (pD Ty.str) (fun s=>(Sm Ty.str s)/\K (dB (M.text s)) []) args hp,.plain,false⟩
abbrev C249:Ctx:=cx [] 23 [] 0 false
def ann249:=an [[kp 1],[kp 9],[kp 137],[kp 9],[kp 524297],[kp 4],[kp 4]] [[kp 1]]
abbrev s249_0 (s:ByteArray) (i0:Int) (v0:Unit):St:=⟨[(0,.data Ty.str s),(3,dI i0)],[]⟩
abbrev LP249_0 (s:ByteArray) (m:Nat) (st_:St) (K:KX):Prop:=True/\cu (s249_0 s) Z0 (s.size:Int) (F.jM s) (fun v0:Unit=>True) (bA (fun v0:Unit=>True->K (.exit 0) (⟨[(0,.data Ty.str s)],[]⟩:St)) (fun q0:Unit=>K .ret (⟨[(2,dB false)],[]⟩:St))) m st_
def L249 (s:ByteArray):bC:=lp1 0 (LP249_0 s)
theorem vc249 (s:ByteArray) (K:KA):vcT C249 (L249 s) ann249 f249 [.data Ty.str s] [] (.dat Ty.bool) K =
 (∃m_,True/\cu (s249_0 s) Z0 (s.size:Int) (F.jM s) (fun v0:Unit=>True) (bA (fun v0:Unit=>True->K (dB (decide ((s.size:Int)<=Z6))) []) (fun q0:Unit=>K (dB false) [])) m_ (s249_0 s Z0 ())):=by kernel_rfl
theorem lvc249_0 (s:ByteArray)  (i0:Int) (v0:Unit) (m:Nat) (K:KX):lvT C249 (L249 s) ann249 f249 0 0 (s249_0 s i0 v0) m K =
 (cond (decide (i0<(s.size:Int))) ((0<=i0)/\(i0<(s.size:Int))/\cond ((decide (((s.get! i0.toNat).toNat:Int)<(97:Int)))==false) ((0<=i0)/\(i0<(s.size:Int))/\cond (decide ((122:Int)<((s.get! i0.toNat).toNat:Int))) (K .ret (⟨[(2,dB false)],[]⟩:St)) (nxT (LP249_0 s) m K (s249_0 s (wrap64 (i0+Z1)) ()))) (K .ret (⟨[(2,dB false)],[]⟩:St))) (K (.exit 0) (⟨[(0,.data Ty.str s)],[]⟩:St))):=by kernel_rfl
theorem con249_ok:aV P 249 c249:=aY C249 func249 kN fun args hp K h0=>by
 obtain⟨s,rfl,rfl,h_s,hK⟩:=g1e h0
 have h:ok (F.rH s) (fun r=>K (dB r) []):=aB (F.zn s h_s) hK
 refine⟨rfl,ann249,(L249 s),(.dat Ty.bool),(br (i0:=0) (by kernel_rfl) ?_),?_⟩
 ·rintro _ _ K ⟨hc0,i0,v0,rfl,hl0,rfl,hv0,h⟩
  exact cast (lvc249_0 _ _ _ _ _).symm (bJ h (fun ht0 h=>⟨hl0,⟨ht0,(oC h (fun _ h=>⟨hl0,⟨ht0,(oC h (fun _ h=>h) fun _ h=>(bu (fun _ hm=>⟨hc0,hm⟩) _ rfl hl0 jk ht0 (IM h_s) trivial h))⟩⟩) fun _ h=>h)⟩⟩) fun h=>(h trivial))
 ·rw[vc249]
  exact(bp (fun m hm=>⟨trivial,hm⟩) Z0 _ rfl (Int.natCast_nonneg 0) trivial (aX h (fun v0 h hv0=>h) (fun q0 h=>h)))
def c223:Con:=⟨[.dat aa],fun args hp K=>g1 (pD aa) (fun v=>(Sm aa v)/\K (dB (M.aP v)) []) args hp,.plain,false⟩
abbrev C223:Ctx:=cx [(143,c143),(249,c249)] 45 [] 0 false
def ann223:=an [[.fixRow 1 aa,kp 2],[kp 18],[kp 50],[kp 4],[kp 32786],[kp 4],[kp 33554450],[kp 4],[.keep [1,35]],[kp 4],[kp 4]] []
theorem vc223 (v:aa.D) (K:KA):vcT C223 aA ann223 f223 [.data aa v] [] (.dat Ty.bool) K =
 (cond (decide (v.1=Z0)) (cond ((decide (v.2.1=Z0))==true) (K (dB (decide (v.2.2.1=(⟨#[]⟩:ByteArray)))) []) (K (dB false) [])) (cond (decide (v.1=Z1)) (cond ((M.inR v.2.1 (-9999:Int) (9999:Int))==true) (K (dB (decide (v.2.2.1=(⟨#[]⟩:ByteArray)))) []) (K (dB false) [])) (cond (decide (v.1=Z2)) (cond ((decide (v.2.1=Z0))==true) ((Sm Ty.str v.2.2.1)/\K (dB (M.text v.2.2.1)) []) (K (dB false) [])) (cond (decide (v.1=Z3)) (cond ((M.inR v.2.1 Z0 Z1)==true) (K (dB (decide (v.2.2.1=(⟨#[]⟩:ByteArray)))) []) (K (dB false) [])) (K (dB false) []))))):=by kernel_rfl
theorem con223_ok:aV P 223 c223:=aY C223 func223 (kC con143_ok (kC con249_ok kN)) fun args hp K h0=>by
 obtain⟨v,rfl,rfl,h_v,hK⟩:=g1e h0
 have h:ok (F.qE v) (fun r=>K (dB r) []):=aB (F.yj v h_v) hK
 refine⟨rfl,ann223,aA,(.dat Ty.bool),(aI (by kernel_rfl)),?_⟩
 ·rw[vc223]
  exact(oC h (fun _ h=>(oC h (fun _ h=>h) fun _ h=>h)) fun _ h=>(oC h (fun _ h=>(oC h (fun _ h=>h) fun _ h=>h)) fun _ h=>(oC h (fun _ h=>(oC h (fun _ h=>⟨h_v.2.2.1,h⟩) fun _ h=>h)) fun _ h=>(oC h (fun _ h=>(oC h (fun _ h=>h) fun _ h=>h)) fun _ h=>h))))
def c195:Con:=⟨[.dat TVS],fun args hp K=>g1 (pD TVS) (fun row=>(Sm TVS row)/\K (dB (M.pL row)) []) args hp,.plain,false⟩
abbrev C195:Ctx:=cx [(223,c223)] 19 [] 0 false
def ann195:=an [[kp 1],[kp 9],[kp 137],[kp 9],[kp 32777],[kp 4],[kp 4]] [[kp 1]]
abbrev s195_0 (row:LV) (i0:Int) (v0:Unit):St:=⟨[(0,.data TVS row),(3,dI i0)],[]⟩
abbrev LP195_0 (row:LV) (m:Nat) (st_:St) (K:KX):Prop:=True/\cN (t:=aa) (s195_0 row) row (F.kS row) (fun v0:Unit=>True) (bA (fun v0:Unit=>True->K (.exit 0) (⟨[(0,.data TVS row)],[]⟩:St)) (fun q0:Unit=>K .ret (⟨[(2,dB false)],[]⟩:St))) m st_
def L195 (row:LV):bC:=lp1 0 (LP195_0 row)
theorem vc195 (row:LV) (K:KA):vcT C195 (L195 row) ann195 f195 [.data TVS row] [] (.dat Ty.bool) K =
 (∃m_,True/\cN (t:=aa) (s195_0 row) row (F.kS row) (fun v0:Unit=>True) (bA (fun v0:Unit=>True->K (dB (decide ((row.length:Int)<=Z4))) []) (fun q0:Unit=>K (dB false) [])) m_ (s195_0 row Z0 ())):=by kernel_rfl
theorem lvc195_0 (row:LV)  (i0:Int) (v0:Unit) (m:Nat) (K:KX):lvT C195 (L195 row) ann195 f195 0 0 (s195_0 row i0 v0) m K =
 (cond (decide (i0<(row.length:Int))) ((0<=i0)/\(i0<(row.length:Int))/\(Sm aa (nV row i0))/\cond (!(M.aP (nV row i0))) (K .ret (⟨[(2,dB false)],[]⟩:St)) (nxT (LP195_0 row) m K (s195_0 row (wrap64 (i0+Z1)) ()))) (K (.exit 0) (⟨[(0,.data TVS row)],[]⟩:St))):=by kernel_rfl
theorem con195_ok:aV P 195 c195:=aY C195 func195 (kC con223_ok kN) fun args hp K h0=>by
 obtain⟨row,rfl,rfl,h_row,hK⟩:=g1e h0
 have h:ok (F.tI row) (fun r=>K (dB r) []):=aB (F.Bk row h_row) hK
 refine⟨rfl,ann195,(L195 row),(.dat Ty.bool),(br (i0:=0) (by kernel_rfl) ?_),?_⟩
 ·rintro _ _ K ⟨hc0,i0,v0,rfl,hl0,rfl,hv0,h⟩
  exact cast (lvc195_0 _ _ _ _ _).symm (cj (t:=aa) hl0 h (fun ht0 h=>⟨hl0,⟨ht0,⟨(aH h_row i0),(oC h (fun _ h=>h) fun _ h=>(bF (t:=aa) (fun _ hm=>⟨hc0,hm⟩) _ rfl hl0 ht0 (bE h_row) trivial h))⟩⟩⟩) fun h=>(h trivial))
 ·rw[vc195]
  exact(bN (t:=aa) (fun m hm=>⟨trivial,hm⟩) _ rfl trivial (aX h (fun v0 h hv0=>h) (fun q0 h=>h)))
def c144:Con:=⟨[.dat TCS,.dat TVS],fun args hp K=>g2 (pD TCS) (pD TVS) (fun columns row=>(Sm TCS columns)/\(Sm TVS row)/\K (dB (M.bU columns row)) []) args hp,.plain,false⟩
abbrev C144:Ctx:=cx [(178,c178),(195,c195)] 54 [] 0 false
def ann144:=an [[kp 3],[kp 1048579],[kp 16],[kp 35],[kp 16777251],[kp 35],[kp 9007199254741027],[kp 16],[kp 16]] [[kp 0]]
abbrev s144_0 (columns:LC) (row:LV) (i0:Int) (v0:Unit):St:=⟨[(0,.data TCS columns),(1,.data TVS row),(5,dI i0)],[]⟩
abbrev LP144_0 (columns:LC) (row:LV) (m:Nat) (st_:St) (K:KX):Prop:=True/\cu (s144_0 columns row) Z0 (row.length:Int) (F.iX columns row) (fun v0:Unit=>True) (bA (fun v0:Unit=>True->K (.exit 0) (⟨[],[]⟩:St)) (fun q0:Unit=>K .ret (⟨[(4,dB false)],[]⟩:St))) m st_
def L144 (columns:LC) (row:LV):bC:=lp1 0 (LP144_0 columns row)
theorem vc144 (columns:LC) (row:LV) (K:KA):vcT C144 (L144 columns row) ann144 f144 [.data TCS columns,.data TVS row] [] (.dat Ty.bool) K =
 ((Sm TCS columns)/\cond ((!(M.bM columns))==false) ((Sm TVS row)/\cond ((!(M.pL row))==false) (cond (!decide ((row.length:Int)=(columns.length:Int))) (K (dB false) []) (∃m_,True/\cu (s144_0 columns row) Z0 (row.length:Int) (F.iX columns row) (fun v0:Unit=>True) (bA (fun v0:Unit=>True->K (dB true) []) (fun q0:Unit=>K (dB false) [])) m_ (s144_0 columns row Z0 ()))) (K (dB false) [])) (K (dB false) [])):=by kernel_rfl
theorem lvc144_0 (columns:LC) (row:LV)  (i0:Int) (v0:Unit) (m:Nat) (K:KX):lvT C144 (L144 columns row) ann144 f144 0 0 (s144_0 columns row i0 v0) m K =
 (cond (decide (i0<(row.length:Int))) ((0<=i0)/\(i0<(row.length:Int))/\(0<=i0)/\(i0<(columns.length:Int))/\cond ((!decide ((nV row i0).1=(nC columns i0).1))==true) ((0<=i0)/\(i0<(row.length:Int))/\cond ((!decide ((nV row i0).1=Z0))==false) ((0<=i0)/\(i0<(columns.length:Int))/\cond (!(nC columns i0).2.1) (K .ret (⟨[(4,dB false)],[]⟩:St)) (nxT (LP144_0 columns row) m K (s144_0 columns row (wrap64 (i0+Z1)) ()))) (K .ret (⟨[(4,dB false)],[]⟩:St))) (nxT (LP144_0 columns row) m K (s144_0 columns row (wrap64 (i0+Z1)) ()))) (K (.exit 0) (⟨[],[]⟩:St))):=by kernel_rfl
theorem con144_ok:aV P 144 c144:=aY C144 func144 (kC con178_ok (kC con195_ok kN)) fun args hp K h0=>by
 obtain⟨columns,row,rfl,rfl,h_columns,h_row,hK⟩:=g2e h0
 have h:ok (F.pU columns row) (fun r=>K (dB r) []):=aB (F.xZ columns row h_columns h_row) hK
 refine⟨rfl,ann144,(L144 columns row),(.dat Ty.bool),(br (i0:=0) (by kernel_rfl) ?_),?_⟩
 ·rintro _ _ K ⟨hc0,i0,v0,rfl,hl0,rfl,hv0,h⟩
  exact cast (lvc144_0 _ _ _ _ _ _).symm (bJ h (fun ht0 h=>⟨hl0,⟨ht0,⟨hl0,(oG h fun g1 h=>(oC h (fun _ h=>⟨hl0,⟨ht0,(oC h (fun _ h=>⟨hl0,⟨g1,(oC h (fun _ h=>h) fun _ h=>(bu (fun _ hm=>⟨hc0,hm⟩) _ rfl hl0 jk ht0 (bE h_row) trivial h))⟩⟩) fun _ h=>h)⟩⟩) fun _ h=>(bu (fun _ hm=>⟨hc0,hm⟩) _ rfl hl0 jk ht0 (bE h_row) trivial h)))⟩⟩⟩) fun h=>(h trivial))
 ·rw[vc144]
  exact⟨h_columns,(oC h (fun _ h=>⟨h_row,(oC h (fun _ h=>(oC h (fun _ h=>h) fun _ h=>(bp (fun m hm=>⟨trivial,hm⟩) Z0 _ rfl (Int.natCast_nonneg 0) trivial (aX h (fun v0 h hv0=>h) (fun q0 h=>h))))) fun _ h=>h)⟩) fun _ h=>h)⟩
def c108:Con:=⟨[.dat TCS,.dat (Ty.sl TVS)],fun args hp K=>g2 (pD TCS) (pD (Ty.sl TVS)) (fun columns rows=>(Sm TCS columns)/\(Sm (Ty.sl TVS) rows)/\K (dB (M.gF columns rows)) []) args hp,.plain,false⟩
abbrev C108:Ctx:=cx [(144,c144),(178,c178)] 21 [] 0 false
def ann108:=an [[kp 3],[kp 35],[kp 547],[kp 35],[kp 262179],[kp 16],[kp 16]] [[kp 1]]
abbrev s108_0 (columns:LC) (rows:(List LV)) (i0:Int) (v0:Unit):St:=⟨[(0,.data TCS columns),(1,.data (Ty.sl TVS) rows),(5,dI i0)],[]⟩
abbrev LP108_0 (columns:LC) (rows:(List LV)) (m:Nat) (st_:St) (K:KX):Prop:=True/\cN (t:=TVS) (s108_0 columns rows) rows (F.jN columns rows) (fun v0:Unit=>True) (bA (fun v0:Unit=>True->K (.exit 0) (⟨[(0,.data TCS columns)],[]⟩:St)) (fun q0:Unit=>K .ret (⟨[(4,dB false)],[]⟩:St))) m st_
def L108 (columns:LC) (rows:(List LV)):bC:=lp1 0 (LP108_0 columns rows)
theorem vc108 (columns:LC) (rows:(List LV)) (K:KA):vcT C108 (L108 columns rows) ann108 f108 [.data TCS columns,.data (Ty.sl TVS) rows] [] (.dat Ty.bool) K =
 (∃m_,True/\cN (t:=TVS) (s108_0 columns rows) rows (F.jN columns rows) (fun v0:Unit=>True) (bA (fun v0:Unit=>True->(Sm TCS columns)/\K (dB (M.bM columns)) []) (fun q0:Unit=>K (dB false) [])) m_ (s108_0 columns rows Z0 ())):=by kernel_rfl
theorem lvc108_0 (columns:LC) (rows:(List LV))  (i0:Int) (v0:Unit) (m:Nat) (K:KX):lvT C108 (L108 columns rows) ann108 f108 0 0 (s108_0 columns rows i0 v0) m K =
 (cond (decide (i0<(rows.length:Int))) ((0<=i0)/\(i0<(rows.length:Int))/\(Sm TCS columns)/\(Sm TVS (nth (t:=TVS) rows i0))/\cond (!(M.bU columns (nth (t:=TVS) rows i0))) (K .ret (⟨[(4,dB false)],[]⟩:St)) (nxT (LP108_0 columns rows) m K (s108_0 columns rows (wrap64 (i0+Z1)) ()))) (K (.exit 0) (⟨[(0,.data TCS columns)],[]⟩:St))):=by kernel_rfl
theorem con108_ok:aV P 108 c108:=aY C108 func108 (kC con144_ok (kC con178_ok kN)) fun args hp K h0=>by
 obtain⟨columns,rows,rfl,rfl,h_columns,h_rows,hK⟩:=g2e h0
 have h:ok (F.sx columns rows) (fun r=>K (dB r) []):=aB (F.yU columns rows h_columns h_rows) hK
 refine⟨rfl,ann108,(L108 columns rows),(.dat Ty.bool),(br (i0:=0) (by kernel_rfl) ?_),?_⟩
 ·rintro _ _ K ⟨hc0,i0,v0,rfl,hl0,rfl,hv0,h⟩
  exact cast (lvc108_0 _ _ _ _ _ _).symm (cj (t:=TVS) hl0 h (fun ht0 h=>⟨hl0,⟨ht0,⟨h_columns,⟨(aH h_rows i0),(oC h (fun _ h=>h) fun _ h=>(bF (t:=TVS) (fun _ hm=>⟨hc0,hm⟩) _ rfl hl0 ht0 (bE h_rows) trivial h))⟩⟩⟩⟩) fun h=>(h trivial))
 ·rw[vc108]
  exact(bN (t:=TVS) (fun m hm=>⟨trivial,hm⟩) _ rfl trivial (aX h (fun v0 h hv0=>⟨h_columns,h⟩) (fun q0 h=>h)))
def c48:Con:=⟨[.dat TTb],fun args hp K=>g1 (pD TTb) (fun tables=>(Sm TTb tables)/\K (dB (M.aF tables)) []) args hp,.plain,false⟩
abbrev C48:Ctx:=cx [(108,c108)] 34 [] 0 false
def ann48:=an [[kp 1],[kp 9],[kp 137],[kp 9],[kp 1073741833],[kp 4],[kp 4]] [[kp 1]]
abbrev s48_0 (tables:LTb) (i0:Int) (v0:Unit):St:=⟨[(0,.data TTb tables),(3,dI i0)],[]⟩
abbrev LP48_0 (tables:LTb) (m:Nat) (st_:St) (K:KX):Prop:=True/\cN (t:=ag) (s48_0 tables) tables (F.iB tables) (fun v0:Unit=>True) (bA (fun v0:Unit=>True->K (.exit 0) (⟨[(0,.data TTb tables)],[]⟩:St)) (fun q0:Unit=>K .ret (⟨[(2,dB false)],[]⟩:St))) m st_
def L48 (tables:LTb):bC:=lp1 0 (LP48_0 tables)
theorem vc48 (tables:LTb) (K:KA):vcT C48 (L48 tables) ann48 f48 [.data TTb tables] [] (.dat Ty.bool) K =
 (∃m_,True/\cN (t:=ag) (s48_0 tables) tables (F.iB tables) (fun v0:Unit=>True) (bA (fun v0:Unit=>True->K (dB (decide ((tables.length:Int)<=Z3))) []) (fun q0:Unit=>K (dB false) [])) m_ (s48_0 tables Z0 ())):=by kernel_rfl
theorem lvc48_0 (tables:LTb)  (i0:Int) (v0:Unit) (m:Nat) (K:KX):lvT C48 (L48 tables) ann48 f48 0 0 (s48_0 tables i0 v0) m K =
 (cond (decide (i0<(tables.length:Int))) ((0<=i0)/\(i0<(tables.length:Int))/\cond ((decide (Z6<((nT tables i0).2.1.length:Int)))==false) ((0<=i0)/\(i0<(tables.length:Int))/\(0<=i0)/\(i0<(tables.length:Int))/\(Sm TCS (nT tables i0).1)/\(Sm (Ty.sl TVS) (nT tables i0).2.1)/\cond (!(M.gF (nT tables i0).1 (nT tables i0).2.1)) (K .ret (⟨[(2,dB false)],[]⟩:St)) (nxT (LP48_0 tables) m K (s48_0 tables (wrap64 (i0+Z1)) ()))) (K .ret (⟨[(2,dB false)],[]⟩:St))) (K (.exit 0) (⟨[(0,.data TTb tables)],[]⟩:St))):=by kernel_rfl
theorem con48_ok:aV P 48 c48:=aY C48 func48 (kC con108_ok kN) fun args hp K h0=>by
 obtain⟨tables,rfl,rfl,h_tables,hK⟩:=g1e h0
 have h:ok (F.oE tables) (fun r=>K (dB r) []):=aB (F.wZ tables h_tables) hK
 refine⟨rfl,ann48,(L48 tables),(.dat Ty.bool),(br (i0:=0) (by kernel_rfl) ?_),?_⟩
 ·rintro _ _ K ⟨hc0,i0,v0,rfl,hl0,rfl,hv0,h⟩
  exact cast (lvc48_0 _ _ _ _ _).symm (cj (t:=ag) hl0 h (fun ht0 h=>⟨hl0,⟨ht0,(oC h (fun _ h=>⟨hl0,⟨ht0,⟨hl0,⟨ht0,⟨(aH h_tables i0).1,⟨(aH h_tables i0).2.1,(oC h (fun _ h=>h) fun _ h=>(bF (t:=ag) (fun _ hm=>⟨hc0,hm⟩) _ rfl hl0 ht0 (bE h_tables) trivial h))⟩⟩⟩⟩⟩⟩) fun _ h=>h)⟩⟩) fun h=>(h trivial))
 ·rw[vc48]
  exact(bN (t:=ag) (fun m hm=>⟨trivial,hm⟩) _ rfl trivial (aX h (fun v0 h hv0=>h) (fun q0 h=>h)))
def c146:Con:=⟨[.dat TCS,.dat (Ty.sl aD)],fun args hp K=>g2 (pD TCS) (pD (Ty.sl aD)) (fun columns list=>(Sm TCS columns)/\(Sm (Ty.sl aD) list)/\K (dB (M.cz columns list)) []) args hp,.plain,false⟩
abbrev C146:Ctx:=cx [(143,c143)] 24 [] 0 false
def ann146:=an [[kp 3],[kp 35],[kp 547],[kp 35],[kp 1048611],[kp 16],[kp 16]] [[kp 2]]
abbrev s146_0 (columns:LC) (list:LI) (i0:Int) (v0:Unit):St:=⟨[(0,.data TCS columns),(1,.data (Ty.sl aD) list),(5,dI i0)],[]⟩
abbrev LP146_0 (columns:LC) (list:LI) (m:Nat) (st_:St) (K:KX):Prop:=True/\cN (t:=aD) (s146_0 columns list) list (F.gp columns list) (fun v0:Unit=>True) (bA (fun v0:Unit=>True->K (.exit 0) (⟨[(1,.data (Ty.sl aD) list)],[]⟩:St)) (fun q0:Unit=>K .ret (⟨[(4,dB false)],[]⟩:St))) m st_
def L146 (columns:LC) (list:LI):bC:=lp1 0 (LP146_0 columns list)
theorem vc146 (columns:LC) (list:LI) (K:KA):vcT C146 (L146 columns list) ann146 f146 [.data TCS columns,.data (Ty.sl aD) list] [] (.dat Ty.bool) K =
 (∃m_,True/\cN (t:=aD) (s146_0 columns list) list (F.gp columns list) (fun v0:Unit=>True) (bA (fun v0:Unit=>True->K (dB (M.inR (list.length:Int) Z1 Z4)) []) (fun q0:Unit=>K (dB false) [])) m_ (s146_0 columns list Z0 ())):=by kernel_rfl
theorem lvc146_0 (columns:LC) (list:LI)  (i0:Int) (v0:Unit) (m:Nat) (K:KX):lvT C146 (L146 columns list) ann146 f146 0 0 (s146_0 columns list i0 v0) m K =
 (cond (decide (i0<(list.length:Int))) ((0<=i0)/\(i0<(list.length:Int))/\cond (!(M.inR (nI list i0) Z0 (wrap64 ((columns.length:Int)-Z1)))) (K .ret (⟨[(4,dB false)],[]⟩:St)) (nxT (LP146_0 columns list) m K (s146_0 columns list (wrap64 (i0+Z1)) ()))) (K (.exit 0) (⟨[(1,.data (Ty.sl aD) list)],[]⟩:St))):=by kernel_rfl
theorem con146_ok:aV P 146 c146:=aY C146 func146 (kC con143_ok kN) fun args hp K h0=>by
 obtain⟨columns,list,rfl,rfl,h_columns,h_list,hK⟩:=g2e h0
 have h:ok (F.lJ columns list) (fun r=>K (dB r) []):=aB (F.uk columns list h_columns h_list) hK
 refine⟨rfl,ann146,(L146 columns list),(.dat Ty.bool),(br (i0:=0) (by kernel_rfl) ?_),?_⟩
 ·rintro _ _ K ⟨hc0,i0,v0,rfl,hl0,rfl,hv0,h⟩
  exact cast (lvc146_0 _ _ _ _ _ _).symm (cj (t:=aD) hl0 h (fun ht0 h=>⟨hl0,⟨ht0,(oC h (fun _ h=>h) fun _ h=>(bF (t:=aD) (fun _ hm=>⟨hc0,hm⟩) _ rfl hl0 ht0 (bE h_list) trivial h))⟩⟩) fun h=>(h trivial))
 ·rw[vc146]
  exact(bN (t:=aD) (fun m hm=>⟨trivial,hm⟩) _ rfl trivial (aX h (fun v0 h hv0=>h) (fun q0 h=>h)))
def c196:Con:=⟨[.dat TCS,.mv,.dat aE],fun args hp K=>hpN 0 .sh aD (fun kinds=>rQ (fun a0 a1 a2=>eX TCS a0 fun columns=>FM 0 a1 (eX aE a2 fun p=>(Sm TCS columns)/\(Sm (Ty.sl aD) kinds)/\(Sm aE p)/\(kinds.length<=1000)/\(LD (M.wX columns kinds p) fun r=>K (.tup [.own 0 none,dB r.2]) [(0,.arr .sh aD r.1)]))) args []) hp,.mv,false⟩
abbrev C196:Ctx:=cx [(143,c143),(223,c223)] 191 [] 0 true
def ann196:=an [[.fixRow 5 aE,kp 35],[kp 291],[kp 137438953763],[kp 192],[kp 1099511628067],[kp 3298534883619],[.keep [1,5,52]],[kp 192],[kp 192],[kp 1152922604118475043],[.keep [0,1,5,68]],[kp 192],[kp 192],[.keep [1,5,8,40,79]],[kp 770],[kp 192],[.keep [1,5,8,40,107]],[kp 1282],[kp 192],[.keep [1,8,40,137]],[.keep [1,8,40,137]],[kp 2306],[kp 192],[.keep [1,8,40,166]],[kp 192],[.keep [1,8,179]],[kp 192],[kp 192]] []
abbrev S196_0 (columns:LC) (kinds:LI) (p:aE.D) (K:KA):Prop:=(0<=Z0)/\(Z0<=(bH (wrap64 ((kinds.length:Int)-Z2)) Z0))/\((bH (wrap64 ((kinds.length:Int)-Z2)) Z0)<=(kinds.length:Int))/\((bH (wrap64 ((kinds.length:Int)-Z2)) Z0)=(bH (wrap64 ((kinds.length:Int)-Z2)) Z0))/\(Z0=0)/\(((bH (wrap64 ((kinds.length:Int)-Z2)) Z0).toNat+[Z1].length) * 8<=lim)/\K (.tup [.own 0 none,dB false]) [(0,.arr .sh aD (kinds.take (bH (wrap64 ((kinds.length:Int)-Z2)) Z0).toNat++[Z1]))]
abbrev S196_1 (columns:LC) (kinds:LI) (p:aE.D) (K:KA):Prop:=(0<=Z0)/\(Z0<=(bH (wrap64 ((kinds.length:Int)-Z2)) Z0))/\((bH (wrap64 ((kinds.length:Int)-Z2)) Z0)<=(kinds.length:Int))/\((bH (wrap64 ((kinds.length:Int)-Z2)) Z0)=(bH (wrap64 ((kinds.length:Int)-Z2)) Z0))/\(Z0=0)/\(((bH (wrap64 ((kinds.length:Int)-Z2)) Z0).toNat+[Z3].length) * 8<=lim)/\K (.tup [.own 0 none,dB false]) [(0,.arr .sh aD (kinds.take (bH (wrap64 ((kinds.length:Int)-Z2)) Z0).toNat++[Z3]))]
abbrev S196_2 (columns:LC) (kinds:LI) (p:aE.D) (K:KA):Prop:=(S196_1 columns kinds p K)
abbrev S196_3 (columns:LC) (kinds:LI) (p:aE.D) (K:KA):Prop:=cond ((decide (Z1<(kinds.length:Int)))==true) ((0<=wrap64 ((kinds.length:Int)-Z1))/\(wrap64 ((kinds.length:Int)-Z1)<(kinds.length:Int))/\cond ((decide ((nI kinds (wrap64 ((kinds.length:Int)-Z1)))=Z3))==true) ((0<=wrap64 ((kinds.length:Int)-Z2))/\(wrap64 ((kinds.length:Int)-Z2)<(kinds.length:Int))/\(0<=Z0)/\(Z0<=(bH (wrap64 ((kinds.length:Int)-Z2)) Z0))/\((bH (wrap64 ((kinds.length:Int)-Z2)) Z0)<=(kinds.length:Int))/\((bH (wrap64 ((kinds.length:Int)-Z2)) Z0)=(bH (wrap64 ((kinds.length:Int)-Z2)) Z0))/\(Z0=0)/\(((bH (wrap64 ((kinds.length:Int)-Z2)) Z0).toNat+[Z3].length) * 8<=lim)/\K (.tup [.own 0 none,dB (decide ((nI kinds (wrap64 ((kinds.length:Int)-Z2)))=Z3))]) [(0,.arr .sh aD (kinds.take (bH (wrap64 ((kinds.length:Int)-Z2)) Z0).toNat++[Z3]))]) (S196_2 columns kinds p K)) (S196_2 columns kinds p K)
abbrev S196_4 (columns:LC) (kinds:LI) (p:aE.D) (K:KA):Prop:=cond (decide (p.1=(7:Int))) (cond ((decide (Z0<(kinds.length:Int)))==true) ((0<=wrap64 ((kinds.length:Int)-Z1))/\(wrap64 ((kinds.length:Int)-Z1)<(kinds.length:Int))/\K (.tup [.own 0 none,dB (decide ((nI kinds (wrap64 ((kinds.length:Int)-Z1)))=Z3))]) [(0,.arr .sh aD kinds)]) (K (.tup [.own 0 none,dB false]) [(0,.arr .sh aD kinds)])) (cond (decide (p.1=(8:Int))) ((0<=Z0)/\(Z0<=(bH (wrap64 ((kinds.length:Int)-Z1)) Z0))/\((bH (wrap64 ((kinds.length:Int)-Z1)) Z0)<=(kinds.length:Int))/\((bH (wrap64 ((kinds.length:Int)-Z1)) Z0)=(bH (wrap64 ((kinds.length:Int)-Z1)) Z0))/\(Z0=0)/\(((bH (wrap64 ((kinds.length:Int)-Z1)) Z0).toNat+[Z3].length) * 8<=lim)/\K (.tup [.own 0 none,dB (decide (Z0<(kinds.length:Int)))]) [(0,.arr .sh aD (kinds.take (bH (wrap64 ((kinds.length:Int)-Z1)) Z0).toNat++[Z3]))]) (K (.tup [.own 0 none,dB false]) [(0,.arr .sh aD kinds)]))
abbrev S196_5 (columns:LC) (kinds:LI) (p:aE.D) (K:KA):Prop:=cond (decide (p.1=Z1)) ((Sm aa p.2.2.1)/\cond ((!(M.aP p.2.2.1))==false) (cond (decide (p.2.2.1.1=Z0)) (K (.tup [.own 0 none,dB false]) [(0,.arr .sh aD kinds)]) (((kinds.length+[p.2.2.1.1].length) * 8<=lim)/\K (.tup [.own 0 none,dB true]) [(0,.arr .sh aD (kinds++[p.2.2.1.1]))])) (K (.tup [.own 0 none,dB false]) [(0,.arr .sh aD kinds)])) (cond (decide (p.1=Z2)) (cond (!(M.inR p.2.1 Z0 (wrap64 ((columns.length:Int)-Z1)))) (K (.tup [.own 0 none,dB false]) [(0,.arr .sh aD kinds)]) ((0<=p.2.1)/\(p.2.1<(columns.length:Int))/\((kinds.length+[(nC columns p.2.1).1].length) * 8<=lim)/\K (.tup [.own 0 none,dB true]) [(0,.arr .sh aD (kinds++[(nC columns p.2.1).1]))])) (cond (decide (p.1=Z3)) (cond ((decide (Z1<(kinds.length:Int)))==true) ((0<=wrap64 ((kinds.length:Int)-Z1))/\(wrap64 ((kinds.length:Int)-Z1)<(kinds.length:Int))/\cond ((decide ((nI kinds (wrap64 ((kinds.length:Int)-Z1)))=Z1))==true) ((0<=wrap64 ((kinds.length:Int)-Z2))/\(wrap64 ((kinds.length:Int)-Z2)<(kinds.length:Int))/\(0<=Z0)/\(Z0<=(bH (wrap64 ((kinds.length:Int)-Z2)) Z0))/\((bH (wrap64 ((kinds.length:Int)-Z2)) Z0)<=(kinds.length:Int))/\((bH (wrap64 ((kinds.length:Int)-Z2)) Z0)=(bH (wrap64 ((kinds.length:Int)-Z2)) Z0))/\(Z0=0)/\(((bH (wrap64 ((kinds.length:Int)-Z2)) Z0).toNat+[Z1].length) * 8<=lim)/\K (.tup [.own 0 none,dB (decide ((nI kinds (wrap64 ((kinds.length:Int)-Z2)))=Z1))]) [(0,.arr .sh aD (kinds.take (bH (wrap64 ((kinds.length:Int)-Z2)) Z0).toNat++[Z1]))]) (S196_0 columns kinds p K)) (S196_0 columns kinds p K)) (cond (decide (p.1=Z4)) (cond ((decide (Z1<(kinds.length:Int)))==true) ((0<=wrap64 ((kinds.length:Int)-Z1))/\(wrap64 ((kinds.length:Int)-Z1)<(kinds.length:Int))/\(0<=wrap64 ((kinds.length:Int)-Z2))/\(wrap64 ((kinds.length:Int)-Z2)<(kinds.length:Int))/\cond ((decide ((nI kinds (wrap64 ((kinds.length:Int)-Z1)))=(nI kinds (wrap64 ((kinds.length:Int)-Z2)))))==true) ((0<=Z0)/\(Z0<=(bH (wrap64 ((kinds.length:Int)-Z2)) Z0))/\((bH (wrap64 ((kinds.length:Int)-Z2)) Z0)<=(kinds.length:Int))/\((bH (wrap64 ((kinds.length:Int)-Z2)) Z0)=(bH (wrap64 ((kinds.length:Int)-Z2)) Z0))/\(Z0=0)/\(((bH (wrap64 ((kinds.length:Int)-Z2)) Z0).toNat+[Z3].length) * 8<=lim)/\K (.tup [.own 0 none,dB (M.inR p.2.1 Z1 Z4)]) [(0,.arr .sh aD (kinds.take (bH (wrap64 ((kinds.length:Int)-Z2)) Z0).toNat++[Z3]))]) (S196_2 columns kinds p K)) (S196_2 columns kinds p K)) (cond (decide (p.1=Z5)) (cond (decide (p.1=Z5)) (S196_3 columns kinds p K) (S196_4 columns kinds p K)) (cond (decide (p.1=Z6)) (S196_3 columns kinds p K) (S196_4 columns kinds p K))))))
abbrev S196_6 (columns:LC) (kinds:LI) (p:aE.D) (K:KA):Prop:=cond ((!decide (p.1=Z2))==true) (cond ((!decide (p.1=Z4))==true) (cond (!decide (p.2.1=Z0)) (K (.tup [.own 0 none,dB false]) [(0,.arr .sh aD kinds)]) (S196_5 columns kinds p K)) (S196_5 columns kinds p K)) (S196_5 columns kinds p K)
theorem vc196 (columns:LC) (kinds:LI) (p:aE.D) (K:KA):vcT C196 aA ann196 f196 [.data TCS columns,.own 0 none,.data aE p] [(0,.arr .sh aD kinds)] .raw K =
 (cond ((!decide (p.1=Z1))==true) (cond ((!(Ty.beq aa p.2.2.1 (Z0,(Z0,((⟨#[]⟩:ByteArray),())))))==false) (S196_6 columns kinds p K) (K (.tup [.own 0 none,dB false]) [(0,.arr .sh aD kinds)])) (S196_6 columns kinds p K)):=by kernel_rfl
theorem con196_ok:aV P 196 c196:=aY C196 func196 (kC con143_ok (kC con223_ok kN)) fun args hp K h0=>by
 unfold c196 at h0
 dsimp only at h0
 obtain⟨kinds,rfl,h00⟩:=Dk (n:=0) (d:=.sh) (t:=aD) h0
 obtain⟨a0,a1,a2,rfl,_,h1⟩:=gd h00
 obtain⟨columns,rfl,h2⟩:=bw h1
 obtain⟨rfl,h3⟩:=zp h2
 obtain⟨p,rfl,h4⟩:=bw h3
 obtain⟨h_columns,h_kinds,h_p,p0,hK⟩:=h4
 have h:ok (F.ld columns kinds p) (fun r=>K (.tup [.own 0 none,dB r.2]) [(0,.arr .sh aD r.1)]):=aB (F.za columns kinds p h_columns h_kinds h_p p0) (hK _ rfl)
 refine⟨rfl,ann196,aA,.raw,(aI (by kernel_rfl)),?_⟩
 ·rw[vc196]
  exact(oC h (fun b_1 h=>(oC h (fun _ h=>(oC h (fun b_3 h=>(oC h (fun b_4 h=>(oC h (fun _ h=>h) fun _ h=>(gj (bnt (bet b_1)) (gj (bnt (bet b_3)) (oC h (fun _ h=>(oC h (fun _ h=>(oG h fun _ h=>(oG h fun _ h=>(oC h (fun _ h=>(oG h fun _ h=>(oG h fun _ h=>⟨(Int.natCast_nonneg 0),(oG h fun _ h=>(oG h fun _ h=>⟨rfl,⟨rfl,(oG h fun _ h=>h)⟩⟩))⟩))) fun _ h=>⟨(Int.natCast_nonneg 0),(oG h fun _ h=>(oG h fun _ h=>⟨rfl,⟨rfl,(oG h fun _ h=>h)⟩⟩))⟩)))) fun _ h=>⟨(Int.natCast_nonneg 0),(oG h fun _ h=>(oG h fun _ h=>⟨rfl,⟨rfl,(oG h fun _ h=>h)⟩⟩))⟩)) fun _ h=>(gj (bnt (bet b_4)) (oC h (fun b_25 h=>(fP b_25 (oC h (fun _ h=>(oG h fun _ h=>(oG h fun _ h=>(oC h (fun _ h=>(oG h fun _ h=>(oG h fun _ h=>⟨(Int.natCast_nonneg 0),(oG h fun _ h=>(oG h fun _ h=>⟨rfl,⟨rfl,(oG h fun _ h=>h)⟩⟩))⟩))) fun _ h=>⟨(Int.natCast_nonneg 0),(oG h fun _ h=>(oG h fun _ h=>⟨rfl,⟨rfl,(oG h fun _ h=>h)⟩⟩))⟩)))) fun _ h=>⟨(Int.natCast_nonneg 0),(oG h fun _ h=>(oG h fun _ h=>⟨rfl,⟨rfl,(oG h fun _ h=>h)⟩⟩))⟩))) fun _ h=>(oC h (fun _ h=>(oC h (fun _ h=>(oG h fun _ h=>(oG h fun _ h=>(oC h (fun _ h=>(oG h fun _ h=>(oG h fun _ h=>⟨(Int.natCast_nonneg 0),(oG h fun _ h=>(oG h fun _ h=>⟨rfl,⟨rfl,(oG h fun _ h=>h)⟩⟩))⟩))) fun _ h=>⟨(Int.natCast_nonneg 0),(oG h fun _ h=>(oG h fun _ h=>⟨rfl,⟨rfl,(oG h fun _ h=>h)⟩⟩))⟩)))) fun _ h=>⟨(Int.natCast_nonneg 0),(oG h fun _ h=>(oG h fun _ h=>⟨rfl,⟨rfl,(oG h fun _ h=>h)⟩⟩))⟩)) fun _ h=>(oC h (fun _ h=>(oC h (fun _ h=>(oG h fun _ h=>(oG h fun _ h=>h))) fun _ h=>h)) fun _ h=>(oC h (fun _ h=>⟨(Int.natCast_nonneg 0),(oG h fun _ h=>(oG h fun _ h=>⟨rfl,⟨rfl,(oG h fun _ h=>h)⟩⟩))⟩) fun _ h=>h)))))))))) fun b_4 h=>(gj (bnt (bet b_1)) (gj (bnt (bet b_3)) (gj (mO (bnf (bef b_4)) (by decide)) (fP (bnf (bef b_4)) (oC h (fun _ h=>(oG h fun _ h=>(oG h fun _ h=>(oG h fun _ h=>(oG h fun _ h=>(oC h (fun _ h=>⟨(Int.natCast_nonneg 0),(oG h fun _ h=>(oG h fun _ h=>⟨rfl,⟨rfl,(oG h fun _ h=>h)⟩⟩))⟩) fun _ h=>⟨(Int.natCast_nonneg 0),(oG h fun _ h=>(oG h fun _ h=>⟨rfl,⟨rfl,(oG h fun _ h=>h)⟩⟩))⟩)))))) fun _ h=>⟨(Int.natCast_nonneg 0),(oG h fun _ h=>(oG h fun _ h=>⟨rfl,⟨rfl,(oG h fun _ h=>h)⟩⟩))⟩))))))) fun b_3 h=>(gj (bnt (bet b_1)) (fP (bnf (bef b_3)) (oC h (fun _ h=>h) fun b_110 h=>⟨(kE (bnf b_110)),⟨(oh (bnf b_110)),⟨(nK h_kinds (nq (t:=aD) trivial) rfl),h⟩⟩⟩))))) fun _ h=>h)) fun b_1 h=>(fP (uet (unt (mO (bnf (bef b_1)) (by decide)))) (fP (uet (unt (mO (bnf (bef b_1)) (by decide)))) (oC h (fun _ h=>h) fun _ h=>(fP (bnf (bef b_1)) ⟨h_p.2.2.1,(oC h (fun _ h=>(oC h (fun _ h=>h) fun _ h=>⟨(nK h_kinds (nq (t:=aD) trivial) rfl),h⟩)) fun _ h=>h)⟩)))))
def c147:Con:=⟨[.dat TCS,.dat TPS],fun args hp K=>g2 (pD TCS) (pD TPS) (fun columns e=>(Sm TCS columns)/\(Sm TPS e)/\K (dI (M.dL columns e)) []) args hp,.plain,false⟩
abbrev C147:Ctx:=cx [(178,c178),(196,c196)] 46 [] 0 false
def ann147:=an [[kp 3],[kp 32771],[kp 16],[kp 35],[kp 99],[kp 227],[kp 8388835],[kp 227],[kp 227],[.keep [5,42]],[kp 16],[kp 16]] [[kp 96]]
abbrev s147_0 (columns:LC) (e:LPt) (v0:Bool×Int×LI):St:=⟨[(0,.data TCS columns),(1,.data TPS e),(5,.own 16 none),(6,dB v0.1),(7,dI v0.2.1)],[(16,.arr .sh aD v0.2.2)]⟩
abbrev LP147_0 (columns:LC) (e:LPt) (m:Nat) (st_:St) (K:KX):Prop:=True/\cR (s147_0 columns e) (F.di columns e) (fun v0:Bool×Int×LI=>True) (fun e0:Bool×LI=>True->K (.exit 0) (⟨[(5,.own 16 none),(6,dB e0.1)],[(16,.arr .sh aD e0.2)]⟩:St)) m st_
def L147 (columns:LC) (e:LPt):bC:=lp1 0 (LP147_0 columns e)
theorem vc147 (columns:LC) (e:LPt) (K:KA):vcT C147 (L147 columns e) ann147 f147 [.data TCS columns,.data TPS e] [] (.dat aD) K =
 ((Sm TCS columns)/\cond ((!(M.bM columns))==false) (cond (decide ((12:Int)<(e.length:Int))) (K (dI (-1:Int)) []) (∃m_,True/\cR (s147_0 columns e) (F.di columns e) (fun v0:Bool×Int×LI=>True) (fun e0:Bool×LI=>True->cond ((!e0.1)==false) (cond (!decide ((e0.2.length:Int)=Z1)) (K (dI (-1:Int)) []) ((0<=Z0)/\(Z0<(e0.2.length:Int))/\K (dI (nI e0.2 Z0)) [])) (K (dI (-1:Int)) [])) m_ (s147_0 columns e (true,Z0,[])))) (K (dI (-1:Int)) [])):=by kernel_rfl
theorem lvc147_0 (columns:LC) (e:LPt)  (v0:Bool×Int×LI) (m:Nat) (K:KX):lvT C147 (L147 columns e) ann147 f147 0 0 (s147_0 columns e v0) m K =
 (cond ((decide (v0.2.1<(e.length:Int)))==true) (cond v0.1 ((0<=v0.2.1)/\(v0.2.1<(e.length:Int))/\(Sm TCS columns)/\(Sm (Ty.sl aD) v0.2.2)/\(Sm aE (nP e v0.2.1))/\(v0.2.2.length<=1000)/\(LD (M.wX columns v0.2.2 (nP e v0.2.1)) fun r1=>(nxT (LP147_0 columns e) m K (s147_0 columns e (r1.2,wrap64 (v0.2.1+Z1),r1.1))))) (K (.exit 0) (⟨[(5,.own 16 none),(6,dB v0.1)],[(16,.arr .sh aD v0.2.2)]⟩:St))) (K (.exit 0) (⟨[(5,.own 16 none),(6,dB v0.1)],[(16,.arr .sh aD v0.2.2)]⟩:St))):=by kernel_rfl
theorem con147_ok:aV P 147 c147:=aY C147 func147 (kC con178_ok (kC con196_ok kN)) fun args hp K h0=>by
 obtain⟨columns,e,rfl,rfl,h_columns,h_e,hK⟩:=g2e h0
 have h:ok (F.om columns e) (fun r=>K (dI r) []):=aB (F.wg columns e h_columns h_e) hK
 refine⟨rfl,ann147,(L147 columns e),(.dat aD),(br (i0:=0) (by kernel_rfl) ?_),?_⟩
 ·rintro _ _ K ⟨hc0,v0,rfl,hv0,h⟩
  exact cast (lvc147_0 _ _ _ _ _).symm (cm h (fun m1 hm0 h=>(oC h (fun _ h=>(oC h (fun _ h=>(oG h fun _ h=>(oG h fun _ h=>⟨h_columns,(oG h fun _ h=>⟨(aH h_e v0.2.1),(oG h fun _ h=>(oL h fun _ _ h=>(bz (fun _ hm=>⟨hc0,hm⟩) hm0 _ rfl trivial h)))⟩)⟩))) fun _ h=>((cq h :) trivial))) fun _ h=>((cq h :) trivial))))
 ·rw[vc147]
  exact⟨h_columns,(oC h (fun _ h=>(oC h (fun _ h=>h) fun _ h=>(bI (fun m hm=>⟨trivial,hm⟩) _ rfl trivial (eA h (fun e0 h hv0=>(oC h (fun _ h=>(oC h (fun _ h=>h) fun _ h=>⟨(Int.natCast_nonneg 0),(oG h fun _ h=>h)⟩)) fun _ h=>h)))))) fun _ h=>h)⟩
def c80:Con:=⟨[.dat TTb,.dat ah],fun args hp K=>g2 (pD TTb) (pD ah) (fun tables b=>(Sm TTb tables)/\(Sm ah b)/\K (dB (M.aF tables&&M.aN tables b)) []) args hp,.plain,false⟩
abbrev C80:Ctx:=cx [(48,c48),(143,c143),(146,c146),(147,c147)] 158 [] 0 false
def ann80:=an [[.fixRow 3 ah,kp 9],[kp 262153],[kp 16],[kp 41],[kp 67108905],[kp 201326633],[kp 16],[kp 36028797086072873],[kp 16],[.keep [0,3,5,84]],[.keep [0,3,5,126]],[kp 16],[kp 105],[.keep [0,3,5,6,131]],[kp 105],[.keep [0,3,5,6,157]],[kp 16],[kp 16],[kp 16]] [[],[kp 0]]
abbrev s80_1 (tables:LTb) (b:ah.D) (i1:Int) (v1:Unit):St:=⟨[(0,.data TTb tables),(3,.adr ah b),(5,.data TCS (nT tables b.2.1).1),(6,dI i1)],[]⟩
abbrev LP80_1 (tables:LTb) (b:ah.D) (m:Nat) (st_:St) (K:KX):Prop:=True/\cu (s80_1 tables b) Z0 (b.2.2.1.length:Int) (F.jX tables b) (fun v1:Unit=>True) (bA (fun v1:Unit=>True->K (.exit 1) (⟨[],[]⟩:St)) (fun q1:Unit=>K .ret (⟨[(4,dB false)],[]⟩:St))) m st_
def L80 (tables:LTb) (b:ah.D):bC:=lp1 1 (LP80_1 tables b)
theorem vc80 (tables:LTb) (b:ah.D) (K:KA):vcT C80 (L80 tables b) ann80 f80 [.data TTb tables,.data ah b] [] (.dat Ty.bool) K =
 ((Sm TTb tables)/\cond ((!(M.aF tables))==false) (cond (!(M.inR b.2.1 Z0 (wrap64 ((tables.length:Int)-Z1)))) (K (dB false) []) ((0<=b.2.1)/\(b.2.1<(tables.length:Int))/\cond (decide (b.1=Z1)) ((Sm TCS (nT tables b.2.1).1)/\(Sm (Ty.sl aD) b.2.2.1)/\cond ((M.cz (nT tables b.2.1).1 b.2.2.1)==true) (cond ((decide (b.2.2.2.1=Z0))==true) (cond ((decide ((b.2.2.2.2.1.length:Int)=Z0))==true) (cond ((!b.2.2.2.2.2.1)==true) (K (dB (decide ((b.2.2.2.2.2.2.1.length:Int)=Z0))) []) (K (dB false) [])) (K (dB false) [])) (K (dB false) [])) (K (dB false) [])) (cond (decide (b.1=Z3)) ((Sm TCS (nT tables b.2.1).1)/\(Sm TPS b.2.2.2.2.2.2.1)/\cond ((decide ((M.dL (nT tables b.2.1).1 b.2.2.2.2.2.2.1)=Z3))==true) (cond ((decide ((b.2.2.1.length:Int)=Z0))==true) (cond ((decide (b.2.2.2.1=Z0))==true) (cond ((decide ((b.2.2.2.2.1.length:Int)=Z0))==true) (K (dB (!b.2.2.2.2.2.1)) []) (K (dB false) [])) (K (dB false) [])) (K (dB false) [])) (K (dB false) [])) (cond (decide (b.1=Z2)) (cond ((!(M.inR b.2.2.2.1 Z0 (wrap64 ((tables.length:Int)-Z1))))==false) ((Sm TCS (nT tables b.2.1).1)/\(Sm (Ty.sl aD) b.2.2.1)/\cond ((!(M.cz (nT tables b.2.1).1 b.2.2.1))==false) ((0<=b.2.2.2.1)/\(b.2.2.2.1<(tables.length:Int))/\(Sm TCS (nT tables b.2.2.2.1).1)/\(Sm (Ty.sl aD) b.2.2.2.2.1)/\cond ((!(M.cz (nT tables b.2.2.2.1).1 b.2.2.2.2.1))==false) (cond ((!decide ((b.2.2.1.length:Int)=(b.2.2.2.2.1.length:Int)))==false) (cond (decide (Z0<(b.2.2.2.2.2.2.1.length:Int))) (K (dB false) []) (∃m_,True/\cu (s80_1 tables b) Z0 (b.2.2.1.length:Int) (F.jX tables b) (fun v1:Unit=>True) (bA (fun v1:Unit=>True->K (dB true) []) (fun q1:Unit=>K (dB false) [])) m_ (s80_1 tables b Z0 ()))) (K (dB false) [])) (K (dB false) [])) (K (dB false) [])) (K (dB false) [])) (K (dB false) []))))) (K (dB false) [])):=by kernel_rfl
theorem lvc80_0 (tables:LTb) (b:ah.D)  (i1:Int) (v1:Unit) (m:Nat) (K:KX):lvT C80 (L80 tables b) ann80 f80 0 1 (s80_1 tables b i1 v1) m K =
 (cond (decide (i1<(b.2.2.1.length:Int))) ((0<=i1)/\(i1<(b.2.2.1.length:Int))/\(0<=(nI b.2.2.1 i1))/\((nI b.2.2.1 i1)<((nT tables b.2.1).1.length:Int))/\(0<=b.2.2.2.1)/\(b.2.2.2.1<(tables.length:Int))/\(0<=i1)/\(i1<(b.2.2.2.2.1.length:Int))/\(0<=(nI b.2.2.2.2.1 i1))/\((nI b.2.2.2.2.1 i1)<((nT tables b.2.2.2.1).1.length:Int))/\cond (!decide ((nC (nT tables b.2.1).1 (nI b.2.2.1 i1)).1=(nC (nT tables b.2.2.2.1).1 (nI b.2.2.2.2.1 i1)).1)) (K .ret (⟨[(4,dB false)],[]⟩:St)) (nxT (LP80_1 tables b) m K (s80_1 tables b (wrap64 (i1+Z1)) ()))) (K (.exit 1) (⟨[],[]⟩:St))):=by kernel_rfl
theorem con80_ok:aV P 80 c80:=aY C80 func80 (kC con48_ok (kC con143_ok (kC con146_ok (kC con147_ok kN)))) fun args hp K h0=>by
 obtain⟨tables,b,rfl,rfl,h_tables,h_b,hK⟩:=g2e h0
 have h:ok (F.rS tables b) (fun r=>K (dB r) []):=aB (F.Av tables b h_tables h_b) hK
 refine⟨rfl,ann80,(L80 tables b),(.dat Ty.bool),(br (i0:=1) (by kernel_rfl) ?_),?_⟩
 ·rintro _ _ K ⟨hc1,i1,v1,rfl,hl1,rfl,hv1,h⟩
  exact cast (lvc80_0 _ _ _ _ _ _).symm (bJ h (fun ht1 h=>⟨hl1,⟨ht1,(oG h fun _ h=>(oG h fun _ h=>(oG h fun _ h=>(oG h fun _ h=>⟨hl1,(oG h fun _ h=>(oG h fun _ h=>(oG h fun _ h=>(oC h (fun _ h=>h) fun _ h=>(bu (fun _ hm=>⟨hc1,hm⟩) _ rfl hl1 jk ht1 (bE h_b.2.2.1) trivial h)))))⟩))))⟩⟩) fun h=>(h trivial))
 ·rw[vc80]
  exact⟨h_tables,(oC h (fun _ h=>(oC h (fun _ h=>h) fun b_2 h=>⟨(kE (bnf b_2)),⟨(oh (bnf b_2)),(oC h (fun _ h=>⟨(aH h_tables b.2.1).1,⟨h_b.2.2.1,(oC h (fun _ h=>(oC h (fun _ h=>(oC h (fun _ h=>(oC h (fun _ h=>h) fun _ h=>h)) fun _ h=>h)) fun _ h=>h)) fun _ h=>h)⟩⟩) fun _ h=>(oC h (fun _ h=>⟨(aH h_tables b.2.1).1,⟨h_b.2.2.2.2.2.2.1,(oC h (fun _ h=>(oC h (fun _ h=>(oC h (fun _ h=>(oC h (fun _ h=>h) fun _ h=>h)) fun _ h=>h)) fun _ h=>h)) fun _ h=>h)⟩⟩) fun _ h=>(oC h (fun _ h=>(oC h (fun b_14 h=>⟨(aH h_tables b.2.1).1,⟨h_b.2.2.1,(oC h (fun _ h=>⟨(kE (bnf (bgt b_14))),⟨(oh (bnf (bgt b_14))),⟨(aH h_tables b.2.2.2.1).1,⟨h_b.2.2.2.2.1,(oC h (fun _ h=>(oC h (fun _ h=>(oC h (fun _ h=>h) fun _ h=>(bp (fun m hm=>⟨trivial,hm⟩) Z0 _ rfl (Int.natCast_nonneg 0) trivial (aX h (fun v1 h hv1=>h) (fun q1 h=>h))))) fun _ h=>h)) fun _ h=>h)⟩⟩⟩⟩) fun _ h=>h)⟩⟩) fun _ h=>h)) fun _ h=>h)))⟩⟩)) fun _ h=>h)⟩
def c150:Con:=⟨[.dat aD],fun args hp K=>g1 (pD aD) (fun truth=>(LD (M.valueOf truth) fun r=>K (.data aa r) [])) args hp,.plain,false⟩
abbrev C150:Ctx:=cx [] 12 [] 0 false
def ann150:=an [[kp 5],[kp 261],[kp 4],[kp 4]] []
theorem vc150 (truth:Int) (K:KA):vcT C150 aA ann150 f150 [dI truth] [] (.dat aa) K =
 (cond ((decide (truth=Z0))==false) (cond (decide (truth=Z1)) (K (.data aa (Z3,(truth,((⟨#[]⟩:ByteArray),())))) []) (K (.data aa (Z0,(Z0,((⟨#[]⟩:ByteArray),())))) [])) (K (.data aa (Z3,(truth,((⟨#[]⟩:ByteArray),())))) [])):=by kernel_rfl
theorem con150_ok:aV P 150 c150:=aY C150 func150 kN fun args hp K h0=>by
 obtain⟨truth,rfl,rfl,hK⟩:=g1e h0
 have h:ok (F.qp truth) (fun r=>K (.data aa r) []):=aB (F.xP truth) (hK _ rfl)
 refine⟨rfl,ann150,aA,(.dat aa),(aI (by kernel_rfl)),?_⟩
 ·rw[vc150]
  exact(oC h (fun _ h=>(oC h (fun _ h=>h) fun _ h=>h)) fun _ h=>h)
def c224:Con:=⟨[.dat aa,.dat aa],fun args hp K=>g2 (pD aa) (pD aa) (fun a b=>(Sm aa a)/\(Sm aa b)/\(LD (M.sum a b) fun r=>K (.data aa r) [])) args hp,.plain,false⟩
abbrev C224:Ctx:=cx [(143,c143)] 27 [] 0 false
def ann224:=an [[.fixRow 2 aa,.fixRow 3 aa,kp 28],[kp 60],[kp 8388656],[kp 16],[kp 16]] []
theorem vc224 (a:aa.D) (b:aa.D) (K:KA):vcT C224 aA ann224 f224 [.data aa a,.data aa b] [] (.dat aa) K =
 (cond ((decide (a.1=Z0))==false) (cond ((decide (b.1=Z0))==false) (cond (!(M.inR (wrap64 (a.2.1+b.2.1)) (-9999:Int) (9999:Int))) (K (.data aa (Z0,(Z0,((⟨#[]⟩:ByteArray),())))) []) (K (.data aa (Z1,(wrap64 (a.2.1+b.2.1),((⟨#[]⟩:ByteArray),())))) [])) (K (.data aa (Z0,(Z0,((⟨#[]⟩:ByteArray),())))) [])) (K (.data aa (Z0,(Z0,((⟨#[]⟩:ByteArray),())))) [])):=by kernel_rfl
theorem con224_ok:aV P 224 c224:=aY C224 func224 (kC con143_ok kN) fun args hp K h0=>by
 obtain⟨a,b,rfl,rfl,h_a,h_b,hK⟩:=g2e h0
 have h:ok (F.tX a b) (fun r=>K (.data aa r) []):=aB (F.AT a b h_a h_b) (hK _ rfl)
 refine⟨rfl,ann224,aA,(.dat aa),(aI (by kernel_rfl)),?_⟩
 ·rw[vc224]
  exact(oC h (fun _ h=>(oC h (fun _ h=>(oC h (fun _ h=>h) fun _ h=>h)) fun _ h=>h)) fun _ h=>h)
def c230:Con:=⟨[.dat Ty.bool],fun args hp K=>g1 (pD Ty.bool) (fun b=>K (dI (M.bool b)) []) args hp,.plain,false⟩
abbrev C230:Ctx:=cx [] 4 [] 0 false
def ann230:=an [[kp 1],[kp 8],[kp 4],[kp 4]] []
theorem vc230 (b:Bool) (K:KA):vcT C230 aA ann230 f230 [dB b] [] (.dat aD) K =
 (cond b (K (dI Z1) []) (K (dI Z0) [])):=by kernel_rfl
theorem con230_ok:aV P 230 c230:=aY C230 func230 kN fun args hp K h0=>by
 obtain⟨b,rfl,rfl,hK⟩:=g1e h0
 have h:ok (F.si b) (fun r=>K (dI r) []):=aB (F.Ay b) hK
 refine⟨rfl,ann230,aA,(.dat aD),(aI (by kernel_rfl)),?_⟩
 ·rw[vc230]
  exact(oC h (fun _ h=>h) fun _ h=>h)
def c258:Con:=⟨[.dat aD,.dat aD],fun args hp K=>g2 (pD aD) (pD aD) (fun a b=>K (dI (M.less a b)) []) args hp,.plain,false⟩
abbrev C258:Ctx:=cx [] 8 [] 0 false
def ann258:=an [[kp 3],[kp 128],[kp 16],[kp 16]] []
theorem vc258 (a:Int) (b:Int) (K:KA):vcT C258 aA ann258 f258 [dI a,dI b] [] (.dat aD) K =
 (cond (decide (a<b)) (K (dI Z1) []) (K (dI Z0) [])):=by kernel_rfl
theorem con258_ok:aV P 258 c258:=aY C258 func258 kN fun args hp K h0=>by
 obtain⟨a,b,rfl,rfl,hK⟩:=g2e h0
 have h:ok (F.rq a b) (fun r=>K (dI r) []):=aB (F.zk a b) hK
 refine⟨rfl,ann258,aA,(.dat aD),(aI (by kernel_rfl)),?_⟩
 ·rw[vc258]
  exact(oC h (fun _ h=>h) fun _ h=>h)
def c259:Con:=⟨[.dat Ty.str,.dat Ty.str],fun args hp K=>g2 (pD Ty.str) (pD Ty.str) (fun a b=>(Sm Ty.str a)/\(Sm Ty.str b)/\K (dI (M.vN a b)) []) args hp,.plain,false⟩
abbrev C259:Ctx:=cx [] 11 [] 0 false
def ann259:=an [[kp 3],[kp 131],[kp 16],[kp 1024],[kp 16],[kp 16]] []
theorem vc259 (a:ByteArray) (b:ByteArray) (K:KA):vcT C259 aA ann259 f259 [.data Ty.str a,.data Ty.str b] [] (.dat aD) K =
 (cond (Op.bytesLess a.toList b.toList) (K (dI (-1:Int)) []) (cond (!(Op.bytesLess a.toList b.toList||decide (a=b))) (K (dI Z1) []) (K (dI Z0) []))):=by kernel_rfl
theorem con259_ok:aV P 259 c259:=aY C259 func259 kN fun args hp K h0=>by
 obtain⟨a,b,rfl,rfl,h_a,h_b,hK⟩:=g2e h0
 have h:ok (F.uj a b) (fun r=>K (dI r) []):=aB (F.AW a b h_a h_b) hK
 refine⟨rfl,ann259,aA,(.dat aD),(aI (by kernel_rfl)),?_⟩
 ·rw[vc259]
  exact(oC h (fun _ h=>h) fun _ h=>(oC h (fun _ h=>h) fun _ h=>h))
def c250:Con:=⟨[.dat aa,.dat aa],fun args hp K=>g2 (pD aa) (pD aa) (fun a b=>(Sm aa a)/\(Sm aa b)/\K (dI (M.eH a b)) []) args hp,.plain,false⟩
abbrev C250:Ctx:=cx [(223,c223),(258,c258),(259,c259)] 44 [] 0 false
def ann250:=an [[.fixRow 2 aa,.fixRow 3 aa,kp 12],[kp 4108],[kp 16],[kp 8204],[kp 16],[kp 67108876],[kp 16],[kp 16]] []
theorem vc250 (a:aa.D) (b:aa.D) (K:KA):vcT C250 aA ann250 f250 [.data aa a,.data aa b] [] (.dat aD) K =
 ((Sm aa a)/\cond ((!(M.aP a))==false) ((Sm aa b)/\cond (!(M.aP b)) (K (dI Z0) []) (cond (!decide (a.1=b.1)) (K (dI (wrap64 (wrap64 (Z2 * (M.less b.1 a.1))-Z1))) []) (cond (!decide (a.2.1=b.2.1)) (K (dI (wrap64 (wrap64 (Z2 * (M.less b.2.1 a.2.1))-Z1))) []) ((Sm Ty.str a.2.2.1)/\(Sm Ty.str b.2.2.1)/\K (dI (M.vN a.2.2.1 b.2.2.1)) [])))) (K (dI Z0) [])):=by kernel_rfl
theorem con250_ok:aV P 250 c250:=aY C250 func250 (kC con223_ok (kC con258_ok (kC con259_ok kN))) fun args hp K h0=>by
 obtain⟨a,b,rfl,rfl,h_a,h_b,hK⟩:=g2e h0
 have h:ok (F.lR a b) (fun r=>K (dI r) []):=aB (F.ua a b h_a h_b) hK
 refine⟨rfl,ann250,aA,(.dat aD),(aI (by kernel_rfl)),?_⟩
 ·rw[vc250]
  exact⟨h_a,(oC h (fun _ h=>⟨h_b,(oC h (fun _ h=>h) fun _ h=>(oC h (fun _ h=>h) fun _ h=>(oC h (fun _ h=>h) fun _ h=>⟨h_a.2.2.1,⟨h_b.2.2.1,h⟩⟩)))⟩) fun _ h=>h)⟩
def c225:Con:=⟨[.dat aD,.dat aa,.dat aa],fun args hp K=>g3 (pD aD) (pD aa) (pD aa) (fun kind a b=>(Sm aa a)/\(Sm aa b)/\K (dI (M.compare kind a b)) []) args hp,.plain,false⟩
abbrev C225:Ctx:=cx [(143,c143),(223,c223),(230,c230),(250,c250)] 65 [] 0 false
def ann225:=an [[.fixRow 4 aa,.fixRow 5 aa,kp 49],[kp 177],[kp 64],[kp 2097201],[kp 64],[kp 1073741873],[kp 64],[kp 68719476785],[kp 64],[kp 17592186044465],[kp 64],[.keep [4,5,52]],[kp 64],[kp 64]] []
theorem vc225 (kind:Int) (a:aa.D) (b:aa.D) (K:KA):vcT C225 aA ann225 f225 [dI kind,.data aa a,.data aa b] [] (.dat aD) K =
 (cond ((!(M.inR kind Z1 Z4))==false) ((Sm aa a)/\cond ((!(M.aP a))==false) ((Sm aa b)/\cond (!(M.aP b)) (K (dI (-1:Int)) []) (cond ((decide (a.1=Z0))==false) (cond (decide (b.1=Z0)) (K (dI Z2) []) (cond (!decide (a.1=b.1)) (K (dI (-1:Int)) []) (cond (decide (kind=Z1)) ((Sm aa a)/\(Sm aa b)/\K (dI (M.bool (decide ((M.eH a b)=Z0)))) []) (cond (decide (kind=Z2)) ((Sm aa a)/\(Sm aa b)/\K (dI (M.bool (!decide ((M.eH a b)=Z0)))) []) (cond (decide (kind=Z3)) ((Sm aa a)/\(Sm aa b)/\K (dI (M.bool (decide ((M.eH a b)<Z0)))) []) ((Sm aa a)/\(Sm aa b)/\K (dI (M.bool (decide ((M.eH a b)<=Z0)))) [])))))) (K (dI Z2) []))) (K (dI (-1:Int)) [])) (K (dI (-1:Int)) [])):=by kernel_rfl
theorem con225_ok:aV P 225 c225:=aY C225 func225 (kC con143_ok (kC con223_ok (kC con230_ok (kC con250_ok kN)))) fun args hp K h0=>by
 obtain⟨kind,a,b,rfl,rfl,h_a,h_b,hK⟩:=g3e h0
 have h:ok (F.pS kind a b) (fun r=>K (dI r) []):=aB (F.xV kind a b h_a h_b) hK
 refine⟨rfl,ann225,aA,(.dat aD),(aI (by kernel_rfl)),?_⟩
 ·rw[vc225]
  exact(oC h (fun _ h=>⟨h_a,(oC h (fun _ h=>⟨h_b,(oC h (fun _ h=>h) fun _ h=>(oC h (fun _ h=>(oC h (fun _ h=>h) fun _ h=>(oC h (fun _ h=>h) fun _ h=>(oC h (fun _ h=>⟨h_a,⟨h_b,h⟩⟩) fun _ h=>(oC h (fun _ h=>⟨h_a,⟨h_b,h⟩⟩) fun _ h=>(oC h (fun _ h=>⟨h_a,⟨h_b,h⟩⟩) fun _ h=>⟨h_a,⟨h_b,h⟩⟩)))))) fun _ h=>h))⟩) fun _ h=>h)⟩) fun _ h=>h)
def c251:Con:=⟨[.dat aD],fun args hp K=>g1 (pD aD) (fun n=>K (dB (M.inR n 0 2)) []) args hp,.plain,false⟩
abbrev C251:Ctx:=cx [(143,c143)] 5 [] 0 false
def ann251:=an [[kp 1],[kp 4]] []
theorem vc251 (n:Int) (K:KA):vcT C251 aA ann251 f251 [dI n] [] (.dat Ty.bool) K =
 (K (dB (M.inR n Z0 Z2)) []):=by kernel_rfl
theorem con251_ok:aV P 251 c251:=aY C251 func251 (kC con143_ok kN) fun args hp K h0=>by
 obtain⟨n,rfl,rfl,hK⟩:=g1e h0
 have h:ok (F.ve n) (fun r=>K (dB r) []):=aB (F.yF n) hK
 refine⟨rfl,ann251,aA,(.dat Ty.bool),(aI (by kernel_rfl)),?_⟩
 ·rw[vc251]
  exact h
def c252:Con:=⟨[.dat aD],fun args hp K=>g1 (pD aD) (fun n=>(M.inR n 0 2=true)/\K (dI (M.sure n)) []) args hp,.plain,false⟩
abbrev C252:Ctx:=cx [] 7 [] 0 false
def ann252:=an [[kp 1],[kp 4]] []
theorem vc252 (n:Int) (K:KA):vcT C252 aA ann252 f252 [dI n] [] (.dat aD) K =
 ((0<=n)/\(n<([Z0,Z2,Z1].length:Int))/\K (dI (nI [Z0,Z2,Z1] n)) []):=by kernel_rfl
theorem con252_ok:aV P 252 c252:=aY C252 func252 kN fun args hp K h0=>by
 obtain⟨n,rfl,rfl,p0,hK⟩:=g1e h0
 have h:ok (F.sq n) (fun r=>K (dI r) []):=aB (F.yX n p0) hK
 refine⟨rfl,ann252,aA,(.dat aD),(aI (by kernel_rfl)),?_⟩
 ·rw[vc252]
  exact(oG h fun _ h=>(oG h fun _ h=>h))
def c226:Con:=⟨[.dat aD,.dat aD],fun args hp K=>g2 (pD aD) (pD aD) (fun a b=>K (dI (M.rV a b)) []) args hp,.plain,false⟩
abbrev C226:Ctx:=cx [(251,c251),(252,c252)] 19 [] 0 false
def ann226:=an [[kp 3],[kp 4099],[kp 16],[kp 16]] []
theorem vc226 (a:Int) (b:Int) (K:KA):vcT C226 aA ann226 f226 [dI a,dI b] [] (.dat aD) K =
 (cond ((!(M.inR a 0 2))==false) (cond (!(M.inR b 0 2)) (K (dI (-1:Int)) []) ((M.inR a 0 2=true)/\(M.inR b 0 2=true)/\(M.inR (IY (M.sure a) (M.sure b)) 0 2=true)/\K (dI (M.sure (IY (M.sure a) (M.sure b)))) [])) (K (dI (-1:Int)) [])):=by kernel_rfl
theorem con226_ok:aV P 226 c226:=aY C226 func226 (kC con251_ok (kC con252_ok kN)) fun args hp K h0=>by
 obtain⟨a,b,rfl,rfl,hK⟩:=g2e h0
 have h:ok (F.uB a b) (fun r=>K (dI r) []):=aB (F.AL a b) hK
 refine⟨rfl,ann226,aA,(.dat aD),(aI (by kernel_rfl)),?_⟩
 ·rw[vc226]
  exact(oC h (fun b_1 h=>(oC h (fun _ h=>h) fun b_2 h=>⟨(bnf (bgt b_1)),⟨(bnf b_2),(oG h fun _ h=>h)⟩⟩)) fun _ h=>h)
def c227:Con:=⟨[.dat aa],fun args hp K=>g1 (pD aa) (fun v=>(Sm aa v)/\K (dI (M.cv v)) []) args hp,.plain,false⟩
abbrev C227:Ctx:=cx [(223,c223)] 23 [] 0 false
def ann227:=an [[.fixRow 1 aa,kp 2],[kp 10],[kp 4],[kp 131074],[kp 4],[kp 4]] []
theorem vc227 (v:aa.D) (K:KA):vcT C227 aA ann227 f227 [.data aa v] [] (.dat aD) K =
 ((Sm aa v)/\cond ((!(M.aP v))==false) (cond ((decide (v.1=Z1))==false) (cond (decide (v.1=Z2)) (K (dI (-1:Int)) []) (cond (decide (v.1=Z0)) (K (dI Z2) []) (K (dI v.2.1) []))) (K (dI (-1:Int)) [])) (K (dI (-1:Int)) [])):=by kernel_rfl
theorem con227_ok:aV P 227 c227:=aY C227 func227 (kC con223_ok kN) fun args hp K h0=>by
 obtain⟨v,rfl,rfl,h_v,hK⟩:=g1e h0
 have h:ok (F.qk v) (fun r=>K (dI r) []):=aB (F.yx v h_v) hK
 refine⟨rfl,ann227,aA,(.dat aD),(aI (by kernel_rfl)),?_⟩
 ·rw[vc227]
  exact⟨h_v,(oC h (fun _ h=>(oC h (fun _ h=>(oC h (fun _ h=>h) fun _ h=>(oC h (fun _ h=>h) fun _ h=>h))) fun _ h=>h)) fun _ h=>h)⟩
def c228:Con:=⟨[.dat aD,.dat aD],fun args hp K=>g2 (pD aD) (pD aD) (fun a b=>K (dI (M.zU a b)) []) args hp,.plain,false⟩
abbrev C228:Ctx:=cx [(251,c251),(252,c252)] 19 [] 0 false
def ann228:=an [[kp 3],[kp 4099],[kp 16],[kp 16]] []
theorem vc228 (a:Int) (b:Int) (K:KA):vcT C228 aA ann228 f228 [dI a,dI b] [] (.dat aD) K =
 (cond ((!(M.inR a 0 2))==false) (cond (!(M.inR b 0 2)) (K (dI (-1:Int)) []) ((M.inR a 0 2=true)/\(M.inR b 0 2=true)/\(M.inR (bH (M.sure a) (M.sure b)) 0 2=true)/\K (dI (M.sure (bH (M.sure a) (M.sure b)))) [])) (K (dI (-1:Int)) [])):=by kernel_rfl
theorem con228_ok:aV P 228 c228:=aY C228 func228 (kC con251_ok (kC con252_ok kN)) fun args hp K h0=>by
 obtain⟨a,b,rfl,rfl,hK⟩:=g2e h0
 have h:ok (F.wA a b) (fun r=>K (dI r) []):=aB (F.CC a b) hK
 refine⟨rfl,ann228,aA,(.dat aD),(aI (by kernel_rfl)),?_⟩
 ·rw[vc228]
  exact(oC h (fun b_1 h=>(oC h (fun _ h=>h) fun b_2 h=>⟨(bnf (bgt b_1)),⟨(bnf b_2),(oG h fun _ h=>h)⟩⟩)) fun _ h=>h)
def c229:Con:=⟨[.dat aD],fun args hp K=>g1 (pD aD) (fun a=>K (dI (M.rR a)) []) args hp,.plain,false⟩
abbrev C229:Ctx:=cx [(251,c251),(252,c252)] 10 [] 0 false
def ann229:=an [[kp 1],[kp 33],[kp 4],[kp 4]] []
theorem vc229 (a:Int) (K:KA):vcT C229 aA ann229 f229 [dI a] [] (.dat aD) K =
 (cond (!(M.inR a 0 2)) (K (dI (-1:Int)) []) ((M.inR a 0 2=true)/\(M.inR (wrap64 (Z2-(M.sure a))) 0 2=true)/\K (dI (M.sure (wrap64 (Z2-(M.sure a))))) [])):=by kernel_rfl
theorem con229_ok:aV P 229 c229:=aY C229 func229 (kC con251_ok (kC con252_ok kN)) fun args hp K h0=>by
 obtain⟨a,rfl,rfl,hK⟩:=g1e h0
 have h:ok (F.tN a) (fun r=>K (dI r) []):=aB (F.Bi a) hK
 refine⟨rfl,ann229,aA,(.dat aD),(aI (by kernel_rfl)),?_⟩
 ·rw[vc229]
  exact(oC h (fun _ h=>h) fun b_1 h=>⟨(bnf b_1),(oG h fun _ h=>h)⟩)
def c197:Con:=⟨[.dat TVS,.mv,.dat aE],fun args hp K=>hpN 0 .sh aa (fun values=>rQ (fun a0 a1 a2=>eX TVS a0 fun row=>FM 0 a1 (eX aE a2 fun p=>(Sm TVS row)/\(Sm TVS values)/\(Sm aE p)/\(values.length<=1000)/\(M.takes p<=(values.length:Int))/\(1<=p.1/\p.1<=8)/\(M.nR p row.length)/\(LD (M.fz row values p) fun r=>K (.own 0 none) [(0,.arr .sh aa r)]))) args []) hp,.mv,false⟩
abbrev C197:Ctx:=cx [(150,c150),(224,c224),(225,c225),(226,c226),(227,c227),(228,c228),(229,c229),(230,c230)] 145 [] 0 true
def ann197:=an [[.fixRow 5 aE,kp 35],[kp 163],[kp 2211],[kp 6307],[kp 64],[kp 526499],[kp 64],[kp 536873122],[kp 64],[kp 281474976712866],[kp 64],[.keep [1,7,11,70]],[kp 64],[.keep [1,7,11,92]],[kp 64],[.keep [1,7,114]],[kp 64],[kp 64]] []
theorem vc197 (row:LV) (values:LV) (p:aE.D) (K:KA):vcT C197 aA ann197 f197 [.data TVS row,.own 0 none,.data aE p] [(0,.arr .sh aa values)] .raw K =
 (cond (decide (p.1=Z1)) (((values.length+[p.2.2.1].length) * 32<=lim)/\K (.own 0 none) [(0,.arr .sh aa (values++[p.2.2.1]))]) (cond (decide (p.1=Z2)) ((0<=p.2.1)/\(p.2.1<(row.length:Int))/\((values.length+[(nV row p.2.1)].length) * 32<=lim)/\K (.own 0 none) [(0,.arr .sh aa (values++[(nV row p.2.1)]))]) (cond (decide (p.1=Z3)) ((0<=Z0)/\(Z0<=wrap64 ((values.length:Int)-Z2))/\(wrap64 ((values.length:Int)-Z2)<=(values.length:Int))/\(wrap64 ((values.length:Int)-Z2)=wrap64 ((values.length:Int)-Z2))/\(0<=wrap64 ((values.length:Int)-Z2))/\(wrap64 ((values.length:Int)-Z2)<(values.length:Int))/\(0<=wrap64 ((values.length:Int)-Z1))/\(wrap64 ((values.length:Int)-Z1)<(values.length:Int))/\(Sm aa (nV values (wrap64 ((values.length:Int)-Z2))))/\(Sm aa (nV values (wrap64 ((values.length:Int)-Z1))))/\(LD (M.sum (nV values (wrap64 ((values.length:Int)-Z2))) (nV values (wrap64 ((values.length:Int)-Z1)))) fun r1=>(Z0=0)/\(((wrap64 ((values.length:Int)-Z2)).toNat+[r1].length) * 32<=lim)/\K (.own 0 none) [(0,.arr .sh aa (values.take (wrap64 ((values.length:Int)-Z2)).toNat++[r1]))])) (cond (decide (p.1=Z4)) ((0<=Z0)/\(Z0<=wrap64 ((values.length:Int)-Z2))/\(wrap64 ((values.length:Int)-Z2)<=(values.length:Int))/\(wrap64 ((values.length:Int)-Z2)=wrap64 ((values.length:Int)-Z2))/\(0<=wrap64 ((values.length:Int)-Z2))/\(wrap64 ((values.length:Int)-Z2)<(values.length:Int))/\(0<=wrap64 ((values.length:Int)-Z1))/\(wrap64 ((values.length:Int)-Z1)<(values.length:Int))/\(Sm aa (nV values (wrap64 ((values.length:Int)-Z2))))/\(Sm aa (nV values (wrap64 ((values.length:Int)-Z1))))/\(LD (M.valueOf (M.compare p.2.1 (nV values (wrap64 ((values.length:Int)-Z2))) (nV values (wrap64 ((values.length:Int)-Z1))))) fun r2=>(Z0=0)/\(((wrap64 ((values.length:Int)-Z2)).toNat+[r2].length) * 32<=lim)/\K (.own 0 none) [(0,.arr .sh aa (values.take (wrap64 ((values.length:Int)-Z2)).toNat++[r2]))])) (cond (decide (p.1=Z5)) ((0<=Z0)/\(Z0<=wrap64 ((values.length:Int)-Z2))/\(wrap64 ((values.length:Int)-Z2)<=(values.length:Int))/\(wrap64 ((values.length:Int)-Z2)=wrap64 ((values.length:Int)-Z2))/\(0<=wrap64 ((values.length:Int)-Z2))/\(wrap64 ((values.length:Int)-Z2)<(values.length:Int))/\(0<=wrap64 ((values.length:Int)-Z1))/\(wrap64 ((values.length:Int)-Z1)<(values.length:Int))/\(Sm aa (nV values (wrap64 ((values.length:Int)-Z2))))/\(Sm aa (nV values (wrap64 ((values.length:Int)-Z1))))/\(LD (M.valueOf (M.rV (M.cv (nV values (wrap64 ((values.length:Int)-Z2)))) (M.cv (nV values (wrap64 ((values.length:Int)-Z1)))))) fun r3=>(Z0=0)/\(((wrap64 ((values.length:Int)-Z2)).toNat+[r3].length) * 32<=lim)/\K (.own 0 none) [(0,.arr .sh aa (values.take (wrap64 ((values.length:Int)-Z2)).toNat++[r3]))])) (cond (decide (p.1=Z6)) ((0<=Z0)/\(Z0<=wrap64 ((values.length:Int)-Z2))/\(wrap64 ((values.length:Int)-Z2)<=(values.length:Int))/\(wrap64 ((values.length:Int)-Z2)=wrap64 ((values.length:Int)-Z2))/\(0<=wrap64 ((values.length:Int)-Z2))/\(wrap64 ((values.length:Int)-Z2)<(values.length:Int))/\(0<=wrap64 ((values.length:Int)-Z1))/\(wrap64 ((values.length:Int)-Z1)<(values.length:Int))/\(Sm aa (nV values (wrap64 ((values.length:Int)-Z2))))/\(Sm aa (nV values (wrap64 ((values.length:Int)-Z1))))/\(LD (M.valueOf (M.zU (M.cv (nV values (wrap64 ((values.length:Int)-Z2)))) (M.cv (nV values (wrap64 ((values.length:Int)-Z1)))))) fun r4=>(Z0=0)/\(((wrap64 ((values.length:Int)-Z2)).toNat+[r4].length) * 32<=lim)/\K (.own 0 none) [(0,.arr .sh aa (values.take (wrap64 ((values.length:Int)-Z2)).toNat++[r4]))])) (cond (decide (p.1=(7:Int))) ((0<=Z0)/\(Z0<=wrap64 ((values.length:Int)-Z1))/\(wrap64 ((values.length:Int)-Z1)<=(values.length:Int))/\(wrap64 ((values.length:Int)-Z1)=wrap64 ((values.length:Int)-Z1))/\(0<=wrap64 ((values.length:Int)-Z1))/\(wrap64 ((values.length:Int)-Z1)<(values.length:Int))/\(Sm aa (nV values (wrap64 ((values.length:Int)-Z1))))/\(LD (M.valueOf (M.rR (M.cv (nV values (wrap64 ((values.length:Int)-Z1)))))) fun r5=>(Z0=0)/\(((wrap64 ((values.length:Int)-Z1)).toNat+[r5].length) * 32<=lim)/\K (.own 0 none) [(0,.arr .sh aa (values.take (wrap64 ((values.length:Int)-Z1)).toNat++[r5]))])) ((0<=Z0)/\(Z0<=wrap64 ((values.length:Int)-Z1))/\(wrap64 ((values.length:Int)-Z1)<=(values.length:Int))/\(wrap64 ((values.length:Int)-Z1)=wrap64 ((values.length:Int)-Z1))/\(0<=wrap64 ((values.length:Int)-Z1))/\(wrap64 ((values.length:Int)-Z1)<(values.length:Int))/\(LD (M.valueOf (M.bool (decide ((nV values (wrap64 ((values.length:Int)-Z1))).1=Z0)))) fun r6=>(Z0=0)/\(((wrap64 ((values.length:Int)-Z1)).toNat+[r6].length) * 32<=lim)/\K (.own 0 none) [(0,.arr .sh aa (values.take (wrap64 ((values.length:Int)-Z1)).toNat++[r6]))]))))))))):=by kernel_rfl
theorem con197_ok:aV P 197 c197:=aY C197 func197 (kC con150_ok (kC con224_ok (kC con225_ok (kC con226_ok (kC con227_ok (kC con228_ok (kC con229_ok (kC con230_ok kN)))))))) fun args hp K h0=>by
 unfold c197 at h0
 dsimp only at h0
 obtain⟨values,rfl,h00⟩:=Dk (n:=0) (d:=.sh) (t:=aa) h0
 obtain⟨a0,a1,a2,rfl,_,h1⟩:=gd h00
 obtain⟨row,rfl,h2⟩:=bw h1
 obtain⟨rfl,h3⟩:=zp h2
 obtain⟨p,rfl,h4⟩:=bw h3
 obtain⟨h_row,h_values,h_p,p0,p1,p2,p3,hK⟩:=h4
 have h:ok (F.sU row values p) (fun r=>K (.own 0 none) [(0,.arr .sh aa r)]):=aB (F.Cn row values p h_row h_values h_p p0 p1 p2 p3) (hK _ rfl)
 refine⟨rfl,ann197,aA,.raw,(aI (by kernel_rfl)),?_⟩
 ·rw[vc197]
  exact(oC h (fun _ h=>⟨(nK h_values (nq h_p.2.2.1) rfl),h⟩) fun _ h=>(oC h (fun _ h=>(oG h fun _ h=>(oG h fun _ h=>⟨(nK h_values (nq (aH h_row p.2.1)) rfl),h⟩))) fun _ h=>(oC h (fun _ h=>⟨(Int.natCast_nonneg 0),(oG h fun _ h=>(oG h fun _ h=>⟨rfl,(oG h fun _ h=>(oG h fun _ h=>(oG h fun _ h=>(oG h fun _ h=>⟨(aH h_values (wrap64 ((values.length:Int)-Z2))),⟨(aH h_values (wrap64 ((values.length:Int)-Z1))),(oL h fun _ _ h=>⟨rfl,(oG h fun _ h=>h)⟩)⟩⟩))))⟩))⟩) fun _ h=>(oC h (fun _ h=>⟨(Int.natCast_nonneg 0),(oG h fun _ h=>(oG h fun _ h=>⟨rfl,(oG h fun _ h=>(oG h fun _ h=>(oG h fun _ h=>(oG h fun _ h=>⟨(aH h_values (wrap64 ((values.length:Int)-Z2))),⟨(aH h_values (wrap64 ((values.length:Int)-Z1))),(oL h fun _ _ h=>⟨rfl,(oG h fun _ h=>h)⟩)⟩⟩))))⟩))⟩) fun _ h=>(oC h (fun _ h=>⟨(Int.natCast_nonneg 0),(oG h fun _ h=>(oG h fun _ h=>⟨rfl,(oG h fun _ h=>(oG h fun _ h=>(oG h fun _ h=>(oG h fun _ h=>⟨(aH h_values (wrap64 ((values.length:Int)-Z2))),⟨(aH h_values (wrap64 ((values.length:Int)-Z1))),(oL h fun _ _ h=>⟨rfl,(oG h fun _ h=>h)⟩)⟩⟩))))⟩))⟩) fun _ h=>(oC h (fun _ h=>⟨(Int.natCast_nonneg 0),(oG h fun _ h=>(oG h fun _ h=>⟨rfl,(oG h fun _ h=>(oG h fun _ h=>(oG h fun _ h=>(oG h fun _ h=>⟨(aH h_values (wrap64 ((values.length:Int)-Z2))),⟨(aH h_values (wrap64 ((values.length:Int)-Z1))),(oL h fun _ _ h=>⟨rfl,(oG h fun _ h=>h)⟩)⟩⟩))))⟩))⟩) fun _ h=>(oC h (fun _ h=>⟨(Int.natCast_nonneg 0),(oG h fun _ h=>(oG h fun _ h=>⟨rfl,(oG h fun _ h=>(oG h fun _ h=>⟨(aH h_values (wrap64 ((values.length:Int)-Z1))),(oL h fun _ _ h=>⟨rfl,(oG h fun _ h=>h)⟩)⟩))⟩))⟩) fun _ h=>⟨(Int.natCast_nonneg 0),(oG h fun _ h=>(oG h fun _ h=>⟨rfl,(oG h fun _ h=>(oG h fun _ h=>(oL h fun _ _ h=>⟨rfl,(oG h fun _ h=>h)⟩)))⟩))⟩)))))))
def c149:Con:=⟨[.dat TVS,.dat TPS],fun args hp K=>g2 (pD TVS) (pD TPS) (fun row e=>(Sm TVS row)/\(Sm TPS e)/\(M.jG row.length e)/\(LD (M.ff row e) fun r=>K (.data aa r) [])) args hp,.plain,false⟩
abbrev C149:Ctx:=cx [(197,c197)] 24 [] 0 false
def ann149:=an [[kp 19],[kp 51],[kp 115],[kp 2163],[kp 115],[kp 115],[kp 16]] [[kp 48]]
abbrev s149_0 (row:LV) (e:LPt) (i0:Int) (v0:LV):St:=⟨[(0,.data TVS row),(1,.data TPS e),(4,.ptr 4 0),(5,.own 7 none),(6,dI i0)],[(4,.box [dI Z0,dI Z0,.data Ty.str (⟨#[]⟩:ByteArray)]),(7,.arr .sh aa v0)]⟩
abbrev LP149_0 (row:LV) (e:LPt) (m:Nat) (st_:St) (K:KX):Prop:=True/\cN (t:=aE) (s149_0 row e) e (F.fh row e) (fun v0:LV=>True) (bA (fun v0:LV=>True->K (.exit 0) (⟨[(4,.ptr 4 0),(5,.own 7 none)],[(4,.box [dI Z0,dI Z0,.data Ty.str (⟨#[]⟩:ByteArray)]),(7,.arr .sh aa v0)]⟩:St)) (fun _=>False)) m st_
def L149 (row:LV) (e:LPt):bC:=lp1 0 (LP149_0 row e)
theorem vc149 (row:LV) (e:LPt) (K:KA):vcT C149 (L149 row e) ann149 f149 [.data TVS row,.data TPS e] [] (.dat aa) K =
 (∃m_,True/\cN (t:=aE) (s149_0 row e) e (F.fh row e) (fun v0:LV=>True) (bA (fun v0:LV=>True->(0<=Z0)/\(Z0<(v0.length:Int))/\K (.data aa (nV v0 Z0)) []) (fun _=>False)) m_ (s149_0 row e Z0 [])):=by kernel_rfl
theorem lvc149_0 (row:LV) (e:LPt)  (i0:Int) (v0:LV) (m:Nat) (K:KX):lvT C149 (L149 row e) ann149 f149 0 0 (s149_0 row e i0 v0) m K =
 (cond (decide (i0<(e.length:Int))) ((0<=i0)/\(i0<(e.length:Int))/\(Sm TVS row)/\(Sm TVS v0)/\(Sm aE (nP e i0))/\(v0.length<=1000)/\(M.takes (nP e i0)<=(v0.length:Int))/\(1<=(nP e i0).1/\(nP e i0).1<=8)/\(M.nR (nP e i0) row.length)/\(LD (M.fz row v0 (nP e i0)) fun r1=>(nxT (LP149_0 row e) m K (s149_0 row e (wrap64 (i0+Z1)) r1)))) (K (.exit 0) (⟨[(4,.ptr 4 0),(5,.own 7 none)],[(4,.box [dI Z0,dI Z0,.data Ty.str (⟨#[]⟩:ByteArray)]),(7,.arr .sh aa v0)]⟩:St))):=by kernel_rfl
theorem con149_ok:aV P 149 c149:=aY C149 func149 (kC con197_ok kN) fun args hp K h0=>by
 obtain⟨row,e,rfl,rfl,h_row,h_e,p0,hK⟩:=g2e h0
 have h:ok (F.qh row e) (fun r=>K (.data aa r) []):=aB (F.xT row e h_row h_e p0) (hK _ rfl)
 refine⟨rfl,ann149,(L149 row e),(.dat aa),(br (i0:=0) (by kernel_rfl) ?_),?_⟩
 ·rintro _ _ K ⟨hc0,i0,v0,rfl,hl0,rfl,hv0,h⟩
  exact cast (lvc149_0 _ _ _ _ _ _).symm (cj (t:=aE) hl0 h (fun ht0 h=>⟨hl0,⟨ht0,⟨h_row,(oG h fun _ h=>⟨(aH h_e i0),(oG h fun _ h=>(oG h fun _ h=>(oG h fun _ h=>(oG h fun _ h=>(oL h fun _ _ h=>(bF (t:=aE) (fun _ hm=>⟨hc0,hm⟩) _ rfl hl0 ht0 (bE h_e) trivial h))))))⟩)⟩⟩⟩) fun h=>(h trivial))
 ·rw[vc149]
  exact(bN (t:=aE) (fun m hm=>⟨trivial,hm⟩) _ rfl trivial (aX h (fun v0 h hv0=>⟨(Int.natCast_nonneg 0),(oG h fun _ h=>h)⟩) (fun _ h=>h.elim)))
def c151:Con:=⟨[.dat TVS,.dat (Ty.sl aD)],fun args hp K=>g2 (pD TVS) (pD (Ty.sl aD)) (fun row list=>(Sm TVS row)/\(Sm (Ty.sl aD) list)/\(M.fm row list)/\(LD (M.taken row list) fun r=>K (.own 0 none) [(0,.arr .sh aa r)])) args hp,.plain,false⟩
abbrev C151:Ctx:=cx [] 25 [] 0 false
def ann151:=an [[kp 3],[kp 35],[kp 99],[kp 2147],[kp 99],[kp 99],[kp 16]] [[kp 32]]
abbrev s151_0 (row:LV) (list:LI) (i0:Int) (v0:LV):St:=⟨[(0,.data TVS row),(1,.data (Ty.sl aD) list),(5,.own 7 none),(6,dI i0)],[(7,.arr .sh aa v0)]⟩
abbrev LP151_0 (row:LV) (list:LI) (m:Nat) (st_:St) (K:KX):Prop:=True/\cN (t:=aD) (s151_0 row list) list (F.jf row list) (fun v0:LV=>True) (bA (fun v0:LV=>True->K (.exit 0) (⟨[(5,.own 7 none)],[(7,.arr .sh aa v0)]⟩:St)) (fun _=>False)) m st_
def L151 (row:LV) (list:LI):bC:=lp1 0 (LP151_0 row list)
theorem vc151 (row:LV) (list:LI) (K:KA):vcT C151 (L151 row list) ann151 f151 [.data TVS row,.data (Ty.sl aD) list] [] .raw K =
 (∃m_,True/\cN (t:=aD) (s151_0 row list) list (F.jf row list) (fun v0:LV=>True) (bA (fun v0:LV=>True->K (.own 0 none) [(0,.arr .sh aa v0)]) (fun _=>False)) m_ (s151_0 row list Z0 [])):=by kernel_rfl
theorem lvc151_0 (row:LV) (list:LI)  (i0:Int) (v0:LV) (m:Nat) (K:KX):lvT C151 (L151 row list) ann151 f151 0 0 (s151_0 row list i0 v0) m K =
 (cond (decide (i0<(list.length:Int))) ((0<=i0)/\(i0<(list.length:Int))/\(0<=(nI list i0))/\((nI list i0)<(row.length:Int))/\((v0.length+[(nV row (nI list i0))].length) * 32<=lim)/\(nxT (LP151_0 row list) m K (s151_0 row list (wrap64 (i0+Z1)) (v0++[(nV row (nI list i0))])))) (K (.exit 0) (⟨[(5,.own 7 none)],[(7,.arr .sh aa v0)]⟩:St))):=by kernel_rfl
theorem con151_ok:aV P 151 c151:=aY C151 func151 kN fun args hp K h0=>by
 obtain⟨row,list,rfl,rfl,h_row,h_list,p0,hK⟩:=g2e h0
 have h:ok (F.pX row list) (fun r=>K (.own 0 none) [(0,.arr .sh aa r)]):=aB (F.yl row list h_row h_list p0) (hK _ rfl)
 refine⟨rfl,ann151,(L151 row list),.raw,(br (i0:=0) (by kernel_rfl) ?_),?_⟩
 ·rintro _ _ K ⟨hc0,i0,v0,rfl,hl0,rfl,hv0,h⟩
  exact cast (lvc151_0 _ _ _ _ _ _).symm (cj (t:=aD) hl0 h (fun ht0 h=>⟨hl0,⟨ht0,(oG h fun _ h=>(oG h fun _ h=>(oG h fun _ h=>(bF (t:=aD) (fun _ hm=>⟨hc0,hm⟩) _ rfl hl0 ht0 (bE h_list) trivial h))))⟩⟩) fun h=>(h trivial))
 ·rw[vc151]
  exact(bN (t:=aD) (fun m hm=>⟨trivial,hm⟩) _ rfl trivial (aX h (fun v0 h hv0=>h) (fun _ h=>h.elim)))
def c152:Con:=⟨[.dat TVS],fun args hp K=>g1 (pD TVS) (fun values=>(Sm TVS values)/\K (dB (M.gn values)) []) args hp,.plain,false⟩
abbrev C152:Ctx:=cx [] 16 [] 0 false
def ann152:=an [[kp 1],[kp 9],[kp 137],[kp 9],[kp 32777],[kp 4],[kp 4]] [[kp 0]]
abbrev s152_0 (values:LV) (i0:Int) (v0:Unit):St:=⟨[(0,.data TVS values),(3,dI i0)],[]⟩
abbrev LP152_0 (values:LV) (m:Nat) (st_:St) (K:KX):Prop:=True/\cN (t:=aa) (s152_0 values) values (F.ja values) (fun v0:Unit=>True) (bA (fun v0:Unit=>True->K (.exit 0) (⟨[],[]⟩:St)) (fun q0:Unit=>K .ret (⟨[(2,dB true)],[]⟩:St))) m st_
def L152 (values:LV):bC:=lp1 0 (LP152_0 values)
theorem vc152 (values:LV) (K:KA):vcT C152 (L152 values) ann152 f152 [.data TVS values] [] (.dat Ty.bool) K =
 (∃m_,True/\cN (t:=aa) (s152_0 values) values (F.ja values) (fun v0:Unit=>True) (bA (fun v0:Unit=>True->K (dB false) []) (fun q0:Unit=>K (dB true) [])) m_ (s152_0 values Z0 ())):=by kernel_rfl
theorem lvc152_0 (values:LV)  (i0:Int) (v0:Unit) (m:Nat) (K:KX):lvT C152 (L152 values) ann152 f152 0 0 (s152_0 values i0 v0) m K =
 (cond (decide (i0<(values.length:Int))) ((0<=i0)/\(i0<(values.length:Int))/\cond (decide ((nV values i0).1=Z0)) (K .ret (⟨[(2,dB true)],[]⟩:St)) (nxT (LP152_0 values) m K (s152_0 values (wrap64 (i0+Z1)) ()))) (K (.exit 0) (⟨[],[]⟩:St))):=by kernel_rfl
theorem con152_ok:aV P 152 c152:=aY C152 func152 kN fun args hp K h0=>by
 obtain⟨values,rfl,rfl,h_values,hK⟩:=g1e h0
 have h:ok (F.qu values) (fun r=>K (dB r) []):=aB (F.yp values h_values) hK
 refine⟨rfl,ann152,(L152 values),(.dat Ty.bool),(br (i0:=0) (by kernel_rfl) ?_),?_⟩
 ·rintro _ _ K ⟨hc0,i0,v0,rfl,hl0,rfl,hv0,h⟩
  exact cast (lvc152_0 _ _ _ _ _).symm (cj (t:=aa) hl0 h (fun ht0 h=>⟨hl0,⟨ht0,(oC h (fun _ h=>h) fun _ h=>(bF (t:=aa) (fun _ hm=>⟨hc0,hm⟩) _ rfl hl0 ht0 (bE h_values) trivial h))⟩⟩) fun h=>(h trivial))
 ·rw[vc152]
  exact(bN (t:=aa) (fun m hm=>⟨trivial,hm⟩) _ rfl trivial (aX h (fun v0 h hv0=>h) (fun q0 h=>h)))
def c153:Con:=⟨[.dat TVS,.dat TVS],fun args hp K=>g2 (pD TVS) (pD TVS) (fun a b=>(Sm TVS a)/\(Sm TVS b)/\K (dB (decide (a=b))) []) args hp,.plain,false⟩
abbrev C153:Ctx:=cx [] 26 [] 0 false
def ann153:=an [[kp 3],[kp 1027],[kp 16],[kp 35],[kp 16419],[kp 35],[kp 33554467],[kp 16],[kp 16]] [[kp 0]]
abbrev s153_0 (a:LV) (b:LV) (i0:Int) (v0:Unit):St:=⟨[(0,.data TVS a),(1,.data TVS b),(5,dI i0)],[]⟩
abbrev LP153_0 (a:LV) (b:LV) (m:Nat) (st_:St) (K:KX):Prop:=True/\cu (s153_0 a b) Z0 (a.length:Int) (F.jL a b) (fun v0:Unit=>True) (bA (fun v0:Unit=>True->K (.exit 0) (⟨[],[]⟩:St)) (fun q0:Unit=>K .ret (⟨[(4,dB false)],[]⟩:St))) m st_
def L153 (a:LV) (b:LV):bC:=lp1 0 (LP153_0 a b)
theorem vc153 (a:LV) (b:LV) (K:KA):vcT C153 (L153 a b) ann153 f153 [.data TVS a,.data TVS b] [] (.dat Ty.bool) K =
 (cond (!decide ((a.length:Int)=(b.length:Int))) (K (dB false) []) (∃m_,True/\cu (s153_0 a b) Z0 (a.length:Int) (F.jL a b) (fun v0:Unit=>True) (bA (fun v0:Unit=>True->K (dB true) []) (fun q0:Unit=>K (dB false) [])) m_ (s153_0 a b Z0 ()))):=by kernel_rfl
theorem lvc153_0 (a:LV) (b:LV)  (i0:Int) (v0:Unit) (m:Nat) (K:KX):lvT C153 (L153 a b) ann153 f153 0 0 (s153_0 a b i0 v0) m K =
 (cond (decide (i0<(a.length:Int))) ((0<=i0)/\(i0<(a.length:Int))/\(0<=i0)/\(i0<(b.length:Int))/\cond (!(Ty.beq aa (nV a i0) (nV b i0))) (K .ret (⟨[(4,dB false)],[]⟩:St)) (nxT (LP153_0 a b) m K (s153_0 a b (wrap64 (i0+Z1)) ()))) (K (.exit 0) (⟨[],[]⟩:St))):=by kernel_rfl
theorem con153_ok:aV P 153 c153:=aY C153 func153 kN fun args hp K h0=>by
 obtain⟨a,b,rfl,rfl,h_a,h_b,hK⟩:=g2e h0
 have h:ok (F.xF a b) (fun r=>K (dB r) []):=aB (F.zG a b h_a h_b) hK
 refine⟨rfl,ann153,(L153 a b),(.dat Ty.bool),(br (i0:=0) (by kernel_rfl) ?_),?_⟩
 ·rintro _ _ K ⟨hc0,i0,v0,rfl,hl0,rfl,hv0,h⟩
  exact cast (lvc153_0 _ _ _ _ _ _).symm (bJ h (fun ht0 h=>⟨hl0,⟨ht0,⟨hl0,(oG h fun _ h=>(oC h (fun _ h=>h) fun _ h=>(bu (fun _ hm=>⟨hc0,hm⟩) _ rfl hl0 jk ht0 (bE h_a) trivial h)))⟩⟩⟩) fun h=>(h trivial))
 ·rw[vc153]
  exact(oC h (fun _ h=>h) fun _ h=>(bp (fun m hm=>⟨trivial,hm⟩) Z0 _ rfl (Int.natCast_nonneg 0) trivial (aX h (fun v0 h hv0=>h) (fun q0 h=>h))))
def c82:Con:=⟨[.dat TTb,.dat ah],fun args hp K=>g2 (pD TTb) (pD ah) (fun tables b=>(Sm TTb tables)/\(Sm ah b)/\((M.aF tables&&M.aN tables b)=true)/\K (dI (M.broken tables b)) []) args hp,.bor,false⟩
abbrev C82:Ctx:=cx [(149,c149),(150,c150),(151,c151),(152,c152),(153,c153)] 110 [] 0 false
def ann82:=an [[.fixRow 3 ah,kp 9],[kp 41],[kp 105],[kp 2097257],[kp 105],[kp 33554537],[kp 100663401],[kp 68719476841],[kp 16],[kp 274911461481],[kp 233],[.freeze 46,kp 489],[kp 18014398509482473],[kp 489],[kp 36893488147419103721],[kp 16],[.keep [0,3,5,6,67]],[kp 617],[kp 1641],[kp 3689],[kp 1237940039285380274899127913],[kp 3689],[kp 3689],[.keep [0,3,5,6,108]],[kp 16],[kp 16]] [[kp 0],[],[],[kp 105],[],[kp 1129]]
abbrev s82_0 (tables:LTb) (b:ah.D) (i0:Int) (v0:Unit):St:=⟨[(0,.data TTb tables),(3,.adr ah b),(5,.data (Ty.sl TVS) (nT tables b.2.1).2.1),(6,dI i0)],[]⟩
abbrev LP82_0 (tables:LTb) (b:ah.D) (m:Nat) (st_:St) (K:KX):Prop:=True/\cu (s82_0 tables b) Z0 ((nT tables b.2.1).2.1.length:Int) (F.gL tables b) (fun v0:Unit=>True) (bA (fun v0:Unit=>True->K (.exit 0) (⟨[],[]⟩:St)) (fun q0:Int=>K .ret (⟨[(4,dI q0)],[]⟩:St))) m st_
abbrev s82_3 (tables:LTb) (b:ah.D) (c3_0:Int) (c3_1:LV) (v3:Int):St:=⟨[(0,.data TTb tables),(3,.adr ah b),(5,.data (Ty.sl TVS) (nT tables b.2.1).2.1),(6,dI c3_0),(7,.data TVS c3_1),(8,dI v3)],[]⟩
abbrev LP82_3 (tables:LTb) (b:ah.D) (m:Nat) (st_:St) (K:KX):Prop:=∃c3_0:Int,∃c3_1:LV,(Sm TVS c3_1/\True)/\cR (s82_3 tables b c3_0 c3_1) (F.fj tables b c3_0 c3_1) (fun v3:Int=>True) (bA (fun e3:Unit=>True->K (.exit 3) (⟨[(0,.data TTb tables),(3,.adr ah b),(5,.data (Ty.sl TVS) (nT tables b.2.1).2.1),(6,dI c3_0)],[]⟩:St)) (fun q3:Unit=>K .ret (⟨[(4,dI c3_0)],[]⟩:St))) m st_
abbrev s82_5 (tables:LTb) (b:ah.D) (c5_0:Int) (c5_1:LV) (v5:Bool×Int):St:=⟨[(0,.data TTb tables),(3,.adr ah b),(5,.data (Ty.sl TVS) (nT tables b.2.1).2.1),(6,dI c5_0),(9,.data TVS c5_1),(10,dB v5.1),(11,dI v5.2)],[]⟩
abbrev LP82_5 (tables:LTb) (b:ah.D) (m:Nat) (st_:St) (K:KX):Prop:=∃c5_0:Int,∃c5_1:LV,(Sm TVS c5_1/\True)/\cR (s82_5 tables b c5_0 c5_1) (F.gJ tables b c5_0 c5_1) (fun v5:Bool×Int=>True) (fun e5:Bool=>True->K (.exit 5) (⟨[(0,.data TTb tables),(3,.adr ah b),(5,.data (Ty.sl TVS) (nT tables b.2.1).2.1),(6,dI c5_0),(10,dB e5)],[]⟩:St)) m st_
def L82 (tables:LTb) (b:ah.D):bC:=fun id m st_ K=>match id with
 | 0=>LP82_0 tables b m st_ K
 | 3=>LP82_3 tables b m st_ K
 | 5=>LP82_5 tables b m st_ K
 | _=>False
theorem vc82 (tables:LTb) (b:ah.D) (K:KA):vcT C82 (L82 tables b) ann82 f82 [.data TTb tables,.data ah b] [] (.dat aD) K =
 ((0<=b.2.1)/\(b.2.1<(tables.length:Int))/\(∃m_,True/\cu (s82_0 tables b) Z0 ((nT tables b.2.1).2.1.length:Int) (F.gL tables b) (fun v0:Unit=>True) (bA (fun v0:Unit=>True->K (dI (-1:Int)) []) (fun q0:Int=>K (dI q0) [])) m_ (s82_0 tables b Z0 ()))):=by kernel_rfl
theorem lvc82_0 (tables:LTb) (b:ah.D)  (i0:Int) (v0:Unit) (m:Nat) (K:KX):lvT C82 (L82 tables b) ann82 f82 0 0 (s82_0 tables b i0 v0) m K =
 (cond (decide (i0<((nT tables b.2.1).2.1.length:Int))) (cond (decide (b.1=Z3)) ((0<=i0)/\(i0<((nT tables b.2.1).2.1.length:Int))/\(Sm TVS (nth (t:=TVS) (nT tables b.2.1).2.1 i0))/\(Sm TPS b.2.2.2.2.2.2.1)/\(M.jG (nth (t:=TVS) (nT tables b.2.1).2.1 i0).length b.2.2.2.2.2.2.1)/\(LD (M.ff (nth (t:=TVS) (nT tables b.2.1).2.1 i0) b.2.2.2.2.2.2.1) fun r1=>(LD (M.valueOf Z0) fun r2=>cond (Ty.beq aa r1 r2) (K .ret (⟨[(4,dI i0)],[]⟩:St)) (nxT (LP82_0 tables b) m K (s82_0 tables b (wrap64 (i0+Z1)) ()))))) (cond (decide (b.1=Z1)) ((0<=i0)/\(i0<((nT tables b.2.1).2.1.length:Int))/\(Sm TVS (nth (t:=TVS) (nT tables b.2.1).2.1 i0))/\(Sm (Ty.sl aD) b.2.2.1)/\(M.fm (nth (t:=TVS) (nT tables b.2.1).2.1 i0) b.2.2.1)/\(LD (M.taken (nth (t:=TVS) (nT tables b.2.1).2.1 i0) b.2.2.1) fun r3=>(∃m_,∃c3_0:Int,∃c3_1:LV,(Sm TVS c3_1/\True)/\cR (s82_3 tables b c3_0 c3_1) (F.fj tables b c3_0 c3_1) (fun v3:Int=>True) (bA (fun e3:Unit=>True->(nxT (LP82_0 tables b) m K (s82_0 tables b (wrap64 (c3_0+Z1)) ()))) (fun q3:Unit=>K .ret (⟨[(4,dI c3_0)],[]⟩:St))) m_ (s82_3 tables b i0 r3 Z0)))) (cond (decide (b.1=Z2)) ((0<=i0)/\(i0<((nT tables b.2.1).2.1.length:Int))/\(Sm TVS (nth (t:=TVS) (nT tables b.2.1).2.1 i0))/\(Sm (Ty.sl aD) b.2.2.1)/\(M.fm (nth (t:=TVS) (nT tables b.2.1).2.1 i0) b.2.2.1)/\(LD (M.taken (nth (t:=TVS) (nT tables b.2.1).2.1 i0) b.2.2.1) fun r4=>(Sm TVS r4)/\(∃m_,∃c5_0:Int,∃c5_1:LV,(Sm TVS c5_1/\True)/\cR (s82_5 tables b c5_0 c5_1) (F.gJ tables b c5_0 c5_1) (fun v5:Bool×Int=>True) (fun e5:Bool=>True->cond (!e5) (K .ret (⟨[(4,dI c5_0)],[]⟩:St)) (nxT (LP82_0 tables b) m K (s82_0 tables b (wrap64 (c5_0+Z1)) ()))) m_ (s82_5 tables b i0 r4 ((M.gn r4),Z0))))) (nxT (LP82_0 tables b) m K (s82_0 tables b (wrap64 (i0+Z1)) ()))))) (K (.exit 0) (⟨[],[]⟩:St))):=by kernel_rfl
abbrev S82l3_0 (tables:LTb) (b:ah.D) (c3_0:Int) (c3_1:LV) (v3:Int) (m:Nat) (K:KX):Prop:=K (.exit 3) (⟨[(0,.data TTb tables),(3,.adr ah b),(5,.data (Ty.sl TVS) (nT tables b.2.1).2.1),(6,dI c3_0)],[]⟩:St)
theorem lvc82_1 (tables:LTb) (b:ah.D) (c3_0:Int) (c3_1:LV) (v3:Int) (m:Nat) (K:KX):lvT C82 (L82 tables b) ann82 f82 1 3 (s82_3 tables b c3_0 c3_1 v3) m K =
 (cond ((decide (v3<c3_0))==true) ((Sm TVS c3_1)/\cond (!(M.gn c3_1)) ((0<=v3)/\(v3<((nT tables b.2.1).2.1.length:Int))/\(Sm TVS (nth (t:=TVS) (nT tables b.2.1).2.1 v3))/\(Sm (Ty.sl aD) b.2.2.1)/\(M.fm (nth (t:=TVS) (nT tables b.2.1).2.1 v3) b.2.2.1)/\(LD (M.taken (nth (t:=TVS) (nT tables b.2.1).2.1 v3) b.2.2.1) fun r5=>(Sm TVS r5)/\(Sm TVS c3_1)/\cond (decide (r5=c3_1)) (K .ret (⟨[(4,dI c3_0)],[]⟩:St)) (nxT (LP82_3 tables b) m K (s82_3 tables b c3_0 c3_1 (wrap64 (v3+Z1)))))) (S82l3_0  tables b c3_0 c3_1 v3 m K)) (S82l3_0  tables b c3_0 c3_1 v3 m K)):=by kernel_rfl
abbrev S82l5_0 (tables:LTb) (b:ah.D) (c5_0:Int) (c5_1:LV) (v5:Bool×Int) (m:Nat) (K:KX):Prop:=K (.exit 5) (⟨[(0,.data TTb tables),(3,.adr ah b),(5,.data (Ty.sl TVS) (nT tables b.2.1).2.1),(6,dI c5_0),(10,dB v5.1)],[]⟩:St)
theorem lvc82_2 (tables:LTb) (b:ah.D) (c5_0:Int) (c5_1:LV) (v5:Bool×Int) (m:Nat) (K:KX):lvT C82 (L82 tables b) ann82 f82 2 5 (s82_5 tables b c5_0 c5_1 v5) m K =
 ((0<=b.2.2.2.1)/\(b.2.2.2.1<(tables.length:Int))/\cond ((decide (v5.2<((nT tables b.2.2.2.1).2.1.length:Int)))==true) (cond (!v5.1) ((0<=b.2.2.2.1)/\(b.2.2.2.1<(tables.length:Int))/\(0<=v5.2)/\(v5.2<((nT tables b.2.2.2.1).2.1.length:Int))/\(Sm TVS (nth (t:=TVS) (nT tables b.2.2.2.1).2.1 v5.2))/\(Sm (Ty.sl aD) b.2.2.2.2.1)/\(M.fm (nth (t:=TVS) (nT tables b.2.2.2.1).2.1 v5.2) b.2.2.2.2.1)/\(LD (M.taken (nth (t:=TVS) (nT tables b.2.2.2.1).2.1 v5.2) b.2.2.2.2.1) fun r6=>(Sm TVS r6)/\(Sm TVS c5_1)/\(nxT (LP82_5 tables b) m K (s82_5 tables b c5_0 c5_1 ((decide (r6=c5_1)),wrap64 (v5.2+Z1)))))) (S82l5_0  tables b c5_0 c5_1 v5 m K)) (S82l5_0  tables b c5_0 c5_1 v5 m K)):=by kernel_rfl
theorem con82_ok:aV P 82 c82:=aY C82 func82 (kC con149_ok (kC con150_ok (kC con151_ok (kC con152_ok (kC con153_ok kN))))) fun args hp K h0=>by
 obtain⟨tables,b,rfl,rfl,h_tables,h_b,p0,hK⟩:=g2e h0
 have h:ok (F.nu tables b) (fun r=>K (dI r) []):=aB (F.vn tables b h_tables h_b p0) hK
 refine⟨rfl,ann82,(L82 tables b),(.dat aD),(Fl (i0:=0) (i1:=3) (i2:=5) (by kernel_rfl) ?_ ?_ ?_),?_⟩
 ·rintro _ _ K ⟨hc0,i0,v0,rfl,hl0,rfl,hv0,h⟩
  exact cast (lvc82_0 _ _ _ _ _ _).symm (bJ h (fun ht0 h=>(oC h (fun _ h=>⟨hl0,⟨ht0,⟨(aH (aH h_tables b.2.1).2.1 i0),⟨h_b.2.2.2.2.2.2.1,(oG h fun _ h=>(oL h fun _ _ h=>(oL h fun _ _ h=>(oC h (fun _ h=>h) fun _ h=>(bu (fun _ hm=>⟨hc0,hm⟩) _ rfl hl0 jk ht0 (bE (aH h_tables b.2.1).2.1) trivial h)))))⟩⟩⟩⟩) fun _ h=>(oC h (fun _ h=>⟨hl0,⟨ht0,⟨(aH (aH h_tables b.2.1).2.1 i0),⟨h_b.2.2.1,(oG h fun _ h=>(oL h fun r3 er3 h=>(bI (fun m hm=>⟨i0,r3,⟨(gQ er3 (M.gv (aH (aH h_tables b.2.1).2.1 i0) h_b.2.2.1)),trivial⟩,hm⟩) _ rfl trivial (aX h (fun e3 h hv3=>(bu (fun _ hm=>⟨hc0,hm⟩) _ rfl hl0 jk ht0 (bE (aH h_tables b.2.1).2.1) trivial h)) (fun q3 h=>h)))))⟩⟩⟩⟩) fun _ h=>(oC h (fun _ h=>⟨hl0,⟨ht0,⟨(aH (aH h_tables b.2.1).2.1 i0),⟨h_b.2.2.1,(oG h fun _ h=>(oL h fun r4 er4 h=>⟨(gQ er4 (M.gv (aH (aH h_tables b.2.1).2.1 i0) h_b.2.2.1)),(bI (fun m hm=>⟨i0,r4,⟨(gQ er4 (M.gv (aH (aH h_tables b.2.1).2.1 i0) h_b.2.2.1)),trivial⟩,hm⟩) _ rfl trivial (eA h (fun e5 h hv5=>(oC h (fun _ h=>h) fun _ h=>(bu (fun _ hm=>⟨hc0,hm⟩) _ rfl hl0 jk ht0 (bE (aH h_tables b.2.1).2.1) trivial h)))))⟩))⟩⟩⟩⟩) fun _ h=>(bu (fun _ hm=>⟨hc0,hm⟩) _ rfl hl0 jk ht0 (bE (aH h_tables b.2.1).2.1) trivial h))))) fun h=>(h trivial))
 ·rintro _ _ K ⟨c3_0,c3_1,hc3,v3,rfl,hv3,h⟩
  exact cast (lvc82_1 _ _ _ _ _ _ _).symm (cm h (fun m1 hm3 h=>(oC h (fun _ h=>⟨hc3.1,(oC h (fun _ h=>(oG h fun _ h=>(oG h fun _ h=>⟨(aH (aH h_tables b.2.1).2.1 v3),⟨h_b.2.2.1,(oG h fun _ h=>(oL h fun _ er5 h=>⟨(gQ er5 (M.gv (aH (aH h_tables b.2.1).2.1 v3) h_b.2.2.1)),⟨hc3.1,(oC h (fun _ h=>h) fun _ h=>(bz (fun _ hm=>⟨c3_0,c3_1,hc3,hm⟩) hm3 _ rfl trivial h))⟩⟩))⟩⟩))) fun _ h=>((cq h :) trivial))⟩) fun _ h=>((cq h :) trivial))))
 ·rintro _ _ K ⟨c5_0,c5_1,hc5,v5,rfl,hv5,h⟩
  exact cast (lvc82_2 _ _ _ _ _ _ _).symm (cm h (fun m1 hm5 h=>(oG h fun g1 h=>(oG h fun g2 h=>(oC h (fun _ h=>(oC h (fun _ h=>⟨g1,⟨g2,(oG h fun _ h=>(oG h fun _ h=>⟨(aH (aH h_tables b.2.2.2.1).2.1 v5.2),⟨h_b.2.2.2.2.1,(oG h fun _ h=>(oL h fun _ er6 h=>⟨(gQ er6 (M.gv (aH (aH h_tables b.2.2.2.1).2.1 v5.2) h_b.2.2.2.2.1)),⟨hc5.1,(bz (fun _ hm=>⟨c5_0,c5_1,hc5,hm⟩) hm5 _ rfl trivial h)⟩⟩))⟩⟩))⟩⟩) fun _ h=>((cq h :) trivial))) fun _ h=>((cq h :) trivial))))))
 ·rw[vc82]
  exact(oG h fun _ h=>(oG h fun _ h=>(bp (fun m hm=>⟨trivial,hm⟩) Z0 _ rfl (Int.natCast_nonneg 0) trivial (aX h (fun v0 h hv0=>h) (fun q0 h=>h)))))
def c109:Con:=⟨[.dat TTb,.dat ah],fun args hp K=>g2 (pD TTb) (pD ah) (fun tables b=>(Sm TTb tables)/\(Sm ah b)/\K (dI (M.aJ tables b)) []) args hp,.bor,false⟩
abbrev C109:Ctx:=cx [(80,c80),(82,c82)] 12 [] 0 false
def ann109:=an [[.fixRow 3 ah,kp 9],[kp 265],[kp 16],[kp 16]] []
theorem vc109 (tables:LTb) (b:ah.D) (K:KA):vcT C109 aA ann109 f109 [.data TTb tables,.data ah b] [] (.dat aD) K =
 ((Sm TTb tables)/\(Sm ah b)/\cond (!(M.aF tables&&M.aN tables b)) (K (dI (-2:Int)) []) ((Sm TTb tables)/\(Sm ah b)/\((M.aF tables&&M.aN tables b)=true)/\K (dI (M.broken tables b)) [])):=by kernel_rfl
theorem con109_ok:aV P 109 c109:=aY C109 func109 (kC con80_ok (kC con82_ok kN)) fun args hp K h0=>by
 obtain⟨tables,b,rfl,rfl,h_tables,h_b,hK⟩:=g2e h0
 have h:ok (F.lP tables b) (fun r=>K (dI r) []):=aB (F.uA tables b h_tables h_b) hK
 refine⟨rfl,ann109,aA,(.dat aD),(aI (by kernel_rfl)),?_⟩
 ·rw[vc109]
  exact⟨h_tables,⟨h_b,(oC h (fun _ h=>h) fun b_1 h=>⟨h_tables,⟨h_b,⟨(bnf b_1),h⟩⟩⟩)⟩⟩
def c49:Con:=⟨[.dat TTb,.dat (Ty.sl ah)],fun args hp K=>g2 (pD TTb) (pD (Ty.sl ah)) (fun tables bonds=>(Sm TTb tables)/\(Sm (Ty.sl ah) bonds)/\K (dB (M.bS tables bonds)) []) args hp,.bor,false⟩
abbrev C49:Ctx:=cx [(109,c109)] 22 [] 0 false
def ann49:=an [[kp 3],[kp 35],[kp 547],[kp 35],[kp 262179],[kp 16],[kp 16]] [[kp 2]]
abbrev s49_0 (tables:LTb) (bonds:(List ah.D)) (i0:Int) (v0:Unit):St:=⟨[(0,.data TTb tables),(1,.data (Ty.sl ah) bonds),(5,dI i0)],[]⟩
abbrev LP49_0 (tables:LTb) (bonds:(List ah.D)) (m:Nat) (st_:St) (K:KX):Prop:=True/\cN (t:=ah) (s49_0 tables bonds) bonds (F.gM tables bonds) (fun v0:Unit=>True) (bA (fun v0:Unit=>True->K (.exit 0) (⟨[(1,.data (Ty.sl ah) bonds)],[]⟩:St)) (fun q0:Unit=>K .ret (⟨[(4,dB false)],[]⟩:St))) m st_
def L49 (tables:LTb) (bonds:(List ah.D)):bC:=lp1 0 (LP49_0 tables bonds)
theorem vc49 (tables:LTb) (bonds:(List ah.D)) (K:KA):vcT C49 (L49 tables bonds) ann49 f49 [.data TTb tables,.data (Ty.sl ah) bonds] [] (.dat Ty.bool) K =
 (∃m_,True/\cN (t:=ah) (s49_0 tables bonds) bonds (F.gM tables bonds) (fun v0:Unit=>True) (bA (fun v0:Unit=>True->K (dB (decide ((bonds.length:Int)<=Z4))) []) (fun q0:Unit=>K (dB false) [])) m_ (s49_0 tables bonds Z0 ())):=by kernel_rfl
theorem lvc49_0 (tables:LTb) (bonds:(List ah.D))  (i0:Int) (v0:Unit) (m:Nat) (K:KX):lvT C49 (L49 tables bonds) ann49 f49 0 0 (s49_0 tables bonds i0 v0) m K =
 (cond (decide (i0<(bonds.length:Int))) ((0<=i0)/\(i0<(bonds.length:Int))/\(Sm TTb tables)/\(Sm ah (nth (t:=ah) bonds i0))/\cond (!decide ((M.aJ tables (nth (t:=ah) bonds i0))=(-1:Int))) (K .ret (⟨[(4,dB false)],[]⟩:St)) (nxT (LP49_0 tables bonds) m K (s49_0 tables bonds (wrap64 (i0+Z1)) ()))) (K (.exit 0) (⟨[(1,.data (Ty.sl ah) bonds)],[]⟩:St))):=by kernel_rfl
theorem con49_ok:aV P 49 c49:=aY C49 func49 (kC con109_ok kN) fun args hp K h0=>by
 obtain⟨tables,bonds,rfl,rfl,h_tables,h_bonds,hK⟩:=g2e h0
 have h:ok (F.nA tables bonds) (fun r=>K (dB r) []):=aB (F.vA tables bonds h_tables h_bonds) hK
 refine⟨rfl,ann49,(L49 tables bonds),(.dat Ty.bool),(br (i0:=0) (by kernel_rfl) ?_),?_⟩
 ·rintro _ _ K ⟨hc0,i0,v0,rfl,hl0,rfl,hv0,h⟩
  exact cast (lvc49_0 _ _ _ _ _ _).symm (cj (t:=ah) hl0 h (fun ht0 h=>⟨hl0,⟨ht0,⟨h_tables,⟨(aH h_bonds i0),(oC h (fun _ h=>h) fun _ h=>(bF (t:=ah) (fun _ hm=>⟨hc0,hm⟩) _ rfl hl0 ht0 (bE h_bonds) trivial h))⟩⟩⟩⟩) fun h=>(h trivial))
 ·rw[vc49]
  exact(bN (t:=ah) (fun m hm=>⟨trivial,hm⟩) _ rfl trivial (aX h (fun v0 h hv0=>h) (fun q0 h=>h)))
def c110:Con:=⟨[.dat TVS],fun args hp K=>g1 (pD TVS) (fun row=>(Sm TVS row)/\(LD row fun r=>K (.own 0 none) [(0,.arr .sh aa r)])) args hp,.bor,false⟩
abbrev C110:Ctx:=cx [] 6 [] 0 false
def ann110:=an [[kp 1],[kp 4]] []
theorem vc110 (row:LV) (K:KA):vcT C110 aA ann110 f110 [.data TVS row] [] .raw K =
 (((([]:List aa.D).length+row.length) * 32<=lim)/\K (.own 0 none) [(0,.arr .sh aa ([]++row))]):=by kernel_rfl
theorem con110_ok:aV P 110 c110:=aY C110 func110 kN fun args hp K h0=>by
 obtain⟨row,rfl,rfl,h_row,hK⟩:=g1e h0
 have h:ok (F.zu row) (fun r=>K (.own 0 none) [(0,.arr .sh aa r)]):=aB (F.Bn row h_row) (hK _ rfl)
 refine⟨rfl,ann110,aA,.raw,(aI (by kernel_rfl)),?_⟩
 ·rw[vc110]
  exact⟨(nK (jh aa) h_row rfl),h⟩
def c50:Con:=⟨[.dat TTb],fun args hp K=>g1 (pD TTb) (fun tables=>(Sm TTb tables)/\(LD tables fun r=>K (.own 0 none) [(0,.arr .dp ag r)])) args hp,.bor,false⟩
abbrev C50:Ctx:=cx [(110,c110)] 51 [] 0 true
def ann50:=an [[kp 1],[kp 9],[kp 25],[kp 2073],[kp 25],[kp 57],[.mineC .dp 5 1 800081 TVS,kp 121],[kp 536871033],[kp 121],[kp 121],[kp 25],[kp 4]] [[kp 8],[],[kp 57]]
abbrev s50_0 (tables:LTb) (i0:Int) (v0:LTb):St:=⟨[(0,.data TTb tables),(3,.own 7 none),(4,dI i0)],[(7,.arr .dp ag v0)]⟩
abbrev LP50_0 (tables:LTb) (m:Nat) (st_:St) (K:KX):Prop:=True/\cu (s50_0 tables) Z0 (tables.length:Int) (F.gK tables) (fun v0:LTb=>True) (bA (fun v0:LTb=>True->K (.exit 0) (⟨[(3,.own 7 none)],[(7,.arr .dp ag v0)]⟩:St)) (fun _=>False)) m st_
abbrev s50_2 (tables:LTb) (c2_0:Int) (c2_1:LTb) (c2_2:LC) (v2:Int×(List LV)):St:=⟨[(0,.data TTb tables),(3,.own 7 none),(4,dI c2_0),(5,.ptr 5 0),(6,dI v2.1)],[(7,.arr .dp ag c2_1),(5,.box [.own 14 none,.own 800081 none]),(14,.arr .sh ax c2_2),(800081,.arr .dp TVS v2.2)]⟩
abbrev LP50_2 (tables:LTb) (m:Nat) (st_:St) (K:KX):Prop:=∃c2_0:Int,∃c2_1:LTb,∃c2_2:LC,True/\cR (s50_2 tables c2_0 c2_1 c2_2) (F.fy tables c2_0 c2_1 c2_2) (fun v2:Int×(List LV)=>True) (fun e2:(List LV)=>True->K (.exit 2) (⟨[(0,.data TTb tables),(3,.own 7 none),(4,dI c2_0),(5,.ptr 5 0)],[(7,.arr .dp ag c2_1),(5,.box [.own 14 none,.own 800081 none]),(14,.arr .sh ax c2_2),(800081,.arr .dp TVS e2)]⟩:St)) m st_
def L50 (tables:LTb):bC:=lp2 0 (LP50_0 tables) 2 (LP50_2 tables)
theorem vc50 (tables:LTb) (K:KA):vcT C50 (L50 tables) ann50 f50 [.data TTb tables] [] .raw K =
 (∃m_,True/\cu (s50_0 tables) Z0 (tables.length:Int) (F.gK tables) (fun v0:LTb=>True) (bA (fun v0:LTb=>True->K (.own 0 none) [(0,.arr .dp ag v0)]) (fun _=>False)) m_ (s50_0 tables Z0 [])):=by kernel_rfl
theorem lvc50_0 (tables:LTb)  (i0:Int) (v0:LTb) (m:Nat) (K:KX):lvT C50 (L50 tables) ann50 f50 0 0 (s50_0 tables i0 v0) m K =
 (cond (decide (i0<(tables.length:Int))) ((0<=i0)/\(i0<(tables.length:Int))/\((([]:List ax.D).length+(nT tables i0).1.length) * 16<=lim)/\(∃m_,∃c2_0:Int,∃c2_1:LTb,∃c2_2:LC,True/\cR (s50_2 tables c2_0 c2_1 c2_2) (F.fy tables c2_0 c2_1 c2_2) (fun v2:Int×(List LV)=>True) (fun e2:(List LV)=>True->((c2_1.length+[(c2_2,(e2,()))].length) * 48<=lim)/\(nxT (LP50_0 tables) m K (s50_0 tables (wrap64 (c2_0+Z1)) (c2_1++[(c2_2,(e2,()))])))) m_ (s50_2 tables i0 v0 ([]++(nT tables i0).1) (Z0,[])))) (K (.exit 0) (⟨[(3,.own 7 none)],[(7,.arr .dp ag v0)]⟩:St))):=by kernel_rfl
theorem lvc50_1 (tables:LTb) (c2_0:Int) (c2_1:LTb) (c2_2:LC) (v2:Int×(List LV)) (m:Nat) (K:KX):lvT C50 (L50 tables) ann50 f50 1 2 (s50_2 tables c2_0 c2_1 c2_2 v2) m K =
 ((0<=c2_0)/\(c2_0<(tables.length:Int))/\cond (decide (v2.1<((nT tables c2_0).2.1.length:Int))) ((0<=c2_0)/\(c2_0<(tables.length:Int))/\(0<=v2.1)/\(v2.1<((nT tables c2_0).2.1.length:Int))/\(Sm TVS (nth (t:=TVS) (nT tables c2_0).2.1 v2.1))/\(LD (nth (t:=TVS) (nT tables c2_0).2.1 v2.1) fun r1=>((v2.2.length+[r1].length) * 24<=lim)/\(nxT (LP50_2 tables) m K (s50_2 tables c2_0 c2_1 c2_2 (wrap64 (v2.1+Z1),(v2.2++[r1])))))) (K (.exit 2) (⟨[(0,.data TTb tables),(3,.own 7 none),(4,dI c2_0),(5,.ptr 5 0)],[(7,.arr .dp ag c2_1),(5,.box [.own 14 none,.own 800081 none]),(14,.arr .sh ax c2_2),(800081,.arr .dp TVS v2.2)]⟩:St))):=by kernel_rfl
theorem con50_ok:aV P 50 c50:=aY C50 func50 (kC con110_ok kN) fun args hp K h0=>by
 obtain⟨tables,rfl,rfl,h_tables,hK⟩:=g1e h0
 have h:ok (F.mV tables) (fun r=>K (.own 0 none) [(0,.arr .dp ag r)]):=aB (F.vt tables h_tables) (hK _ rfl)
 refine⟨rfl,ann50,(L50 tables),.raw,(sV (i0:=0) (i1:=2) (by kernel_rfl) ?_ ?_),?_⟩
 ·rintro _ _ K ⟨hc0,i0,v0,rfl,hl0,rfl,hv0,h⟩
  exact cast (lvc50_0 _ _ _ _ _).symm (bJ h (fun ht0 h=>⟨hl0,⟨ht0,⟨(nK (jh ax) (aH h_tables i0).1 rfl),(bI (fun m hm=>⟨i0,v0,([]++(nT tables i0).1),trivial,hm⟩) _ rfl trivial (eA h (fun e2 h hv2=>(oG h fun _ h=>(bu (fun _ hm=>⟨hc0,hm⟩) _ rfl hl0 jk ht0 (bE h_tables) trivial h)))))⟩⟩⟩) fun h=>(h trivial))
 ·rintro _ _ K ⟨c2_0,c2_1,c2_2,hc2,v2,rfl,hv2,h⟩
  exact cast (lvc50_1 _ _ _ _ _ _ _).symm (cm h (fun m1 hm2 h=>(oG h fun g1 h=>(oG h fun g2 h=>(oC h (fun _ h=>⟨g1,⟨g2,(oG h fun _ h=>(oG h fun _ h=>⟨(aH (aH h_tables c2_0).2.1 v2.1),(oL h fun _ _ h=>(oG h fun _ h=>(bz (fun _ hm=>⟨c2_0,c2_1,c2_2,hc2,hm⟩) hm2 _ rfl trivial h)))⟩))⟩⟩) fun _ h=>((cq h :) trivial))))))
 ·rw[vc50]
  exact(bp (fun m hm=>⟨trivial,hm⟩) Z0 _ rfl (Int.natCast_nonneg 0) trivial (aX h (fun v0 h hv0=>h) (fun _ h=>h.elim)))
def c145:Con:=⟨[.lent TVS,.dat TVS],fun args hp K=>g2 (pB TVS) (pD TVS) (fun rows row=>(Sm (Ty.sl TVS) rows)/\(Sm TVS row)/\K (dI (M.bq rows row:Int)) []) args hp,.plain,false⟩
abbrev C145:Ctx:=cx [(153,c153)] 22 [] 0 false
def ann145:=an [[kp 3],[kp 35],[kp 99],[kp 1123],[kp 99],[kp 262243],[kp 99],[kp 16]] [[kp 32]]
abbrev s145_0 (rows:(List LV)) (row:LV) (i0:Int) (v0:Int):St:=⟨[(0,.brw TVS rows),(1,.data TVS row),(5,dI v0),(6,dI i0)],[]⟩
abbrev LP145_0 (rows:(List LV)) (row:LV) (m:Nat) (st_:St) (K:KX):Prop:=True/\cN (t:=TVS) (s145_0 rows row) rows (F.gu rows row) (fun v0:Int=>True) (bA (fun v0:Int=>True->K (.exit 0) (⟨[(5,dI v0)],[]⟩:St)) (fun _=>False)) m st_
def L145 (rows:(List LV)) (row:LV):bC:=lp1 0 (LP145_0 rows row)
theorem vc145 (rows:(List LV)) (row:LV) (K:KA):vcT C145 (L145 rows row) ann145 f145 [.brw TVS rows,.data TVS row] [] (.dat aD) K =
 (∃m_,True/\cN (t:=TVS) (s145_0 rows row) rows (F.gu rows row) (fun v0:Int=>True) (bA (fun v0:Int=>True->K (dI v0) []) (fun _=>False)) m_ (s145_0 rows row Z0 Z0)):=by kernel_rfl
theorem lvc145_0 (rows:(List LV)) (row:LV)  (i0:Int) (v0:Int) (m:Nat) (K:KX):lvT C145 (L145 rows row) ann145 f145 0 0 (s145_0 rows row i0 v0) m K =
 (cond (decide (i0<(rows.length:Int))) ((0<=i0)/\(i0<(rows.length:Int))/\(Sm TVS (nth (t:=TVS) rows i0))/\(Sm TVS row)/\cond (decide ((nth (t:=TVS) rows i0)=row)) (nxT (LP145_0 rows row) m K (s145_0 rows row (wrap64 (i0+Z1)) (wrap64 (v0+Z1)))) (nxT (LP145_0 rows row) m K (s145_0 rows row (wrap64 (i0+Z1)) v0))) (K (.exit 0) (⟨[(5,dI v0)],[]⟩:St))):=by kernel_rfl
theorem con145_ok:aV P 145 c145:=aY C145 func145 (kC con153_ok kN) fun args hp K h0=>by
 obtain⟨rows,row,rfl,rfl,h_rows,h_row,hK⟩:=g2e h0
 have h:ok (F.qB rows row) (fun r=>K (dI r) []):=aB (F.yo rows row h_rows h_row) hK
 refine⟨rfl,ann145,(L145 rows row),(.dat aD),(br (i0:=0) (by kernel_rfl) ?_),?_⟩
 ·rintro _ _ K ⟨hc0,i0,v0,rfl,hl0,rfl,hv0,h⟩
  exact cast (lvc145_0 _ _ _ _ _ _).symm (cj (t:=TVS) hl0 h (fun ht0 h=>⟨hl0,⟨ht0,⟨(aH h_rows i0),⟨h_row,(oC h (fun _ h=>(bF (t:=TVS) (fun _ hm=>⟨hc0,hm⟩) _ rfl hl0 ht0 (bE h_rows) trivial h)) fun _ h=>(bF (t:=TVS) (fun _ hm=>⟨hc0,hm⟩) _ rfl hl0 ht0 (bE h_rows) trivial h))⟩⟩⟩⟩) fun h=>(h trivial))
 ·rw[vc145]
  exact(bN (t:=TVS) (fun m hm=>⟨trivial,hm⟩) _ rfl trivial (aX h (fun v0 h hv0=>h) (fun _ h=>h.elim)))
def c79:Con:=⟨[.dat TTb,.dat ay],fun args hp K=>g2 (pD TTb) (pD ay) (fun tables c=>(Sm TTb tables)/\(Sm ay c)/\K (dB (M.aR tables c)) []) args hp,.bor,false⟩
abbrev C79:Ctx:=cx [(48,c48),(143,c143),(144,c144),(145,c145)] 46 [] 0 false
def ann79:=an [[.fixRow 3 ay,kp 9],[kp 536870921],[kp 16],[kp 40],[kp 137438953512],[kp 16],[kp 16]] []
theorem vc79 (tables:LTb) (c:ay.D) (K:KA):vcT C79 aA ann79 f79 [.data TTb tables,.data ay c] [] (.dat Ty.bool) K =
 ((Sm TTb tables)/\cond ((!(M.aF tables))==false) (cond ((!(M.inR c.1 Z0 (wrap64 ((tables.length:Int)-Z1))))==false) ((0<=c.1)/\(c.1<(tables.length:Int))/\(Sm TCS (nT tables c.1).1)/\(Sm TVS c.2.1)/\cond (!(M.bU (nT tables c.1).1 c.2.1)) (K (dB false) []) ((0<=c.1)/\(c.1<(tables.length:Int))/\cond c.2.2.1 (K (dB (decide (((nT tables c.1).2.1.length:Int)<Z6))) []) ((Sm (Ty.sl TVS) (nT tables c.1).2.1)/\(Sm TVS c.2.1)/\K (dB (decide (Z0<(M.bq (nT tables c.1).2.1 c.2.1:Int)))) []))) (K (dB false) [])) (K (dB false) [])):=by kernel_rfl
theorem con79_ok:aV P 79 c79:=aY C79 func79 (kC con48_ok (kC con143_ok (kC con144_ok (kC con145_ok kN)))) fun args hp K h0=>by
 obtain⟨tables,c,rfl,rfl,h_tables,h_c,hK⟩:=g2e h0
 have h:ok (F.oP tables c) (fun r=>K (dB r) []):=aB (F.wz tables c h_tables h_c) hK
 refine⟨rfl,ann79,aA,(.dat Ty.bool),(aI (by kernel_rfl)),?_⟩
 ·rw[vc79]
  exact⟨h_tables,(oC h (fun _ h=>(oC h (fun b_2 h=>⟨(kE (bnf (bgt b_2))),⟨(oh (bnf (bgt b_2))),⟨(aH h_tables c.1).1,⟨h_c.2.1,(oC h (fun _ h=>h) fun _ h=>⟨(kE (bnf (bgt b_2))),⟨(oh (bnf (bgt b_2))),(oC h (fun _ h=>h) fun _ h=>⟨(aH h_tables c.1).2.1,⟨h_c.2.1,h⟩⟩)⟩⟩)⟩⟩⟩⟩) fun _ h=>h)) fun _ h=>h)⟩
def c111:Con:=⟨[.dat (Ty.sl TVS),.dat (Ty.sl TVS)],fun args hp K=>g2 (pD (Ty.sl TVS)) (pD (Ty.sl TVS)) (fun a b=>(Sm (Ty.sl TVS) a)/\(Sm (Ty.sl TVS) b)/\(LD (M.dX a b) fun r=>K (.own 0 none) [(0,.arr .dp TVS r)])) args hp,.bor,false⟩
abbrev C111:Ctx:=cx [(110,c110),(145,c145)] 45 [] 0 true
def ann111:=an [[kp 3],[kp 35],[.weak 9,kp 99],[kp 227],[kp 8419],[kp 227],[kp 268435683],[kp 227],[kp 227],[kp 16]] [[kp 32]]
abbrev s111_0 (a:(List LV)) (b:(List LV)) (i0:Int) (v0:(List LV)×(List LV)):St:=⟨[(0,.data (Ty.sl TVS) a),(1,.data (Ty.sl TVS) b),(5,.own 8 none),(6,.own 9 none),(7,dI i0)],[(8,.arr .dp TVS v0.1),(9,.arr .sh TVS v0.2)]⟩
abbrev LP111_0 (a:(List LV)) (b:(List LV)) (m:Nat) (st_:St) (K:KX):Prop:=True/\cN (t:=TVS) (s111_0 a b) a (F.ij a b) (fun v0:(List LV)×(List LV)=>True) (bA (fun v0:(List LV)×(List LV)=>True->K (.exit 0) (⟨[(5,.own 8 none)],[(8,.arr .dp TVS v0.1)]⟩:St)) (fun _=>False)) m st_
def L111 (a:(List LV)) (b:(List LV)):bC:=lp1 0 (LP111_0 a b)
theorem vc111 (a:(List LV)) (b:(List LV)) (K:KA):vcT C111 (L111 a b) ann111 f111 [.data (Ty.sl TVS) a,.data (Ty.sl TVS) b] [] .raw K =
 (∃m_,True/\cN (t:=TVS) (s111_0 a b) a (F.ij a b) (fun v0:(List LV)×(List LV)=>True) (bA (fun v0:(List LV)×(List LV)=>True->K (.own 0 none) [(0,.arr .dp TVS v0.1)]) (fun _=>False)) m_ (s111_0 a b Z0 ([],[]))):=by kernel_rfl
theorem lvc111_0 (a:(List LV)) (b:(List LV))  (i0:Int) (v0:(List LV)×(List LV)) (m:Nat) (K:KX):lvT C111 (L111 a b) ann111 f111 0 0 (s111_0 a b i0 v0) m K =
 (cond (decide (i0<(a.length:Int))) ((0<=i0)/\(i0<(a.length:Int))/\(0<=i0)/\(i0<(a.length:Int))/\(Sm (Ty.sl TVS) v0.2)/\(Sm TVS (nth (t:=TVS) a i0))/\(Sm (Ty.sl TVS) b)/\(Sm TVS (nth (t:=TVS) a i0))/\cond (decide ((M.bq v0.2 (nth (t:=TVS) a i0):Int)<(M.bq b (nth (t:=TVS) a i0):Int))) ((0<=i0)/\(i0<(a.length:Int))/\((v0.2.length+[(nth (t:=TVS) a i0)].length) * 24<=lim)/\(nxT (LP111_0 a b) m K (s111_0 a b (wrap64 (i0+Z1)) (v0.1,(v0.2++[(nth (t:=TVS) a i0)]))))) ((0<=i0)/\(i0<(a.length:Int))/\(Sm TVS (nth (t:=TVS) a i0))/\(LD (nth (t:=TVS) a i0) fun r1=>((v0.1.length+[r1].length) * 24<=lim)/\(nxT (LP111_0 a b) m K (s111_0 a b (wrap64 (i0+Z1)) ((v0.1++[r1]),v0.2)))))) (K (.exit 0) (⟨[(5,.own 8 none)],[(8,.arr .dp TVS v0.1)]⟩:St))):=by kernel_rfl
theorem con111_ok:aV P 111 c111:=aY C111 func111 (kC con110_ok (kC con145_ok kN)) fun args hp K h0=>by
 obtain⟨a,b,rfl,rfl,h_a,h_b,hK⟩:=g2e h0
 have h:ok (F.og a b) (fun r=>K (.own 0 none) [(0,.arr .dp TVS r)]):=aB (F.wN a b h_a h_b) (hK _ rfl)
 refine⟨rfl,ann111,(L111 a b),.raw,(br (i0:=0) (by kernel_rfl) ?_),?_⟩
 ·rintro _ _ K ⟨hc0,i0,v0,rfl,hl0,rfl,hv0,h⟩
  exact cast (lvc111_0 _ _ _ _ _ _).symm (cj (t:=TVS) hl0 h (fun ht0 h=>⟨hl0,⟨ht0,⟨hl0,⟨ht0,(oG h fun _ h=>⟨(aH h_a i0),⟨h_b,⟨(aH h_a i0),(oC h (fun _ h=>⟨hl0,⟨ht0,(oG h fun _ h=>(bF (t:=TVS) (fun _ hm=>⟨hc0,hm⟩) _ rfl hl0 ht0 (bE h_a) trivial h))⟩⟩) fun _ h=>⟨hl0,⟨ht0,⟨(aH h_a i0),(oL h fun _ _ h=>(oG h fun _ h=>(bF (t:=TVS) (fun _ hm=>⟨hc0,hm⟩) _ rfl hl0 ht0 (bE h_a) trivial h)))⟩⟩⟩)⟩⟩⟩)⟩⟩⟩⟩) fun h=>(h trivial))
 ·rw[vc111]
  exact(bN (t:=TVS) (fun m hm=>⟨trivial,hm⟩) _ rfl trivial (aX h (fun v0 h hv0=>h) (fun _ h=>h.elim)))
def c51:Con:=⟨[.dat TTb,.dat ay],fun args hp K=>g2 (pD TTb) (pD ay) (fun tables c=>(Sm TTb tables)/\(Sm ay c)/\(LD (cond (M.aR tables c) (M.aQ tables c) [],M.aR tables c) fun r=>K (.tup [.own 0 none,dB r.2]) [(0,.arr .dp ag r.1)])) args hp,.bor,false⟩
abbrev C51:Ctx:=cx [(50,c50),(79,c79),(110,c110),(111,c111)] 48 [] 0 true
def ann51:=an [[.fixRow 3 ay,kp 9],[kp 1033],[kp 48],[kp 72],[kp 32840],[kp 64],[kp 64],[kp 48]] []
theorem vc51 (tables:LTb) (c:ay.D) (K:KA):vcT C51 aA ann51 f51 [.data TTb tables,.data ay c] [] .raw K =
 ((Sm TTb tables)/\(Sm ay c)/\cond (!(M.aR tables c)) (K (.tup [.own 0 none,dB false]) [(0,.arr .dp ag [])]) ((Sm TTb tables)/\(LD tables fun r1=>cond c.2.2.1 ((0<=c.1)/\(c.1<(r1.length:Int))/\(Sm TVS c.2.1)/\(LD c.2.1 fun r2=>(((nT r1 c.1).2.1.length+[r2].length) * 24<=lim)/\(0<=c.1)/\(c.1<((r1.set c.1.toNat ((nT r1 c.1).1,([],()))).length:Int))/\(c.1=c.1)/\(let y1:LTb:=((r1.set c.1.toNat ((nT r1 c.1).1,([],()))).set c.1.toNat ((nT (r1.set c.1.toNat ((nT r1 c.1).1,([],()))) c.1).1,(((nT r1 c.1).2.1++[r2]),())));K (.tup [.own 0 none,dB true]) [(0,.arr .dp ag y1)]))) ((0<=c.1)/\(c.1<(r1.length:Int))/\(Sm (Ty.sl TVS) (nT r1 c.1).2.1)/\(Sm (Ty.sl TVS) [c.2.1])/\(LD (M.dX (nT r1 c.1).2.1 [c.2.1]) fun r3=>(0<=c.1)/\(c.1<(r1.length:Int))/\K (.tup [.own 0 none,dB true]) [(0,.arr .dp ag (r1.set c.1.toNat ((nT r1 c.1).1,(r3,()))))]))))):=by kernel_rfl
theorem con51_ok:aV P 51 c51:=aY C51 func51 (kC con50_ok (kC con79_ok (kC con110_ok (kC con111_ok kN)))) fun args hp K h0=>by
 obtain⟨tables,c,rfl,rfl,h_tables,h_c,hK⟩:=g2e h0
 have h:ok (F.kJ tables c) (fun r=>K (.tup [.own 0 none,dB r.2]) [(0,.arr .dp ag r.1)]):=aB (F.sX tables c h_tables h_c) (hK _ rfl)
 refine⟨rfl,ann51,aA,.raw,(aI (by kernel_rfl)),?_⟩
 ·rw[vc51]
  exact⟨h_tables,⟨h_c,(oC h (fun _ h=>h) fun _ h=>⟨h_tables,(oL h fun _ _ h=>(oC h (fun _ h=>(oG h fun g1 h=>(oG h fun _ h=>⟨h_c.2.1,(oL h fun _ _ h=>(oG h fun _ h=>⟨g1,(oG h fun _ h=>⟨rfl,(have h:=cX h _ rfl;h)⟩)⟩))⟩))) fun _ h=>(oG h fun g2 h=>(oG h fun g3 h=>(oG h fun _ h=>⟨(nq h_c.2.1),(oL h fun _ _ h=>⟨g2,⟨g3,h⟩⟩)⟩)))))⟩)⟩⟩
def c35:Con:=⟨[.dat TTb,.dat (Ty.sl ah),.dat ay],fun args hp K=>g3 (pD TTb) (pD (Ty.sl ah)) (pD ay) (fun tables bonds c=>(Sm TTb tables)/\(Sm (Ty.sl ah) bonds)/\(Sm ay c)/\(LD (M.aU tables bonds c) fun r=>K (.tup [.data TTb r.1,dB r.2]) [])) args hp,.plain,false⟩
abbrev C35:Ctx:=cx [(49,c49),(51,c51),(80,c80),(82,c82)] 101 [] 0 false
def ann35:=an [[.fixRow 5 ay,kp 35],[.weak 19,kp 771],[kp 1795],[kp 33556227],[kp 1795],[kp 1795],[kp 8796093022466],[kp 192],[kp 2306],[.keep [1,8,45]],[kp 2306],[kp 6402],[kp 9007199254747394],[kp 6402],[.fixRow 13 ah,kp 14594],[kp 30978],[kp 295147905179352856834],[kp 61698],[kp 4354],[kp 6402],[.keep [8,98]],[kp 192],[kp 192]] [[kp 770],[],[kp 258],[],[kp 2306]]
abbrev s35_0 (tables:LTb) (bonds:(List ah.D)) (c:ay.D) (c0_0:LTb) (i0:Int) (v0:Bool):St:=⟨[(0,.data TTb tables),(1,.data (Ty.sl ah) bonds),(8,.own 19 none),(9,dB v0),(10,dI i0)],[(19,.arr .sh ag c0_0)]⟩
abbrev LP35_0 (tables:LTb) (bonds:(List ah.D)) (c:ay.D) (m:Nat) (st_:St) (K:KX):Prop:=∃c0_0:LTb,True/\cN (t:=ah) (s35_0 tables bonds c c0_0) bonds (F.ep tables bonds c c0_0) (fun v0:Bool=>True) (bA (fun v0:Bool=>True->K (.exit 0) (⟨[(1,.data (Ty.sl ah) bonds),(8,.own 19 none),(9,dB v0)],[(19,.arr .sh ag c0_0)]⟩:St)) (fun _=>False)) m st_
abbrev s35_2 (tables:LTb) (bonds:(List ah.D)) (c:ay.D) (v2:Bool×LTb):St:=⟨[(1,.data (Ty.sl ah) bonds),(8,.own 19 none),(11,dB v2.1)],[(19,.arr .sh ag v2.2)]⟩
abbrev LP35_2 (tables:LTb) (bonds:(List ah.D)) (c:ay.D) (m:Nat) (st_:St) (K:KX):Prop:=True/\cR (s35_2 tables bonds c) (F.ee tables bonds c) (fun v2:Bool×LTb=>True) (fun e2:LTb=>True->K (.exit 2) (⟨[(1,.data (Ty.sl ah) bonds),(8,.own 19 none)],[(19,.arr .sh ag e2)]⟩:St)) m st_
abbrev s35_4 (tables:LTb) (bonds:(List ah.D)) (c:ay.D) (v4:Bool×Int×LTb):St:=⟨[(1,.data (Ty.sl ah) bonds),(8,.own 19 none),(11,dB v4.1),(12,dI v4.2.1)],[(19,.arr .sh ag v4.2.2)]⟩
abbrev LP35_4 (tables:LTb) (bonds:(List ah.D)) (c:ay.D) (m:Nat) (st_:St) (K:KX):Prop:=True/\cR (s35_4 tables bonds c) (F.cK tables bonds c) (fun v4:Bool×Int×LTb=>True) (fun e4:Bool×LTb=>True->K (.exit 4) (⟨[(1,.data (Ty.sl ah) bonds),(8,.own 19 none),(11,dB e4.1)],[(19,.arr .sh ag e4.2)]⟩:St)) m st_
def L35 (tables:LTb) (bonds:(List ah.D)) (c:ay.D):bC:=fun id m st_ K=>match id with
 | 0=>LP35_0 tables bonds c m st_ K
 | 2=>LP35_2 tables bonds c m st_ K
 | 4=>LP35_4 tables bonds c m st_ K
 | _=>False
theorem vc35 (tables:LTb) (bonds:(List ah.D)) (c:ay.D) (K:KA):vcT C35 (L35 tables bonds c) ann35 f35 [.data TTb tables,.data (Ty.sl ah) bonds,.data ay c] [] (.tup [TTb,Ty.bool]) K =
 ((Sm TTb tables)/\(Sm ay c)/\(LD (cond (M.aR tables c) (M.aQ tables c) [],M.aR tables c) fun r1=>(∃m_,∃c0_0:LTb,True/\cN (t:=ah) (s35_0 tables bonds c c0_0) bonds (F.ep tables bonds c c0_0) (fun v0:Bool=>True) (bA (fun v0:Bool=>True->cond ((!v0)==false) (cond (decide (Z4<(bonds.length:Int))) (K (.tup [.data TTb [],dB false]) []) (∃m_,True/\cR (s35_2 tables bonds c) (F.ee tables bonds c) (fun v2:Bool×LTb=>True) (fun e2:LTb=>True->(Sm TTb e2)/\(Sm (Ty.sl ah) bonds)/\cond (!(M.bS e2 bonds)) (K (.tup [.data TTb [],dB false]) []) (K (.tup [.data TTb e2,dB true]) [])) m_ (s35_2 tables bonds c (true,c0_0)))) (K (.tup [.data TTb [],dB false]) [])) (fun _=>False)) m_ (s35_0 tables bonds c r1.1 Z0 r1.2)))):=by kernel_rfl
theorem lvc35_0 (tables:LTb) (bonds:(List ah.D)) (c:ay.D) (c0_0:LTb) (i0:Int) (v0:Bool) (m:Nat) (K:KX):lvT C35 (L35 tables bonds c) ann35 f35 0 0 (s35_0 tables bonds c c0_0 i0 v0) m K =
 (cond (decide (i0<(bonds.length:Int))) (cond (v0==true) ((0<=i0)/\(i0<(bonds.length:Int))/\(Sm TTb tables)/\(Sm ah (nth (t:=ah) bonds i0))/\(nxT (LP35_0 tables bonds c) m K (s35_0 tables bonds c c0_0 (wrap64 (i0+Z1)) (M.aF tables&&M.aN tables (nth (t:=ah) bonds i0))))) (nxT (LP35_0 tables bonds c) m K (s35_0 tables bonds c c0_0 (wrap64 (i0+Z1)) false))) (K (.exit 0) (⟨[(1,.data (Ty.sl ah) bonds),(8,.own 19 none),(9,dB v0)],[(19,.arr .sh ag c0_0)]⟩:St))):=by kernel_rfl
theorem lvc35_1 (tables:LTb) (bonds:(List ah.D)) (c:ay.D)  (v2:Bool×LTb) (m:Nat) (K:KX):lvT C35 (L35 tables bonds c) ann35 f35 1 2 (s35_2 tables bonds c v2) m K =
 (cond v2.1 (∃m_,True/\cR (s35_4 tables bonds c) (F.cK tables bonds c) (fun v4:Bool×Int×LTb=>True) (fun e4:Bool×LTb=>True->(nxT (LP35_2 tables bonds c) m K (s35_2 tables bonds c (e4.1,e4.2)))) m_ (s35_4 tables bonds c (false,Z0,v2.2))) (K (.exit 2) (⟨[(1,.data (Ty.sl ah) bonds),(8,.own 19 none)],[(19,.arr .sh ag v2.2)]⟩:St))):=by kernel_rfl
abbrev S35l4_0 (tables:LTb) (bonds:(List ah.D)) (c:ay.D)  (v4:Bool×Int×LTb) (m:Nat) (K:KX):Prop:=K (.exit 4) (⟨[(1,.data (Ty.sl ah) bonds),(8,.own 19 none),(11,dB v4.1)],[(19,.arr .sh ag v4.2.2)]⟩:St)
theorem lvc35_2 (tables:LTb) (bonds:(List ah.D)) (c:ay.D)  (v4:Bool×Int×LTb) (m:Nat) (K:KX):lvT C35 (L35 tables bonds c) ann35 f35 2 4 (s35_4 tables bonds c v4) m K =
 (cond ((decide (v4.2.1<(bonds.length:Int)))==true) (cond (!v4.1) ((0<=v4.2.1)/\(v4.2.1<(bonds.length:Int))/\(Sm TTb v4.2.2)/\(Sm ah (nth (t:=ah) bonds v4.2.1))/\((M.aF v4.2.2&&M.aN v4.2.2 (nth (t:=ah) bonds v4.2.1))=true)/\cond ((nth (t:=ah) bonds v4.2.1).2.2.2.2.2.1==true) (cond (decide (Z0<=(M.broken v4.2.2 (nth (t:=ah) bonds v4.2.1)))) ((0<=(nth (t:=ah) bonds v4.2.1).2.1)/\((nth (t:=ah) bonds v4.2.1).2.1<(v4.2.2.length:Int))/\(0<=Z0)/\(Z0<=(M.broken v4.2.2 (nth (t:=ah) bonds v4.2.1)))/\((M.broken v4.2.2 (nth (t:=ah) bonds v4.2.1))<=((nT v4.2.2 (nth (t:=ah) bonds v4.2.1).2.1).2.1.length:Int))/\((M.broken v4.2.2 (nth (t:=ah) bonds v4.2.1))=(M.broken v4.2.2 (nth (t:=ah) bonds v4.2.1)))/\((([]:List TVS.D).length+(aC (nT v4.2.2 (nth (t:=ah) bonds v4.2.1).2.1).2.1 (some (Z0,(M.broken v4.2.2 (nth (t:=ah) bonds v4.2.1))))).length) * 24<=lim)/\(0<=(nth (t:=ah) bonds v4.2.1).2.1)/\((nth (t:=ah) bonds v4.2.1).2.1<(v4.2.2.length:Int))/\(0<=wrap64 ((M.broken v4.2.2 (nth (t:=ah) bonds v4.2.1))+Z1))/\(wrap64 ((M.broken v4.2.2 (nth (t:=ah) bonds v4.2.1))+Z1)<=((nT v4.2.2 (nth (t:=ah) bonds v4.2.1).2.1).2.1.length:Int))/\(((nT v4.2.2 (nth (t:=ah) bonds v4.2.1).2.1).2.1.length:Int)<=((nT v4.2.2 (nth (t:=ah) bonds v4.2.1).2.1).2.1.length:Int))/\(((nT v4.2.2 (nth (t:=ah) bonds v4.2.1).2.1).2.1.length:Int)=((nT v4.2.2 (nth (t:=ah) bonds v4.2.1).2.1).2.1.length:Int))/\((([]++(aC (nT v4.2.2 (nth (t:=ah) bonds v4.2.1).2.1).2.1 (some (Z0,(M.broken v4.2.2 (nth (t:=ah) bonds v4.2.1)))))).length+(aC (nT v4.2.2 (nth (t:=ah) bonds v4.2.1).2.1).2.1 (some (wrap64 ((M.broken v4.2.2 (nth (t:=ah) bonds v4.2.1))+Z1),((nT v4.2.2 (nth (t:=ah) bonds v4.2.1).2.1).2.1.length:Int)))).length) * 24<=lim)/\(0<=(nth (t:=ah) bonds v4.2.1).2.1)/\((nth (t:=ah) bonds v4.2.1).2.1<(v4.2.2.length:Int))/\(let y1:LTb:=(v4.2.2.set (nth (t:=ah) bonds v4.2.1).2.1.toNat ((nT v4.2.2 (nth (t:=ah) bonds v4.2.1).2.1).1,((([]++(aC (nT v4.2.2 (nth (t:=ah) bonds v4.2.1).2.1).2.1 (some (Z0,(M.broken v4.2.2 (nth (t:=ah) bonds v4.2.1))))))++(aC (nT v4.2.2 (nth (t:=ah) bonds v4.2.1).2.1).2.1 (some (wrap64 ((M.broken v4.2.2 (nth (t:=ah) bonds v4.2.1))+Z1),((nT v4.2.2 (nth (t:=ah) bonds v4.2.1).2.1).2.1.length:Int))))),())));(nxT (LP35_4 tables bonds c) m K (s35_4 tables bonds c (true,wrap64 (v4.2.1+Z1),y1))))) (nxT (LP35_4 tables bonds c) m K (s35_4 tables bonds c (v4.1,wrap64 (v4.2.1+Z1),v4.2.2)))) (nxT (LP35_4 tables bonds c) m K (s35_4 tables bonds c (v4.1,wrap64 (v4.2.1+Z1),v4.2.2)))) (S35l4_0  tables bonds c v4 m K)) (S35l4_0  tables bonds c v4 m K)):=by kernel_rfl
theorem con35_ok:aV P 35 c35:=aY C35 func35 (kC con49_ok (kC con51_ok (kC con80_ok (kC con82_ok kN)))) fun args hp K h0=>by
 obtain⟨tables,bonds,c,rfl,rfl,h_tables,h_bonds,h_c,hK⟩:=g3e h0
 have h:ok (F.jF tables bonds c) (fun r=>K (.tup [.data TTb r.1,dB r.2]) []):=aB (F.su tables bonds c h_tables h_bonds h_c) (hK _ rfl)
 refine⟨rfl,ann35,(L35 tables bonds c),(.tup [TTb,Ty.bool]),(Fl (i0:=0) (i1:=2) (i2:=4) (by kernel_rfl) ?_ ?_ ?_),?_⟩
 ·rintro _ _ K ⟨c0_0,hc0,i0,v0,rfl,hl0,rfl,hv0,h⟩
  exact cast (lvc35_0 _ _ _ _ _ _ _ _).symm (cj (t:=ah) hl0 h (fun ht0 h=>(oC h (fun _ h=>⟨hl0,⟨ht0,⟨h_tables,⟨(aH h_bonds i0),(bF (t:=ah) (fun _ hm=>⟨c0_0,hc0,hm⟩) _ rfl hl0 ht0 (bE h_bonds) trivial h)⟩⟩⟩⟩) fun _ h=>(bF (t:=ah) (fun _ hm=>⟨c0_0,hc0,hm⟩) _ rfl hl0 ht0 (bE h_bonds) trivial h))) fun h=>(h trivial))
 ·rintro _ _ K ⟨hc2,v2,rfl,hv2,h⟩
  exact cast (lvc35_1 _ _ _ _ _ _).symm (cm h (fun m1 hm2 h=>(oC h (fun _ h=>(bI (fun m hm=>⟨trivial,hm⟩) _ rfl trivial (eA h (fun e4 h hv4=>(bz (fun _ hm=>⟨hc2,hm⟩) hm2 _ rfl trivial h))))) fun _ h=>((cq h :) trivial))))
 ·rintro _ _ K ⟨hc4,v4,rfl,hv4,h⟩
  exact cast (lvc35_2 _ _ _ _ _ _).symm (cm h (fun m1 hm4 h=>(oC h (fun _ h=>(oC h (fun _ h=>(oG h fun _ h=>(oG h fun _ h=>(oG h fun _ h=>⟨(aH h_bonds v4.2.1),(oG h fun _ h=>(oC h (fun _ h=>(oC h (fun _ h=>(oG h fun g1 h=>(oG h fun g2 h=>⟨(Int.natCast_nonneg 0),(oG h fun _ h=>(oG h fun _ h=>⟨rfl,(oG h fun _ h=>⟨g1,⟨g2,(oG h fun _ h=>(oG h fun _ h=>⟨(Int.le_refl _),⟨rfl,(oG h fun _ h=>⟨g1,⟨g2,(have h:=cX h _ rfl;(bz (fun _ hm=>⟨hc4,hm⟩) hm4 _ rfl trivial h))⟩⟩)⟩⟩))⟩⟩)⟩))⟩))) fun _ h=>(bz (fun _ hm=>⟨hc4,hm⟩) hm4 _ rfl trivial h))) fun _ h=>(bz (fun _ hm=>⟨hc4,hm⟩) hm4 _ rfl trivial h)))⟩)))) fun _ h=>((cq h :) trivial))) fun _ h=>((cq h :) trivial))))
 ·rw[vc35]
  exact⟨h_tables,⟨h_c,(oL h fun r1 _ h=>(bN (t:=ah) (fun m hm=>⟨r1.1,trivial,hm⟩) _ rfl trivial (aX h (fun v0 h hv0=>(oC h (fun _ h=>(oC h (fun _ h=>h) fun _ h=>(bI (fun m hm=>⟨trivial,hm⟩) _ rfl trivial (eA h (fun e2 h hv2=>(oG h fun _ h=>⟨h_bonds,(oC h (fun _ h=>h) fun _ h=>h)⟩)))))) fun _ h=>h)) (fun _ h=>h.elim))))⟩⟩
def c37:Con:=⟨[.dat TTb,.dat (Ty.sl ah),.dat ay],fun args hp K=>g3 (pD TTb) (pD (Ty.sl ah)) (pD ay) (fun tables bonds c=>(Sm TTb tables)/\(Sm (Ty.sl ah) bonds)/\(Sm ay c)/\(LD (M.aU tables bonds c) fun r=>K (.tup [.own 0 none,dB r.2]) [(0,.arr .dp ag r.1)])) args hp,.bor,false⟩
abbrev C37:Ctx:=cx [(27,c27),(55,c55),(77,c77),(84,c84),(85,c85),(86,c86),(87,c87)] 65 [(88,T88)] 0 true
def ann37:=an [[.fixRow 5 ay,kp 35],[.fixBox 8,.fixOwn 8,kp 771],[kp 2147483906],[kp 192],[kp 2147484930],[kp 70866961666],[.fixRow 11 ah,kp 2147485954],[kp 2147490050],[kp 2147483906],[.keep [8,63]],[kp 192],[kp 192]] [[kp 258]]
abbrev s37_0 (tables:LTb) (bonds:(List ah.D)) (c:ay.D) (v0:LTb):St:=⟨[(1,.data (Ty.sl ah) bonds),(8,.ref (.own 16 none)),(31,dB (!(M.aF tables&&List.all bonds (M.aN tables))))],[(16,.arr .dp ag v0)]⟩
abbrev LP37_0 (tables:LTb) (bonds:(List ah.D)) (c:ay.D) (m:Nat) (st_:St) (K:KX):Prop:=True/\cR (s37_0 tables bonds c) (F.dZ tables bonds c) (fun v0:LTb=>True) (fun e0:LTb=>True->K (.exit 0) (⟨[(1,.data (Ty.sl ah) bonds),(8,.ref (.own 16 none))],[(16,.arr .dp ag e0)]⟩:St)) m st_
def L37 (tables:LTb) (bonds:(List ah.D)) (c:ay.D):bC:=lp1 0 (LP37_0 tables bonds c)
theorem vc37 (tables:LTb) (bonds:(List ah.D)) (c:ay.D) (K:KA):vcT C37 (L37 tables bonds c) ann37 f37 [.data TTb tables,.data (Ty.sl ah) bonds,.data ay c] [] .raw K =
 ((Sm TTb tables)/\(Sm ay c)/\(LD (cond (M.aR tables c) (M.aQ tables c) [],M.aR tables c) fun r1=>cond ((!r1.2)==false) (cond ((decide (Z4<(bonds.length:Int)))==false) ((Sm TTb tables)/\(Sm (Ty.sl ah) bonds)/\cond (!(M.aF tables&&List.all bonds (M.aN tables))) (K (.tup [.own 0 none,dB false]) [(0,.arr .dp ag [])]) (∃m_,True/\cR (s37_0 tables bonds c) (F.dZ tables bonds c) (fun v0:LTb=>True) (fun e0:LTb=>True->(Sm TTb e0)/\(Sm (Ty.sl ah) bonds)/\(∀e∈bonds,(M.aF e0&&M.aN e0 e)=true)/\cond (!(!List.any bonds (fun e=>decide (0<=M.broken e0 e)))) (K (.tup [.own 0 none,dB false]) [(0,.arr .dp ag [])]) (K (.tup [.own 0 none,dB true]) [(0,.arr .dp ag e0)])) m_ (s37_0 tables bonds c r1.1))) (K (.tup [.own 0 none,dB false]) [(0,.arr .dp ag [])])) (K (.tup [.own 0 none,dB false]) [(0,.arr .dp ag [])]))):=by kernel_rfl
theorem lvc37_0 (tables:LTb) (bonds:(List ah.D)) (c:ay.D)  (v0:LTb) (m:Nat) (K:KX):lvT C37 (L37 tables bonds c) ann37 f37 0 0 (s37_0 tables bonds c v0) m K =
 (((Sm (Ty.sl ah) bonds)/\(Sm TTb v0)/\(∀e∈bonds,(M.aF v0&&M.aN v0 e)=true)/\cond (decide ((M.idx (t:=ah) (fun e=>M.loose v0 e) bonds)<Z0)) (K (.exit 0) (⟨[(1,.data (Ty.sl ah) bonds),(8,.ref (.own 16 none))],[(16,.arr .dp ag v0)]⟩:St)) ((0<=(M.idx (t:=ah) (fun e=>M.loose v0 e) bonds))/\((M.idx (t:=ah) (fun e=>M.loose v0 e) bonds)<(bonds.length:Int))/\(Sm ah (nth (t:=ah) bonds (M.idx (t:=ah) (fun e=>M.loose v0 e) bonds)))/\(Sm TTb v0)/\((M.aF v0&&M.aN v0 (nth (t:=ah) bonds (M.idx (t:=ah) (fun e=>M.loose v0 e) bonds)))=true)/\(0<=(nth (t:=ah) bonds (M.idx (t:=ah) (fun e=>M.loose v0 e) bonds)).2.1)/\((nth (t:=ah) bonds (M.idx (t:=ah) (fun e=>M.loose v0 e) bonds)).2.1<(v0.length:Int))/\(0<=(M.broken v0 (nth (t:=ah) bonds (M.idx (t:=ah) (fun e=>M.loose v0 e) bonds))))/\((M.broken v0 (nth (t:=ah) bonds (M.idx (t:=ah) (fun e=>M.loose v0 e) bonds)))<=wrap64 ((M.broken v0 (nth (t:=ah) bonds (M.idx (t:=ah) (fun e=>M.loose v0 e) bonds)))+Z1))/\(wrap64 ((M.broken v0 (nth (t:=ah) bonds (M.idx (t:=ah) (fun e=>M.loose v0 e) bonds)))+Z1)<=((nT v0 (nth (t:=ah) bonds (M.idx (t:=ah) (fun e=>M.loose v0 e) bonds)).2.1).2.1.length:Int))/\(Sm (Ty.sl TVS) ((nT v0 (nth (t:=ah) bonds (M.idx (t:=ah) (fun e=>M.loose v0 e) bonds)).2.1).2.1.take (M.broken v0 (nth (t:=ah) bonds (M.idx (t:=ah) (fun e=>M.loose v0 e) bonds))).toNat++(nT v0 (nth (t:=ah) bonds (M.idx (t:=ah) (fun e=>M.loose v0 e) bonds)).2.1).2.1.drop (wrap64 ((M.broken v0 (nth (t:=ah) bonds (M.idx (t:=ah) (fun e=>M.loose v0 e) bonds)))+Z1)).toNat))/\(LD ((nT v0 (nth (t:=ah) bonds (M.idx (t:=ah) (fun e=>M.loose v0 e) bonds)).2.1).2.1.take (M.broken v0 (nth (t:=ah) bonds (M.idx (t:=ah) (fun e=>M.loose v0 e) bonds))).toNat++(nT v0 (nth (t:=ah) bonds (M.idx (t:=ah) (fun e=>M.loose v0 e) bonds)).2.1).2.1.drop (wrap64 ((M.broken v0 (nth (t:=ah) bonds (M.idx (t:=ah) (fun e=>M.loose v0 e) bonds)))+Z1)).toNat) fun r2=>(0<=(nth (t:=ah) bonds (M.idx (t:=ah) (fun e=>M.loose v0 e) bonds)).2.1)/\((nth (t:=ah) bonds (M.idx (t:=ah) (fun e=>M.loose v0 e) bonds)).2.1<((v0.set (nth (t:=ah) bonds (M.idx (t:=ah) (fun e=>M.loose v0 e) bonds)).2.1.toNat ((nT v0 (nth (t:=ah) bonds (M.idx (t:=ah) (fun e=>M.loose v0 e) bonds)).2.1).1,([],()))).length:Int))/\((nth (t:=ah) bonds (M.idx (t:=ah) (fun e=>M.loose v0 e) bonds)).2.1=(nth (t:=ah) bonds (M.idx (t:=ah) (fun e=>M.loose v0 e) bonds)).2.1)/\(let y1:LTb:=((v0.set (nth (t:=ah) bonds (M.idx (t:=ah) (fun e=>M.loose v0 e) bonds)).2.1.toNat ((nT v0 (nth (t:=ah) bonds (M.idx (t:=ah) (fun e=>M.loose v0 e) bonds)).2.1).1,([],()))).set (nth (t:=ah) bonds (M.idx (t:=ah) (fun e=>M.loose v0 e) bonds)).2.1.toNat ((nT (v0.set (nth (t:=ah) bonds (M.idx (t:=ah) (fun e=>M.loose v0 e) bonds)).2.1.toNat ((nT v0 (nth (t:=ah) bonds (M.idx (t:=ah) (fun e=>M.loose v0 e) bonds)).2.1).1,([],()))) (nth (t:=ah) bonds (M.idx (t:=ah) (fun e=>M.loose v0 e) bonds)).2.1).1,((aC r2 (some (Z0,(r2.length:Int)))),())));(nxT (LP37_0 tables bonds c) m K (s37_0 tables bonds c y1))))))\/False\/False):=by kernel_rfl
theorem con37_ok:aV P 37 c37:=aY C37 func37 (kC con27_ok (kC con55_ok (kC con77_ok (kC con84_ok (kC con85_ok (kC con86_ok (kC con87_ok (kI inlOk88 kN)))))))) fun args hp K h0=>by
 obtain⟨tables,bonds,c,rfl,rfl,h_tables,h_bonds,h_c,hK⟩:=g3e h0
 have h:ok (F.jO tables bonds c) (fun r=>K (.tup [.own 0 none,dB r.2]) [(0,.arr .dp ag r.1)]):=aB (F.rE tables bonds c h_tables h_bonds h_c) (hK _ rfl)
 refine⟨rfl,ann37,(L37 tables bonds c),.raw,(br (i0:=0) (by kernel_rfl) ?_),?_⟩
 ·rintro _ _ K ⟨hc0,v0,rfl,hv0,h⟩
  exact cast (lvc37_0 _ _ _ _ _ _).symm (cm h (fun m1 hm0 h=>(Or.inl (⟨h_bonds,(oG h fun g1 h=>(oG h fun _ h=>(oC h (fun _ h=>((cq h :) trivial)) fun _ h=>(oG h fun _ h=>(oG h fun _ h=>⟨(aH h_bonds (M.idx (t:=ah) (fun e=>M.loose v0 e) bonds)),⟨g1,(oG h fun _ h=>(oG h fun g2 h=>(oG h fun _ h=>(oG h fun _ h=>(oG h fun _ h=>(oG h fun _ h=>(oG h fun _ h=>(oL h fun _ _ h=>⟨g2,(oG h fun _ h=>⟨rfl,(have h:=cX h _ rfl;(bz (fun _ hm=>⟨hc0,hm⟩) hm0 _ rfl trivial h))⟩)⟩))))))))⟩⟩)))))⟩))))
 ·rw[vc37]
  exact⟨h_tables,⟨h_c,(oL h fun _ _ h=>(oC h (fun _ h=>(oC h (fun _ h=>⟨h_tables,⟨h_bonds,(oC h (fun _ h=>h) fun _ h=>(bI (fun m hm=>⟨trivial,hm⟩) _ rfl trivial (eA h (fun e0 h hv0=>(oG h fun _ h=>⟨h_bonds,(oG h fun _ h=>(oC h (fun _ h=>h) fun _ h=>h))⟩)))))⟩⟩) fun _ h=>h)) fun _ h=>h))⟩⟩
abbrev C65:Ctx:=cx [] 11 [] 200000 false
def T65:Inl:=AB C65 (fun _=>[]) (eY f65) f65.results.toList
theorem inlOk65:AO P 65 T65:=GC C65 func65 kN
def c67:Con:=⟨[.any,.dat aD],fun args hp K=>hpR (fun b p=>args2 (fun a0 a1=>me a0 (eX aD a1 fun n=>(Sm TBy b)/\(M.ak b)/\(0<=p)/\(p<=1000000000000000)/\(LD (M.pick b p n) fun r=>K (dI r.1) [(1000000,.box [.data TBy b,dI r.2])]))) args []) hp,.plain,true⟩
abbrev C67:Ctx:=cx [] 99 [] 0 false
def ann67:=an [[kp 3],[kp 3],[kp 16777219],[kp 16],[kp 35],[kp 68719476771],[kp 16],[kp 66],[kp 66],[kp 16]] []
abbrev S67_0 (b:LI) (p:Int) (n:Int) (K:KA):Prop:=K (dI Z0) [(1000000,.box [.data TBy b,dI (wrap64 (p+Z1))])]
abbrev S67_1 (b:LI) (p:Int) (n:Int) (K:KA):Prop:=((64:Int)≠0)/\(n≠0)/\K (dI ((nJ .xor .i64 (wrap64 (wrap64 (wrap64 (wrap64 ((wrap64 (nth (t:=(Ty.int .u8)) b ((wrap64 (wrap64 (p+Z1)-Z1)).tmod (b.length:Int)))) * (131:Int))+wrap64 ((wrap64 (nth (t:=(Ty.int .u8)) b ((wrap64 (wrap64 ((wrap64 (wrap64 (p+Z1)-Z1)) * (7:Int))+Z3)).tmod (b.length:Int)))) * (1117:Int)))+wrap64 ((wrap64 (wrap64 (p+Z1)-Z1)) * (29:Int)))+wrap64 ((wrap64 ((wrap64 (wrap64 (p+Z1)-Z1)).tdiv (b.length:Int))) * (53:Int)))) (wrap64 ((wrap64 (wrap64 (wrap64 (wrap64 ((wrap64 (nth (t:=(Ty.int .u8)) b ((wrap64 (wrap64 (p+Z1)-Z1)).tmod (b.length:Int)))) * (131:Int))+wrap64 ((wrap64 (nth (t:=(Ty.int .u8)) b ((wrap64 (wrap64 ((wrap64 (wrap64 (p+Z1)-Z1)) * (7:Int))+Z3)).tmod (b.length:Int)))) * (1117:Int)))+wrap64 ((wrap64 (wrap64 (p+Z1)-Z1)) * (29:Int)))+wrap64 ((wrap64 ((wrap64 (wrap64 (p+Z1)-Z1)).tdiv (b.length:Int))) * (53:Int)))).tdiv (64:Int)))).tmod n)) [(1000000,.box [.data TBy b,dI (wrap64 (p+Z1))])]
abbrev S67_2 (b:LI) (p:Int) (n:Int) (K:KA):Prop:=(S67_1 b p n K)
theorem vc67 (b:LI) (p:Int) (n:Int) (K:KA):vcT C67 aA ann67 f67 [.ptr 1000000 0,dI n] [(1000000,.box [.data TBy b,dI p])] (.dat aD) K =
 (cond ((decide (n<Z1))==false) (cond (decide ((b.length:Int)=Z0)) (S67_0 b p n K) (cond (decide (wrap64 (wrap64 (p+Z1)-Z1)<(b.length:Int))) ((0<=wrap64 (wrap64 (p+Z1)-Z1))/\(wrap64 (wrap64 (p+Z1)-Z1)<(b.length:Int))/\(n≠0)/\K (dI ((wrap64 (nth (t:=(Ty.int .u8)) b (wrap64 (wrap64 (p+Z1)-Z1)))).tmod n)) [(1000000,.box [.data TBy b,dI (wrap64 (p+Z1))])]) (((b.length:Int)≠0)/\(0<=((wrap64 (wrap64 (p+Z1)-Z1)).tmod (b.length:Int)))/\(((wrap64 (wrap64 (p+Z1)-Z1)).tmod (b.length:Int))<(b.length:Int))/\((b.length:Int)≠0)/\(0<=((wrap64 (wrap64 ((wrap64 (wrap64 (p+Z1)-Z1)) * (7:Int))+Z3)).tmod (b.length:Int)))/\(((wrap64 (wrap64 ((wrap64 (wrap64 (p+Z1)-Z1)) * (7:Int))+Z3)).tmod (b.length:Int))<(b.length:Int))/\((b.length:Int)≠0)/\Q0 (S67_2 b p n K)))) (S67_0 b p n K)):=by kernel_rfl
theorem con67_ok:aV P 67 c67:=aY C67 func67 kN fun args hp K h0=>by
 unfold c67 at h0
 dsimp only at h0
 obtain⟨b,p,rfl,h00⟩:=eT h0
 obtain⟨a0,a1,rfl,_,h1⟩:=bB h00
 obtain⟨rfl,h2⟩:=dh h1
 obtain⟨n,rfl,h3⟩:=bw h2
 obtain⟨h_b,p0,p1,p2,hK⟩:=h3
 have h:ok (F.oX b p n) (fun r=>K (dI r.1) [(1000000,.box [.data TBy b,dI r.2])]):=aB (F.CF b p n h_b p0 p1 p2) (hK _ rfl)
 refine⟨rfl,ann67,aA,(.dat aD),(aI (by kernel_rfl)),?_⟩
 ·rw[vc67]
  exact(oC h (fun _ h=>(oC h (fun _ h=>h) fun _ h=>(oC h (fun _ h=>(oG h fun _ h=>(oG h fun _ h=>(oG h fun _ h=>h)))) fun _ h=>(oG h fun g1 h=>(oG h fun _ h=>(oG h fun _ h=>⟨g1,(oG h fun _ h=>(oG h fun _ h=>⟨g1,(q0 (⟨(by decide),(oG h fun _ h=>h)⟩))⟩))⟩)))))) fun _ h=>h)
def c129:Con:=⟨[.any,.dat aD],fun args hp K=>hpR (fun b p=>args2 (fun a0 a1=>me a0 (eX aD a1 fun n=>(Sm TBy b)/\(M.ak b)/\(0<=p)/\(p<=999000000000000)/\(LD (M.odd b p n) fun r=>K (dB r.1) [(1000000,.box [.data TBy b,dI r.2])]))) args []) hp,.plain,true⟩
abbrev C129:Ctx:=cx [(67,c67)] 15 [] 0 false
def ann129:=an [[kp 3],[kp 16]] []
theorem vc129 (b:LI) (p:Int) (n:Int) (K:KA):vcT C129 aA ann129 f129 [.ptr 1000000 0,dI n] [(1000000,.box [.data TBy b,dI p])] (.dat Ty.bool) K =
 (cond ((decide (Z0<n))==true) ((Sm TBy b)/\(M.ak b)/\(0<=p)/\(p<=1000000000000000)/\(LD (M.pick b p n) fun r1=>K (dB (decide (r1.1=wrap64 (n-Z1)))) [(1000000,.box [.data TBy b,dI r1.2])])) (K (dB false) [(1000000,.box [.data TBy b,dI p])])):=by kernel_rfl
theorem con129_ok:aV P 129 c129:=aY C129 func129 (kC con67_ok kN) fun args hp K h0=>by
 unfold c129 at h0
 dsimp only at h0
 obtain⟨b,p,rfl,h00⟩:=eT h0
 obtain⟨a0,a1,rfl,_,h1⟩:=bB h00
 obtain⟨rfl,h2⟩:=dh h1
 obtain⟨n,rfl,h3⟩:=bw h2
 obtain⟨h_b,p0,p1,p2,hK⟩:=h3
 have h:ok (F.rX b p n) (fun r=>K (dB r.1) [(1000000,.box [.data TBy b,dI r.2])]):=aB (F.CQ b p n h_b p0 p1 p2) (hK _ rfl)
 refine⟨rfl,ann129,aA,(.dat Ty.bool),(aI (by kernel_rfl)),?_⟩
 ·rw[vc129]
  exact(oC h (fun _ h=>⟨h_b,⟨p0,⟨p1,(oG h fun _ h=>(oL h fun _ _ h=>h))⟩⟩⟩) fun _ h=>h)
def c184:Con:=⟨[.any,.dat aD],fun args hp K=>hpR (fun b p=>args2 (fun a0 a1=>me a0 (eX aD a1 fun n=>(Sm TBy b)/\(M.ak b)/\(0<=p)/\(p<=998000000000000)/\(LD (M.gq b p n) fun r=>K (.own 0 none) [(0,.arr .sh ax r.1),(1000000,.box [.data TBy b,dI r.2])]))) args []) hp,.plain,true⟩
abbrev C184:Ctx:=cx [(67,c67),(129,c129)] 40 [] 0 false
def ann184:=an [[kp 3],[kp 35],[kp 99],[kp 4195],[kp 99],[kp 99],[kp 536870945],[kp 32],[kp 16]] [[kp 35]]
abbrev s184_0 (b:LI) (p:Int) (n:Int) (v0:Int×Int×LC):St:=⟨[(0,.ptr 1000000 0),(1,dI n),(5,.own 7 none),(6,dI v0.1)],[(1000000,.box [.data TBy b,dI v0.2.1]),(7,.arr .sh ax v0.2.2)]⟩
abbrev LP184_0 (b:LI) (p:Int) (n:Int) (m:Nat) (st_:St) (K:KX):Prop:=True/\cR (s184_0 b p n) (F.gi b p n) (fun v0:Int×Int×LC=>True) (fun e0:Int×LC=>True->K (.exit 0) (⟨[(0,.ptr 1000000 0),(1,dI n),(5,.own 7 none)],[(1000000,.box [.data TBy b,dI e0.1]),(7,.arr .sh ax e0.2)]⟩:St)) m st_
def L184 (b:LI) (p:Int) (n:Int):bC:=lp1 0 (LP184_0 b p n)
theorem vc184 (b:LI) (p:Int) (n:Int) (K:KA):vcT C184 (L184 b p n) ann184 f184 [.ptr 1000000 0,dI n] [(1000000,.box [.data TBy b,dI p])] .raw K =
 ((Sm TBy b)/\(M.ak b)/\(0<=p)/\(p<=1000000000000000)/\(LD (M.pick b p Z3) fun r1=>(∃m_,True/\cR (s184_0 b p n) (F.gi b p n) (fun v0:Int×Int×LC=>True) (fun e0:Int×LC=>True->(Sm TBy b)/\(M.ak b)/\(0<=e0.1)/\(e0.1<=999000000000000)/\(LD (M.odd b e0.1 n) fun r2=>cond r2.1 ((Sm TBy b)/\(M.ak b)/\(0<=r2.2)/\(r2.2<=1000000000000000)/\(LD (M.pick b r2.2 Z6) fun r3=>((e0.2.length+[(wrap64 (r3.1-Z1),(false,())),(Z1,(false,())),(Z1,(false,()))].length) * 16<=lim)/\K (.own 0 none) [(0,.arr .sh ax (e0.2++[(wrap64 (r3.1-Z1),(false,())),(Z1,(false,())),(Z1,(false,()))])),(1000000,.box [.data TBy b,dI r3.2])])) (K (.own 0 none) [(0,.arr .sh ax e0.2),(1000000,.box [.data TBy b,dI r2.2])]))) m_ (s184_0 b p n (wrap64 (Z1+r1.1),r1.2,[]))))):=by kernel_rfl
theorem lvc184_0 (b:LI) (p:Int) (n:Int)  (v0:Int×Int×LC) (m:Nat) (K:KX):lvT C184 (L184 b p n) ann184 f184 0 0 (s184_0 b p n v0) m K =
 (cond (decide (Z0<v0.1)) (((Sm TBy b)/\(M.ak b)/\(0<=v0.2.1)/\(v0.2.1<=1000000000000000)/\(LD (M.pick b v0.2.1 Z4) fun r4=>(0<=r4.1)/\(r4.1<([Z1,Z1,Z2,Z3].length:Int))/\Q0 ((Sm TBy b)/\(M.ak b)/\(0<=r4.2)/\(r4.2<=1000000000000000)/\(LD (M.pick b r4.2 Z3) fun r5=>((v0.2.2.length+[((nI [Z1,Z1,Z2,Z3] r4.1),((decide (Z0<r5.1)),()))].length) * 16<=lim)/\(nxT (LP184_0 b p n) m K (s184_0 b p n (wrap64 (v0.1-Z1),r5.2,(v0.2.2++[((nI [Z1,Z1,Z2,Z3] r4.1),((decide (Z0<r5.1)),()))]))))))))/\((Sm TBy b)/\(M.ak b)/\(0<=v0.2.1)/\(v0.2.1<=1000000000000000)/\(LD (M.pick b v0.2.1 Z4) fun r4=>((0<=r4.1)/\(r4.1<([Z1,Z1,Z2,Z3].length:Int))/\Q0 ((Sm TBy b)/\(M.ak b)/\(0<=r4.2)/\(r4.2<=1000000000000000)/\(LD (M.pick b r4.2 Z3) fun r5=>((v0.2.2.length+[((nI [Z1,Z1,Z2,Z3] r4.1),((decide (Z0<r5.1)),()))].length) * 16<=lim)/\(nxT (LP184_0 b p n) m K (s184_0 b p n (wrap64 (v0.1-Z1),r5.2,(v0.2.2++[((nI [Z1,Z1,Z2,Z3] r4.1),((decide (Z0<r5.1)),()))])))))))/\((Sm TBy b)/\(M.ak b)/\(0<=r4.2)/\(r4.2<=1000000000000000)/\(LD (M.pick b r4.2 Z3) fun r5=>(0<=r4.1)/\(r4.1<([Z1,Z1,Z2,Z3].length:Int))/\((v0.2.2.length+[((nI [Z1,Z1,Z2,Z3] r4.1),((decide (Z0<r5.1)),()))].length) * 16<=lim)/\(nxT (LP184_0 b p n) m K (s184_0 b p n (wrap64 (v0.1-Z1),r5.2,(v0.2.2++[((nI [Z1,Z1,Z2,Z3] r4.1),((decide (Z0<r5.1)),()))]))))))))) (K (.exit 0) (⟨[(0,.ptr 1000000 0),(1,dI n),(5,.own 7 none)],[(1000000,.box [.data TBy b,dI v0.2.1]),(7,.arr .sh ax v0.2.2)]⟩:St))):=by kernel_rfl
theorem con184_ok:aV P 184 c184:=aY C184 func184 (kC con67_ok (kC con129_ok kN)) fun args hp K h0=>by
 unfold c184 at h0
 dsimp only at h0
 obtain⟨b,p,rfl,h00⟩:=eT h0
 obtain⟨a0,a1,rfl,_,h1⟩:=bB h00
 obtain⟨rfl,h2⟩:=dh h1
 obtain⟨n,rfl,h3⟩:=bw h2
 obtain⟨h_b,p0,p1,p2,hK⟩:=h3
 have h:ok (F.gA b p n) (fun r=>K (.own 0 none) [(0,.arr .sh ax r.1),(1000000,.box [.data TBy b,dI r.2])]):=aB (F.uc b p n h_b p0 p1 p2) (hK _ rfl)
 refine⟨rfl,ann184,(L184 b p n),.raw,(br (i0:=0) (by kernel_rfl) ?_),?_⟩
 ·rintro _ _ K ⟨hc0,v0,rfl,hv0,h⟩
  exact cast (lvc184_0 _ _ _ _ _ _).symm (cm h (fun m1 hm0 h=>(oC h (fun _ h=>((fun(g1_0:M.ak b)=>(fun(g1_1:0<=v0.2.1)=>(fun(g1_2:v0.2.1<=1000000000000000)=>(fun(g1_3:0<=(M.pick b v0.2.1 Z4).1)=>(fun(g1_4:(M.pick b v0.2.1 Z4).1<([Z1,Z1,Z2,Z3].length:Int))=>(fun(g1_5:0<=(M.pick b v0.2.1 Z4).2)=>(fun(g1_6:(M.pick b v0.2.1 Z4).2<=1000000000000000)=>(fun(g1_7:(v0.2.2.length+[((nI [Z1,Z1,Z2,Z3] (M.pick b v0.2.1 Z4).1),((decide (Z0<(M.pick b (M.pick b v0.2.1 Z4).2 Z3).1)),()))].length) * 16<=lim)=>⟨⟨h_b,⟨g1_0,have g1:=g1_0;⟨g1_1,have g2:=g1_1;⟨g1_2,have g3:=g1_2;(fun r4 er4=>(have g4:0<=r4.1:=(by rw[er4];exact g1_3);⟨g4,(have g5:r4.1<([Z1,Z1,Z2,Z3].length:Int):=(by rw[er4];exact g1_4);⟨g5,(q0 (⟨h_b,⟨g1,(have g6:0<=r4.2:=(by rw[er4];exact g1_5);⟨g6,(have g7:r4.2<=1000000000000000:=(by rw[er4];exact g1_6);⟨g7,(fun r5 er5=>(have g8:(v0.2.2.length+[((nI [Z1,Z1,Z2,Z3] r4.1),((decide (Z0<r5.1)),()))].length) * 16<=lim:=(by rw[er5,er4];exact g1_7);⟨g8,(have h:=(aG (cX (aG (aG (aG (aG (cX (aG (aG (aG h).2).2).2 r4 er4)).2).2).2).2 r5 er5)).2;(bz (fun _ hm=>⟨hc0,hm⟩) hm0 _ rfl trivial h))⟩))⟩)⟩)⟩⟩))⟩)⟩))⟩⟩⟩⟩,⟨h_b,⟨g1_0,have g9:=g1_0;⟨g1_1,have g10:=g1_1;⟨g1_2,have g11:=g1_2;(fun r4 er4=>⟨(have g12:0<=r4.1:=(by rw[er4];exact g1_3);⟨g12,(have g13:r4.1<([Z1,Z1,Z2,Z3].length:Int):=(by rw[er4];exact g1_4);⟨g13,(q0 (⟨h_b,⟨g9,(have g14:0<=r4.2:=(by rw[er4];exact g1_5);⟨g14,(have g15:r4.2<=1000000000000000:=(by rw[er4];exact g1_6);⟨g15,(fun r5 er5=>(have g16:(v0.2.2.length+[((nI [Z1,Z1,Z2,Z3] r4.1),((decide (Z0<r5.1)),()))].length) * 16<=lim:=(by rw[er5,er4];exact g1_7);⟨g16,(have h:=(aG (cX (aG (aG (aG (aG (cX (aG (aG (aG h).2).2).2 r4 er4)).2).2).2).2 r5 er5)).2;(bz (fun _ hm=>⟨hc0,hm⟩) hm0 _ rfl trivial h))⟩))⟩)⟩)⟩⟩))⟩)⟩),⟨h_b,⟨g9,(have g17:0<=r4.2:=(by rw[er4];exact g1_5);⟨g17,(have g18:r4.2<=1000000000000000:=(by rw[er4];exact g1_6);⟨g18,(fun r5 er5=>(have g19:0<=r4.1:=(by rw[er4];exact g1_3);⟨g19,(have g20:r4.1<([Z1,Z1,Z2,Z3].length:Int):=(by rw[er4];exact g1_4);⟨g20,(have g21:(v0.2.2.length+[((nI [Z1,Z1,Z2,Z3] r4.1),((decide (Z0<r5.1)),()))].length) * 16<=lim:=(by rw[er5,er4];exact g1_7);⟨g21,(have h:=(aG (cX (aG (aG (aG (aG (cX (aG (aG (aG h).2).2).2 r4 er4)).2).2).2).2 r5 er5)).2;(bz (fun _ hm=>⟨hc0,hm⟩) hm0 _ rfl trivial h))⟩)⟩)⟩))⟩)⟩)⟩⟩⟩)⟩⟩⟩⟩⟩) (aG (cX (aG (aG (aG (aG (cX (aG (aG (aG h).2).2).2 _ rfl)).2).2).2).2 _ rfl)).1) (aG (aG (aG (aG (cX (aG (aG (aG h).2).2).2 _ rfl)).2).2).2).1) (aG (aG (aG (cX (aG (aG (aG h).2).2).2 _ rfl)).2).2).1) (aG (aG (cX (aG (aG (aG h).2).2).2 _ rfl)).2).1) (aG (cX (aG (aG (aG h).2).2).2 _ rfl)).1) (aG (aG (aG h).2).2).1) (aG (aG h).2).1) (aG h).1)) fun _ h=>((cq h :) trivial))))
 ·rw[vc184]
  exact⟨h_b,⟨p0,⟨p1,(oG h fun _ h=>(oL h fun _ _ h=>(bI (fun m hm=>⟨trivial,hm⟩) _ rfl trivial (eA h (fun e0 h hv0=>⟨h_b,⟨p0,(oG h fun _ h=>(oG h fun _ h=>(oL h fun _ _ h=>(oC h (fun _ h=>⟨h_b,⟨p0,(oG h fun _ h=>(oG h fun _ h=>(oL h fun _ _ h=>(oG h fun _ h=>h))))⟩⟩) fun _ h=>h))))⟩⟩)))))⟩⟩⟩
def c187:Con:=⟨[.any,.dat ax],fun args hp K=>hpR (fun b p=>args2 (fun a0 a1=>me a0 (eX ax a1 fun c=>(Sm TBy b)/\(M.ak b)/\(0<=p)/\(p<=998000000000000)/\(LD (M.kX b p c) fun r=>K (.data aa r.1) [(1000000,.box [.data TBy b,dI r.2])]))) args []) hp,.plain,true⟩
abbrev C187:Ctx:=cx [(67,c67)] 31 [] 0 false
def ann187:=an [[.fixRow 3 ax,kp 25],[kp 2073],[kp 16],[kp 16401],[kp 49169],[kp 16],[kp 1048593],[kp 16],[kp 16]] []
theorem vc187 (b:LI) (p:Int) (c:ax.D) (K:KA):vcT C187 aA ann187 f187 [.ptr 1000000 0,.data ax c] [(1000000,.box [.data TBy b,dI p])] (.dat aa) K =
 (cond (c.2.1==true) ((Sm TBy b)/\(M.ak b)/\(0<=p)/\(p<=1000000000000000)/\(LD (M.pick b p Z5) fun r1=>cond (decide (r1.1=Z0)) (K (.data aa (Z0,(Z0,((⟨#[]⟩:ByteArray),())))) [(1000000,.box [.data TBy b,dI r1.2])]) (cond (decide (c.1=Z1)) ((Sm TBy b)/\(M.ak b)/\(0<=r1.2)/\(r1.2<=1000000000000000)/\(LD (M.pick b r1.2 Z4) fun r2=>K (.data aa (Z1,(r2.1,((⟨#[]⟩:ByteArray),())))) [(1000000,.box [.data TBy b,dI r2.2])])) (cond (decide (c.1=Z2)) ((Sm TBy b)/\(M.ak b)/\(0<=r1.2)/\(r1.2<=1000000000000000)/\(LD (M.pick b r1.2 Z4) fun r3=>(0<=r3.1)/\(r3.1<([(⟨#[]⟩:ByteArray),(⟨#[97]⟩:ByteArray),(⟨#[98]⟩:ByteArray),(⟨#[97,98]⟩:ByteArray)].length:Int))/\K (.data aa (Z2,(Z0,((nth (t:=Ty.str) [(⟨#[]⟩:ByteArray),(⟨#[97]⟩:ByteArray),(⟨#[98]⟩:ByteArray),(⟨#[97,98]⟩:ByteArray)] r3.1),())))) [(1000000,.box [.data TBy b,dI r3.2])])) ((Sm TBy b)/\(M.ak b)/\(0<=r1.2)/\(r1.2<=1000000000000000)/\(LD (M.pick b r1.2 Z2) fun r4=>K (.data aa (Z3,(r4.1,((⟨#[]⟩:ByteArray),())))) [(1000000,.box [.data TBy b,dI r4.2])])))))) (cond (decide (c.1=Z1)) ((Sm TBy b)/\(M.ak b)/\(0<=p)/\(p<=1000000000000000)/\(LD (M.pick b p Z4) fun r2=>K (.data aa (Z1,(r2.1,((⟨#[]⟩:ByteArray),())))) [(1000000,.box [.data TBy b,dI r2.2])])) (cond (decide (c.1=Z2)) ((Sm TBy b)/\(M.ak b)/\(0<=p)/\(p<=1000000000000000)/\(LD (M.pick b p Z4) fun r3=>(0<=r3.1)/\(r3.1<([(⟨#[]⟩:ByteArray),(⟨#[97]⟩:ByteArray),(⟨#[98]⟩:ByteArray),(⟨#[97,98]⟩:ByteArray)].length:Int))/\K (.data aa (Z2,(Z0,((nth (t:=Ty.str) [(⟨#[]⟩:ByteArray),(⟨#[97]⟩:ByteArray),(⟨#[98]⟩:ByteArray),(⟨#[97,98]⟩:ByteArray)] r3.1),())))) [(1000000,.box [.data TBy b,dI r3.2])])) ((Sm TBy b)/\(M.ak b)/\(0<=p)/\(p<=1000000000000000)/\(LD (M.pick b p Z2) fun r4=>K (.data aa (Z3,(r4.1,((⟨#[]⟩:ByteArray),())))) [(1000000,.box [.data TBy b,dI r4.2])]))))):=by kernel_rfl
theorem con187_ok:aV P 187 c187:=aY C187 func187 (kC con67_ok kN) fun args hp K h0=>by
 unfold c187 at h0
 dsimp only at h0
 obtain⟨b,p,rfl,h00⟩:=eT h0
 obtain⟨a0,a1,rfl,_,h1⟩:=bB h00
 obtain⟨rfl,h2⟩:=dh h1
 obtain⟨c,rfl,h3⟩:=bw h2
 obtain⟨h_b,p0,p1,p2,hK⟩:=h3
 have h:ok (F.jW b p c) (fun r=>K (.data aa r.1) [(1000000,.box [.data TBy b,dI r.2])]):=aB (F.yE b p c h_b p0 p1 p2) (hK _ rfl)
 refine⟨rfl,ann187,aA,(.dat aa),(aI (by kernel_rfl)),?_⟩
 ·rw[vc187]
  exact(oC h (fun _ h=>⟨h_b,⟨p0,⟨p1,(oG h fun _ h=>(oL h fun _ _ h=>(oC h (fun _ h=>h) fun _ h=>(oC h (fun _ h=>⟨h_b,⟨p0,(oG h fun _ h=>(oG h fun _ h=>(oL h fun _ _ h=>h)))⟩⟩) fun _ h=>(oC h (fun _ h=>⟨h_b,⟨p0,(oG h fun _ h=>(oG h fun _ h=>(oL h fun _ _ h=>(oG h fun _ h=>(oG h fun _ h=>h)))))⟩⟩) fun _ h=>⟨h_b,⟨p0,(oG h fun _ h=>(oG h fun _ h=>(oL h fun _ _ h=>h)))⟩⟩)))))⟩⟩⟩) fun _ h=>(oC h (fun _ h=>⟨h_b,⟨p0,⟨p1,(oG h fun _ h=>(oL h fun _ _ h=>h))⟩⟩⟩) fun _ h=>(oC h (fun _ h=>⟨h_b,⟨p0,⟨p1,(oG h fun _ h=>(oL h fun _ _ h=>(oG h fun _ h=>(oG h fun _ h=>h))))⟩⟩⟩) fun _ h=>⟨h_b,⟨p0,⟨p1,(oG h fun _ h=>(oL h fun _ _ h=>h))⟩⟩⟩)))
end Go.AE
